/- Stores. -/
import Derived.Test.YtcgmelealalhhaaGreatDoorAlOp8
namespace Go.Al
variable {P : Program} {H : Hint}
theorem heap_setCells (b : Nat) : ∀ (us : List Value) (o : Nat) (w : World) (b' : Nat), b' ≠ b → (w.setCells b o us).heap[b']? = w.heap[b']?
 | [], _, _, _, _ => rfl
 | u :: us, o, w, b', h => by rw [World.setCells, heap_setCells b us (o + 1) _ b' h]; exact heap_setCell_other w ⟨b, o, none⟩ b' u h
theorem io_setCells (b : Nat) : ∀ (us : List Value) (o : Nat) (w : World), SameIo w (w.setCells b o us)
 | [], _, _ => ⟨rfl, rfl⟩
 | _ :: us, o, w => io_setCells b us (o + 1) (w.setCell _ _)
theorem size_setCells (b : Nat) : ∀ (us : List Value) (o : Nat) (w : World), (w.setCells b o us).heap.size = w.heap.size
 | [], _, _ => rfl
 | u :: us, o, w => by rw [World.setCells, size_setCells b us (o + 1)]; simp
theorem rangeAt_put {w : World} {b off : Nat} {vs us : List Value} (h : w.rangeAt b 0 vs) (hle : off + us.length ≤ vs.length) :
  (w.setCells b off us).rangeAt b 0 (vs.take off ++ us ++ vs.drop (off + us.length)) := fun j v hv => by
 rw [Nat.zero_add]
 have hsome : ∀ i, i < us.length → (w.cell? ⟨b, off + i, none⟩).isSome = true := fun i hi => by
  have : off + i < vs.length := by omega
  have := h (off + i) vs[off + i] (by simp [this])
  rw [Nat.zero_add] at this; rw [this]; rfl
 by_cases h1 : j < off
 ·rw [World.cell?_setCells_out b us off w ⟨b, j, none⟩ (fun _ _ => .inl h1)]
  rw [List.append_assoc, List.getElem?_append_left (by simp; omega), List.getElem?_take, if_pos h1] at hv
  have := h j v hv
  rwa [Nat.zero_add] at this
 ·by_cases h2 : j < off + us.length
  ·have := World.cell?_setCells_in b us off w hsome (j - off) (by omega)
   rw [show off + (j - off) = j by omega] at this
   rw [this]
   rw [List.append_assoc, List.getElem?_append_right (by simp; omega), List.getElem?_append_left (by simp; omega)] at hv
   have hl : (vs.take off).length = off := by simp; omega
   rw [hl, List.getElem?_eq_getElem (by omega)] at hv
   exact hv
  ·rw [World.cell?_setCells_out b us off w ⟨b, j, none⟩ (fun _ _ => .inr (by show off + us.length ≤ j; omega))]
   rw [List.getElem?_append_right (by simp; omega), List.getElem?_drop] at hv
   have hl : (vs.take off ++ us).length = off + us.length := by simp; omega
   rw [hl, show off + us.length + (j - (off + us.length)) = j by omega] at hv
   have := h j v hv
   rwa [Nat.zero_add] at this
theorem run_storeAt {ty n : Nat} (hs : sizeT P ty = some n) {w : World} {b o : Nat} {u : Value} (hn : u.cells.size = n) (hc : ∀ j, j < n → (w.cell? ⟨b, o + j, none⟩).isSome = true) (hf : ∀ j, j < n → w.frozen? ⟨b, o + j, none⟩ = false)
  (h1 : ∀ v ∈ u.cells.toList, v.oneCell' = true) : (Instr.storeAt ty (.pointer (some ⟨b, o, none⟩)) u).run P w = .ok () (w.setCells b o u.cells.toList) := by
 obtain ⟨i, hi, hz⟩ := sizeT_some hs
 have hlen : u.cells.toList.length = n := by simpa using hn
 have := run_storeCells_cells (P := P) b o u.cells.toList 0 w (fun j hj => by rw [Nat.add_zero]; exact hc j (by omega)) (fun j hj => by rw [Nat.add_zero]; exact hf j (by omega)) h1
 rw [Nat.add_zero] at this
 simp only [Instr.storeAt, Instr.sureAddr, Sem.run_bind, Sem.run_pure, Result.andThen_ok, storeVar, sizeOf, typeInfo]
 simp [hi, hz, hn, this]
theorem putCells_rel {G : Gh} {m : Mem} {w : World} {old w1 : A1} {vs us : List Value} {new : List C} {off : Nat} (hr : CsRel G m w old vs) (hn : All2 (CRel G m w) new us) (hroom : off + new.length ≤ nA old)
  (h : putCells off new old = some w1) : CsRel G m w w1 (vs.take off ++ us ++ vs.drop (off + us.length)) ∧ nA w1 = nA old := by
 have hl := hn.length
 have hvl := hr.len
 cases old with
 | lp => exact hr.elim
 | mp => exact hr.elim
 | one c =>
  simp only [putCells] at h
  split at h
  ·rename_i c'
   obtain ⟨h0, h⟩ := cond_some h
   have h0 := Nat.eq_of_beq_eq_true h0
   cases h; subst h0
   obtain ⟨v, rfl, _⟩ := hr
   cases hn with
   | cons h1 h2 =>
    cases h2
    rename_i u
    exact ⟨⟨u, by simp, h1⟩, rfl⟩
  ·cases h
 | agg l =>
  simp only [putCells] at h
  obtain ⟨_, h⟩ := cond_some h
  cases h
  have hr : All2 (CRel G m w) l vs := hr
  refine ⟨((hr.take off).append hn).append (by rw [← hl]; exact hr.drop _), ?_⟩
  have hroom : off + new.length ≤ l.length := hroom
  simp [nA]; omega
 | arr τ N xs =>
  obtain ⟨hat, hN, hall⟩ := hr
  have hroom' : off + new.length ≤ N := hroom
  clear hroom
  have hroom := hroom'
  clear hroom'
  simp only [putCells] at h
  split at h
  ·rename_i c
   cases hn with
   | cons h1 h2 =>
    cases h2
    rename_i u
    have single : ∀ (l l' : List C), l' = l.set off c → off < l.length → All2 (CRel G m w) l vs → All2 (CRel G m w) l' (vs.take off ++ [u] ++ vs.drop (off + 1)) := fun l l' e ho hr => by
     subst e
     rw [List.set_eq_take_append_cons_drop, if_pos ho, List.append_assoc]
     exact (hr.take off).append (.cons h1 (hr.drop _))
    split at h
    ·rename_i k xs k' q
     obtain ⟨rfl, h⟩ := ite_some h
     cases h
     refine ⟨⟨hat, by simpa using hN, single _ _ ?_ ?_ hall⟩, rfl⟩
     ·simp [arrC, List.map_set]
     ·rw [arrC_len hat]; simp at hroom; omega
    ·rename_i xs q
     cases h
     refine ⟨⟨hat, by simpa using hN, single _ _ ?_ ?_ hall⟩, rfl⟩
     ·simp [arrC, List.map_set]
     ·rw [arrC_len hat]; simp at hroom; omega
    ·cases h
  ·split at h
   case h_2 => cases h
   rename_i ys hys
   have conv : ∀ (n : Nat) (τ : Ty) (l : List C) (ys : List (den τ)) (us : List Value), atom τ = true → All2 (CRel G m w) l us → dcRow τ n l = some ys → ys.length = n ∧ l.length = n ∧ All2 (CRel G m w) (arrC τ ys) us := fun n τ => by
    induction n with
    | zero =>
     intro l ys us ha hr h
     cases l with
     | nil => simp [dcRow] at h; subst h; cases hr; cases τ <;> simp [atom] at ha <;> exact ⟨rfl, rfl, .nil⟩
     | cons _ _ => simp [dcRow] at h
    | succ n ih =>
     intro l ys us ha hr h
     cases hr with
     | nil => cases τ <;> simp [atom] at ha <;> simp [dcRow, dcs, dcOne] at h
     | cons h1 h2 =>
      rename_i c v l' vs'
      cases τ <;> simp [atom] at ha <;> simp only [dcRow, dcs, dcOne] at h
      ·rename_i k
       cases hd : dc1 (.int k) c with
       | none => rw [hd] at h; cases h
       | some q =>
        rw [hd] at h
        simp only at h
        cases hq : dcRow (.int k) n l' with
        | none => rw [hq] at h; cases h
        | some zs =>
         rw [hq] at h; cases h
         obtain ⟨e1, e2, e3⟩ := ih _ _ _ rfl h2 hq
         refine ⟨by simp [e1], by simp [e2], .cons ?_ e3⟩
         cases c <;> simp [dc1] at hd
         obtain ⟨rfl, rfl⟩ := hd
         exact h1
      ·cases hd : dc1 .bool c with
       | none => rw [hd] at h; cases h
       | some q =>
        rw [hd] at h
        simp only at h
        cases hq : dcRow .bool n l' with
        | none => rw [hq] at h; cases h
        | some zs =>
         rw [hq] at h; cases h
         obtain ⟨e1, e2, e3⟩ := ih _ _ _ rfl h2 hq
         refine ⟨by simp [e1], by simp [e2], .cons ?_ e3⟩
         cases c <;> simp [dc1] at hd
         subst hd
         exact h1
   cases hcd : Nat.beq new.length N && Nat.beq off 0 && atom τ with
   | true =>
    rw [hcd, cond_true] at h
    cases h
    simp only [Bool.and_eq_true] at hcd
    have h0 := Nat.eq_of_beq_eq_true hcd.1.2
    have hN' := Nat.eq_of_beq_eq_true hcd.1.1
    subst h0
    have hvs : vs.length = N := hvl
    have : vs.take 0 ++ us ++ vs.drop (0 + us.length) = us := by rw [List.drop_of_length_le (by omega)]; simp
    rw [this]
    obtain ⟨e1, e2, e3⟩ := conv _ _ _ _ _ hat hn hys
    exact ⟨⟨hat, by omega, e3⟩, rfl⟩
   | false =>
    rw [hcd, cond_false] at h
    obtain ⟨_, h⟩ := cond_some h
    cases h
    obtain ⟨e1, e2, e3⟩ := conv _ _ _ _ _ hat hn hys
    have harr : ∀ (τ : Ty) (xs ys : List (den τ)) (o : Nat), atom τ = true → arrC τ (setRow xs o ys) = (arrC τ xs).take o ++ arrC τ ys ++ (arrC τ xs).drop (o + ys.length) := fun τ xs ys o ha => by
     cases τ <;> simp [atom] at ha <;> simp [arrC, setRow]
    refine ⟨⟨hat, ?_, ?_⟩, rfl⟩
    ·simp only [setRow, List.length_append, List.length_take, List.length_drop]; omega
    ·rw [harr _ _ _ _ hat, e1, hl]
     exact ((hall.take off).append e3).append (hall.drop _)
theorem MRel.put {B : Beg} {G : Gh} {m : Mem} {w : World} (h : MRel P B G m w) {l : Loc} {old w1 : A1} (hg : getM m l = some (.bx old)) {vs us : List Value} {off : Nat} (hle : off + us.length ≤ vs.length)
  (hr : w.rangeAt (G.β l) 0 vs) (hfz : ∀ j, j < vs.length → w.frozen? ⟨G.β l, j, none⟩ = false) (hn : nA w1 = nA old) (hc : CsRel G m w w1 (vs.take off ++ us ++ vs.drop (off + us.length))) :
  MRel P B G ((l, .bx w1) :: m) (w.setCells (G.β l) off us) ∧ Ext G m w G ((l, .bx w1) :: m) (w.setCells (G.β l) off us) := by
 have hW : Writ G m l := by unfold Writ; rw [hg]; trivial
 have hE : Ext G m w G ((l, .bx w1) :: m) (w.setCells (G.β l) off us) := Ext.write hg hn.symm fun b hb => heap_setCells _ us off w b fun e => h.wr l hW (e ▸ hb)
 refine ⟨h.write hg hW hn.symm (by unfold Writ; rw [getM_cons, if_pos rfl]; trivial) (size_setCells _ us off w) (fun b hb => heap_setCells _ us off w b hb) ?_ (io_setCells _ _ _ _), hE⟩
 refine .inl ⟨_, hE.Cs hc, rangeAt_put hr hle, fun j hj => ?_⟩
 rw [World.frozen?_setCells]
 exact hfz j (by simp at hj; omega)
theorem MRel.putOwn {B : Beg} {G : Gh} {m : Mem} {w : World} (h : MRel P B G m w) {i j off : Nat} {τ : Ty} {xs : List (den τ)} {y : den τ} {us ol : List Value} (hg : getM m (.own i) = some (.sl τ xs false)) (hj : j < xs.length)
  (hol : Rep G.S w τ xs[j] ol) (hoc : w.rangeAt (G.β (.own i)) (j * ncell τ) ol) (hle : off + us.length ≤ ncell τ) (hy : Rep G.S w τ y (ol.take off ++ us ++ ol.drop (off + us.length))) :
  MRel P B G ((.own i, .sl τ (xs.set j y) false) :: m) (w.setCells (G.β (.own i)) (j * ncell τ + off) us) ∧ Ext G m w G ((.own i, .sl τ (xs.set j y) false) :: m) (w.setCells (G.β (.own i)) (j * ncell τ + off) us) := by
 obtain ⟨i', e, hcap, _, hrow, hcell⟩ := h.objs _ _ hg
 cases e
 have hκ : 0 < G.κ i := by omega
 have hW : Writ G m (.own i) := by unfold Writ; rw [hg]; exact ⟨i, rfl, hκ⟩
 have hch : Ch (.own i) (.sl τ xs false) (.sl τ (xs.set j y) false) := ⟨rfl, by simp⟩
 have hE : Ext G m w G ((.own i, .sl τ (xs.set j y) false) :: m) (w.setCells (G.β (.own i)) (j * ncell τ + off) us) := Ext.write hg hch fun b hb => heap_setCells _ us _ w b fun e => h.wr _ hW (e ▸ hb)
 have holl := hol.len
 have hsome : ∀ q, q < us.length → (w.cell? ⟨G.β (.own i), j * ncell τ + off + q, none⟩).isSome = true := fun q hq => by
  have : off + q < ol.length := by omega
  have := hoc (off + q) ol[off + q] (by simp [this])
  rw [← Nat.add_assoc] at this; rw [this]; rfl
 refine ⟨h.write hg hW hch (by unfold Writ; rw [getM_cons, if_pos rfl]; exact ⟨i, rfl, hκ⟩) (size_setCells _ us _ w) (fun b hb => heap_setCells _ us _ w b hb) ?_ (io_setCells _ _ _ _), hE⟩
 refine ⟨i, rfl, by simpa using hcap, fun e => (Bool.false_ne_true e).elim, fun q hq => ?_, fun _ q hq => ?_⟩
 ·have hq' : q < xs.length := by simpa using hq
  by_cases e : q = j
  ·subst e
   refine ⟨ol.take off ++ us ++ ol.drop (off + us.length), by rw [List.getElem_set_self]; exact hy.mono hE.S hE.heap, fun p v hv => ?_⟩
   by_cases h1 : p < off
   ·rw [World.cell?_setCells_out _ us _ w ⟨_, _, none⟩ (fun _ _ => .inl (by show q * ncell τ + p < q * ncell τ + off; omega))]
    rw [List.append_assoc, List.getElem?_append_left (by simp; omega), List.getElem?_take, if_pos h1] at hv
    exact hoc p v hv
   ·by_cases h2 : p < off + us.length
    ·have := World.cell?_setCells_in (G.β (.own i)) us (q * ncell τ + off) w hsome (p - off) (by omega)
     rw [show q * ncell τ + off + (p - off) = q * ncell τ + p by omega] at this
     rw [this]
     rw [List.append_assoc, List.getElem?_append_right (by simp; omega), List.getElem?_append_left (by simp; omega)] at hv
     have hl : (ol.take off).length = off := by simp; omega
     rw [hl, List.getElem?_eq_getElem (by omega)] at hv
     exact hv
    ·rw [World.cell?_setCells_out _ us _ w ⟨_, _, none⟩ (fun _ _ => .inr (by show q * ncell τ + off + us.length ≤ q * ncell τ + p; omega))]
     rw [List.getElem?_append_right (by simp; omega), List.getElem?_drop] at hv
     have hl : (ol.take off ++ us).length = off + us.length := by simp; omega
     rw [hl, show off + us.length + (p - (off + us.length)) = p by omega] at hv
     exact hoc p v hv
  ·obtain ⟨us', hr, hc⟩ := hrow q hq'
   refine ⟨us', by rw [List.getElem_set_ne (Ne.symm e)]; exact hr.mono hE.S hE.heap, fun p v hv => ?_⟩
   have hp : p < ncell τ := by have := (List.getElem?_eq_some_iff.1 hv).1; have := hr.len; omega
   rw [World.cell?_setCells_out _ us _ w ⟨_, _, none⟩ (fun _ _ => ?_)]
   ·exact hc p v hv
   ·show q * ncell τ + p < j * ncell τ + off ∨ j * ncell τ + off + us.length ≤ q * ncell τ + p
    rcases Nat.lt_or_gt_of_ne e with h1 | h1
    ·left
     have : (q + 1) * ncell τ ≤ j * ncell τ := Nat.mul_le_mul_right _ h1
     rw [Nat.add_mul] at this; omega
    ·right
     have : (j + 1) * ncell τ ≤ q * ncell τ := Nat.mul_le_mul_right _ h1
     rw [Nat.add_mul] at this; omega
 ·obtain ⟨c1, c2⟩ := hcell rfl q hq
  refine ⟨?_, by rw [World.frozen?_setCells]; exact c2⟩
  by_cases h1 : j * ncell τ + off ≤ q ∧ q < j * ncell τ + off + us.length
  ·have := World.cell?_setCells_in (G.β (.own i)) us (j * ncell τ + off) w hsome (q - (j * ncell τ + off)) (by omega)
   rw [show j * ncell τ + off + (q - (j * ncell τ + off)) = q by omega] at this
   rw [this]; rfl
  ·rw [World.cell?_setCells_out _ us _ w ⟨_, _, none⟩ (fun _ _ => by show q < _ ∨ _ ≤ q; omega)]
   exact c1
theorem getM_freeze {m0 : Mem} {l : Loc} : ∀ (is : List Nat) (m : Mem), (∀ i ∈ is, Loc.own i ≠ l) → getM (setMs m (freeze (getM m0) is)) l = getM m l
 | [], _, _ => rfl
 | i :: r, m, h => by
  simp only [freeze]
  split
  ·rename_i hg
   show getM (setMs ((.own i, _) :: m) (freeze (getM m0) r)) l = _
   rw [getM_freeze r _ fun j hj => h j (by simp [hj]), getM_cons, if_neg (h i (by simp))]
  ·exact getM_freeze r m fun j hj => h j (by simp [hj])
section
variable {R : Type} {calls : Nat → Option CallS} {ρ : Operand → AV} {μ : Loc → Option Obj} {o : Oper} {k : Eff → Option R} {r : R}
theorem op_store {ty : Nat} {x y : Operand} (ho : o.op = .store ty x y) (h : opK P H calls ρ μ o k = some r) : ∃ e, k e = some r ∧ Sound P o ρ μ e := by
 simp only [opK, ho] at h
 have hops : o.op.operands = #[x, y] := by rw [ho]; rfl
 split at h
 case h_2 => cases h
 rename_i n v hs hv0
 have hv := asA1_some hv0
 clear hv0
 have hrun : ∀ (a : Act) (w : World) (b oo : Nat), a.eval x = .pointer (some ⟨b, oo, none⟩) → (a.eval y).cells.size = n → (∀ j, j < n → (w.cell? ⟨b, oo + j, none⟩).isSome = true) → (∀ j, j < n → w.frozen? ⟨b, oo + j, none⟩ = false) →
   (∀ v ∈ (a.eval y).cells.toList, v.oneCell' = true) → (execOp a.eval o).run P w = .ok .skip (w.setCells b oo (a.eval y).cells.toList) := fun a w b oo e1 e2 e3 e4 e5 => by
  simp only [execOp, ho, e1, Sem.run_bind, run_storeAt hs e2 e3 e4 e5]; rfl
 split at h
 ·-- a variable
  rename_i l off room hx
  obtain ⟨hroom, h⟩ := cond_some h
  have hroom := Nat.le_of_ble_eq_true hroom
  split at h
  case h_2 => cases h
  rename_i old hold
  have fin : ∀ (w1 : A1) (rd : List Loc), isLp old = false → l ∈ rd → (∀ (s : St), (∀ z ∈ rd, getM s.mem z = μ z) → ∀ (G : Gh) (w : World) (u : Value) (vs : List Value), A1Rel G s.mem w v u → CsRel G s.mem w old vs → off + n ≤ nA old →
     u.cells.size = n ∧ (∀ q ∈ u.cells.toList, q.oneCell' = true) ∧ nA w1 = nA old ∧ CsRel G s.mem w w1 (vs.take off ++ u.cells.toList ++ vs.drop (off + u.cells.toList.length))) →
    k ⟨one .und, [(l, .bx w1)], rd⟩ = some r → ∃ e, k e = some r ∧ Sound P o ρ μ e := fun w1 rd hlp hlrd hkey hk => by
   refine ⟨_, hk, fun s hρ hμ => SemO.of fun B G a w hw => ?_⟩
   have hm : getM s.mem l = some (.bx old) := by rw [hμ l (by simp [hlrd])]; exact hold
   have ex := asC_rel (hw.ev x)
   rw [hρ x (by rw [hops]; simp), hx] at ex
   obtain ⟨e1, e2⟩ := ex
   rw [hm] at e1
   have e1 : off + room ≤ nA old := e1
   have ey := hw.ev y
   rw [hρ y (by rw [hops]; simp), hv] at ey
   obtain ⟨vs, hcs, hrange, hfz⟩ := (hw.mem.objs l _ hm).cells hlp
   have hvl := hcs.len
   obtain ⟨k1, k2, k3, k4⟩ := hkey s (fun z hz => hμ z (by simp [hz])) G w _ vs ey hcs (by omega)
   have hlen : (a.eval y).cells.toList.length = n := by simpa using k1
   obtain ⟨h1, hE⟩ := hw.mem.put hm (us := (a.eval y).cells.toList) (off := off) (by omega) hrange hfz k3 k4
   refine ⟨undef, _, G, .inr ⟨rfl, hrun a w _ _ e2 k1 (fun j hj => ?_) (fun j hj => hfz _ (by omega)) k2⟩, h1, hE, trivial⟩
   have : off + j < vs.length := by omega
   have := hrange (off + j) vs[off + j] (by simp [this])
   rw [Nat.zero_add] at this
   rw [this]; rfl
  split at h
  ·-- a whole array
   rename_i τ N xs τ' N' xs' _
   obtain ⟨hb, h⟩ := cond_some h
   simp only [Bool.and_eq_true, decide_eq_true_eq] at hb
   obtain ⟨⟨⟨hτ, hN⟩, h0⟩, hn⟩ := hb
   have hN := Nat.eq_of_beq_eq_true hN
   have h0 := Nat.eq_of_beq_eq_true h0
   have hn := Nat.eq_of_beq_eq_true hn
   refine fin _ _ rfl (by simp) (fun s _ G w u vs hu hcs _ => ?_) h
   obtain ⟨us, rfl, hat, hxl, hall⟩ := hu
   have hul := hall.length
   rw [arrC_len hat] at hul
   have hvl := hcs.len
   have hvl : vs.length = N' := hvl
   subst h0
   have hcells : (Value.agg us.toArray).cells.toList = us := by simp [Value.cells]
   have hone : ∀ q ∈ us, q.oneCell' = true := fun q hq => by
    obtain ⟨i, hi, rfl⟩ := List.getElem_of_mem hq
    cases τ <;> simp [atom] at hat
    ·have := arrI_get hall (i := i) (by simp [hxl]; omega)
     rw [List.getElem?_eq_getElem hi] at this
     rw [Option.some.inj this]; rfl
    ·have := arrB_get hall (i := i) (by simp [hxl]; omega)
     rw [List.getElem?_eq_getElem hi] at this
     rw [Option.some.inj this]; rfl
   rw [hcells]
   refine ⟨by simp [Value.cells]; omega, hone, hN, ?_⟩
   have : vs.take 0 ++ us ++ vs.drop (0 + us.length) = us := by rw [List.drop_of_length_le (by omega)]; simp
   rw [this]
   exact ⟨hat, hxl, hall⟩
  ·split at h
   case h_2 => cases h
   rename_i new hnew
   obtain ⟨hlen, h⟩ := cond_some h
   have hlen := Nat.eq_of_beq_eq_true hlen
   split at h
   case h_2 => cases h
   rename_i w1 hw1
   refine fin _ _ (put_lp hw1) (by simp) (fun s hag G w u vs hu hcs hle => ?_) h
   obtain ⟨c1, _, c3⟩ := cells_rel (cells_congr hnew fun j hj => (hag _ (by simp [ownLs_mem hj])).symm) hu
   have hul := c1.length
   obtain ⟨p1, p2⟩ := putCells_rel hcs c1 (by omega) hw1
   exact ⟨by simp at hul; omega, c3, p2, p1⟩
 ·-- an element of a slice of the function's own
  rename_i i j off hx
  split at h
  case h_2 => cases h
  rename_i new τ xs hnew hown
  obtain ⟨hb, h⟩ := cond_some h
  simp only [Bool.and_eq_true, Bool.not_eq_true'] at hb
  obtain ⟨hlen, hself⟩ := hb
  have hlen := Nat.eq_of_beq_eq_true hlen
  split at h
  case h_2 => cases h
  rename_i l hl
  split at h
  case h_2 => cases h
  rename_i q hq
  refine ⟨_, h, fun s hρ hμ => SemO.of fun B G a w hw => ?_⟩
  have hag : ∀ p ∈ ownsOf new, getM s.mem (.own p) = μ (.own p) := fun p hp => hμ _ (by simp [ownLs_mem hp])
  have hm : getM s.mem (.own i) = some (.sl τ xs false) := by rw [hμ _ (by simp)]; exact hown
  have ex := asC_rel (hw.ev x)
  rw [hρ x (by rw [hops]; simp), hx] at ex
  simp only [CRel, hm] at ex
  obtain ⟨hj, e2⟩ := ex
  have ey := hw.ev y
  rw [hρ y (by rw [hops]; simp), hv] at ey
  obtain ⟨c1, _, c3⟩ := cells_rel (cells_congr hnew fun p hp => (hag p hp).symm) ey
  have hul := c1.length
  obtain ⟨G', hM, hE, hS⟩ := hw.mem.frz (ownsOf new)
  have hfz : freeze μ (ownsOf new) = freeze (getM s.mem) (ownsOf new) := freeze_congr fun p hp => (hag p hp).symm
  have hrs : new.map (resolve μ) = new.map (resolve (getM s.mem)) := resolves_congr fun p hp => (hag p hp).symm
  rw [hrs, getD_lt hj] at hl
  have c1' := resolve_all hw.mem hE hS c1
  have hm1 : getM (setMs s.mem (freeze (getM s.mem) (ownsOf new))) (.own i) = some (.sl τ xs false) := by
   rw [getM_freeze _ _ fun p hp e => ?_]
   ·exact hm
   ·cases e
    have := List.any_eq_false.1 hself i hp
    exact this (Nat.beq_refl i)
  obtain ⟨ol, hol, hoc⟩ := (hM.row hm1).2 j hj
  have hβ : G'.β (.own i) = G.β (.own i) := by obtain ⟨_, _, _, hb, _⟩ := hE.live _ _ hm; exact hb
  have hlen2 : (new.map (resolve (getM s.mem))).length = n := by simpa using hlen
  have hcsl := cs_len τ xs[j]
  have hle : off + n ≤ ncell τ := by
   simp only [putCells] at hl
   obtain ⟨hb, _⟩ := cond_some hl
   have := Nat.le_of_ble_eq_true hb
   rw [hcsl, hlen2] at this; exact this
  obtain ⟨p1, _⟩ := putCells_rel (old := .agg (cs τ xs[j])) (vs := ol) (cs_rel hol) c1' (by rw [hlen2]; show off + n ≤ (cs τ xs[j]).length; omega) hl
  have hrep := dcAll_rel hq p1
  have husz : (a.eval y).cells.toList.length = n := by omega
  obtain ⟨h1, hE1⟩ := hM.putOwn hm1 hj hol hoc (by rw [husz]; exact hle) hrep
  obtain ⟨i', e', _, _, _, hcell⟩ := hw.mem.objs _ _ hm
  cases e'
  have hin : ∀ p, p < n → j * ncell τ + off + p < G.κ i * ncell τ := fun p hp => by
   have h2 := (hw.mem.row hm).1
   have : (j + 1) * ncell τ ≤ G.κ i * ncell τ := Nat.mul_le_mul_right _ (by omega)
   rw [Nat.add_mul] at this; omega
  refine ⟨undef, _, G', .inr ⟨rfl, hrun a w _ _ e2 (by simpa using husz) (fun p hp => (hcell rfl _ (hin p hp)).1) (fun p hp => (hcell rfl _ (hin p hp)).2) c3⟩, ?_, ?_, trivial⟩
  ·rw [hfz, setMs_append, ← hβ]; exact h1
  ·rw [hfz, setMs_append, ← hβ]; exact hE.trans hE1
 ·cases h
end
end Go.Al
