/- Literals. -/
import Derived.Test.YtcgmelealalhhaaGreatDoorAlOp7
namespace Go.Al
variable {P : Program} {H : Hint}
theorem cells_cs {G : Gh} {m : Mem} {w : World} {z : A1} {vs : List Value} {μ : Loc → Option Obj} {l : List C} (hc : cells μ z = some l) (h : CsRel G m w z vs) : All2 (CRel G m w) l vs := by
 cases z with
 | lp => exact h.elim
 | mp => exact h.elim
 | one c =>
  simp only [cells] at hc
  obtain ⟨_, hc⟩ := cond_some hc
  cases hc
  obtain ⟨v, rfl, hr⟩ := h
  exact .cons hr .nil
 | agg l' =>
  simp only [cells] at hc
  obtain ⟨_, hc⟩ := cond_some hc
  cases hc; exact h
 | arr τ n xs =>
  obtain ⟨hat, hn, hall⟩ := h
  simp only [cells] at hc
  split at hc
  ·rename_i k xs
   cases hc
   have e : (List.range n).map (fun i => C.int k (List.getD xs i (0 : Int))) = arrC (.int k) xs := by
    apply List.ext_getElem
    ·simp [arrC, hn]
    ·intro i h1 h2
     have : i < xs.length := by simpa [arrC] using h2
     simp [arrC, List.getElem?_eq_getElem this]
   rw [e]; exact hall
  ·rename_i xs
   cases hc
   have e : (List.range n).map (fun i => C.bool (List.getD xs i false)) = arrC .bool xs := by
    apply List.ext_getElem
    ·simp [arrC, hn]
    ·intro i h1 h2
     have : i < xs.length := by simpa [arrC] using h2
     simp [arrC, List.getElem?_eq_getElem this]
   rw [e]; exact hall
  ·cases hc
theorem ownsOf_append (a b : List C) : ownsOf (a ++ b) = ownsOf a ++ ownsOf b := by
 induction a with
 | nil => rfl
 | cons c r ih => cases c <;> simp [ownsOf, ih]
theorem own_flat {ps : List (Nat × List C)} {p : Nat × List C} (hp : p ∈ ps) : ∀ j ∈ ownsOf p.2, j ∈ ownsOf (ps.map (·.2)).flatten := by
 induction ps with
 | nil => cases hp
 | cons q qs ih =>
  intro j hj
  simp only [List.map_cons, List.flatten_cons, ownsOf_append, List.mem_append]
  rcases List.mem_cons.1 hp with rfl | hp
  ·exact .inl hj
  ·exact .inr (ih hp j hj)
theorem partsC_rel {G : Gh} {m : Mem} {w : World} {ρ : Operand → AV} {μ : Loc → Option Obj} {a : Act} : ∀ {l : List (Nat × Operand)} {ps : List (Nat × List C)}, partsC ρ μ l = some ps →
  (∀ p ∈ l, AVRel G m w (ρ p.2) (a.eval p.2)) → (∀ i ∈ ownsOf (ps.map (·.2)).flatten, getM m (.own i) = μ (.own i)) →
  All2 (fun (p : Nat × List C) (q : Nat × Value) => p.1 = q.1 ∧ All2 (CRel G m w) p.2 q.2.cells.toList) ps (l.map fun p => (p.1, a.eval p.2)) ∧ (∀ q ∈ l.map (fun p => (p.1, a.eval p.2)), ∀ u ∈ q.2.cells.toList, u.oneCell' = true)
 | [], ps, h, _, _ => by simp [partsC] at h; subst h; exact ⟨.nil, fun q hq => by cases hq⟩
 | (i, x) :: l, ps, h, hρ, ho => by
  simp only [partsC] at h
  split at h
  case h_2 => cases h
  rename_i v hx
  split at h
  case h_2 => cases h
  rename_i l1 hl1
  split at h
  case h_2 => cases h
  rename_i m' hm'
  cases h
  have hsub : ∀ j ∈ ownsOf l1, j ∈ ownsOf ((((i, l1) :: m').map (·.2)).flatten) := fun j hj => by
   simp only [List.map_cons, List.flatten_cons, ownsOf_append, List.mem_append]; exact .inl hj
  have hsub2 : ∀ j ∈ ownsOf ((m'.map (·.2)).flatten), j ∈ ownsOf ((((i, l1) :: m').map (·.2)).flatten) := fun j hj => by
   simp only [List.map_cons, List.flatten_cons, ownsOf_append, List.mem_append]; exact .inr hj
  obtain ⟨i1, i2⟩ := partsC_rel hm' (fun p hp => hρ p (by simp [hp])) fun j hj => ho j (hsub2 j hj)
  have hv := hρ (i, x) (by simp)
  rw [hx] at hv
  obtain ⟨c1, _, c3⟩ := cells_rel (cells_congr hl1 fun j hj => (ho j (hsub j hj)).symm) hv
  refine ⟨.cons ⟨rfl, c1⟩ i1, fun q hq => ?_⟩
  rcases List.mem_cons.1 hq with rfl | hq
  ·exact c3
  ·exact i2 q hq
section
variable {R : Type} {calls : Nat → Option CallS} {ρ : Operand → AV} {μ : Loc → Option Obj} {o : Oper} {k : Eff → Option R} {r : R}
theorem op_build {ty : Nat} {parts : Array (Nat × Operand)} (ho : o.op = .build ty parts) (h : opK P H calls ρ μ o k = some r) : ∃ e, k e = some r ∧ Sound P o ρ μ e := by
 simp only [opK, ho] at h
 have hops : o.op.operands = (parts.toList.map (·.2)).toArray := by rw [ho]; rfl
 split at h
 case h_2 => cases h
 rename_i z pl ps hz hpl hps
 split at h
 case h_2 => cases h
 rename_i l hl
 split at h
 case h_2 => cases h
 rename_i l' hl'
 obtain ⟨i, v, hi, hv, hrel⟩ := zeroA_rel hz
 have key : ∀ (s : St), (∀ x ∈ o.op.operands, ev s x = ρ x) → (∀ j ∈ ownsOf (ps.map (·.2)).flatten, getM s.mem (.own j) = μ (.own j)) → ∀ B G a w, WRel P B G s a w →
   ∃ cells', (execOp a.eval o).run P w = .ok (.value (.agg cells')) w ∧ All2 (CRel G s.mem w) l' cells'.toList := fun s hρ hown B G a w hw => by
  obtain ⟨p1, _⟩ := partsC_rel (G := G) (w := w) (a := a) hps (fun p hp => by rw [← hρ p.2 (by rw [hops]; simp; exact ⟨p.1, by simpa using hp⟩)]; exact hw.ev _) hown
  obtain ⟨cells', f1, f2, _⟩ := fill_rel hl' (cells_cs hl (hrel G s.mem w)) p1
  refine ⟨cells', ?_, f2⟩
  have hb : P.built ty (parts.map fun (i, x) => (i, a.eval x)).toList = some cells' := by
   unfold Program.built
   unfold placesOf at hpl
   rw [Array.toList_map]
   split at hpl
   ·rename_i fs hu
    split at hpl
    ·rename_i pl' hpl'
     cases hpl
     simp only [hi, hu, hv, hpl']
     exact f1
    ·cases hpl
   ·rename_i len e hu
    split at hpl
    ·rename_i ie hie
     cases hpl
     simp only [hi, hu, hv, hie]
     exact f1
    ·cases hpl
   ·cases hpl
  simp only [execOp, ho, Sem.run_bind, run_build w ty _ _ hb]
  rfl
 split at h
 ·split at h
  case h_2 => cases h
  rename_i v' hv'
  refine ⟨_, h, fun s hρ hμ => SemO.val fun B G a w hw => ?_⟩
  obtain ⟨cells', hrun, hall⟩ := key s hρ (fun j hj => hμ _ (by simp [ownLs_mem hj])) B G a w hw
  obtain ⟨hcs, τ, n, xs, e, _⟩ := atomsC_rel hall hv'
  subst e
  obtain ⟨h1, h2, h3⟩ := hcs
  exact ⟨_, hrun, cells'.toList, by simp, h1, h2, h3⟩
 ·refine ⟨_, h, fun s hρ hμ => SemO.val fun B G a w hw => ?_⟩
  obtain ⟨cells', hrun, hall⟩ := key s hρ (fun j hj => hμ _ (by simp [ownLs_mem hj])) B G a w hw
  exact ⟨_, hrun, cells'.toList, by simp, hall⟩
 ·cases h
 ·cases h
 ·cases h
end
theorem MRel.fresh0 {B : Beg} {G : Gh} {m : Mem} {w w' : World} (h : MRel P B G m w) {t b : Nat} (hm : getM m (.own t) = none) (τ : Ty) (hsz : w.heap.size ≤ w'.heap.size)
  (hblk : ∀ b', b' < w.heap.size → w'.heap[b']? = w.heap[b']?) (hio : SameIo w w' := by exact ⟨rfl, rfl⟩) : MRel P B (G.add (.own t) b 0) ((.own t, .sl τ [] false) :: m) w' := by
 have hE : Ext G m w (G.add (.own t) b 0) ((.own t, .sl τ [] false) :: m) w' := Ext.fresh _ b 0 hm fun b' hb' => hblk b' (h.ltS b' hb')
 have hne : ∀ l, Real (G.add (.own t) b 0) ((.own t, .sl τ [] false) :: m) l → l ≠ .own t := fun l hl e => by
  subst e
  unfold Real at hl
  rw [getM_cons, if_pos rfl] at hl
  obtain ⟨i, e, hi⟩ := hl
  cases e
  simp [Gh.add] at hi
 have hκ : ∀ i, Loc.own i ≠ .own t → (G.add (.own t) b 0).κ i = G.κ i := fun i hi => by
  have : t ≠ i := fun e => hi (by rw [e])
  simp [Gh.add, this]
 have hR : ∀ l, l ≠ .own t → Real (G.add (.own t) b 0) ((.own t, .sl τ [] false) :: m) l → Real G m l := fun l hl hr => by
  unfold Real at hr ⊢
  rw [getM_cons, if_neg (Ne.symm hl)] at hr
  cases hg : getM m l with
  | none => rw [hg] at hr; exact hr.elim
  | some o =>
   rw [hg] at hr
   cases o with
   | bx _ => trivial
   | dead => exact hr.elim
   | sl _ _ _ => obtain ⟨i, rfl, hi⟩ := hr; exact ⟨i, rfl, by rwa [hκ i hl] at hi⟩
 refine h.step hE hsz (fun _ => False) (fun _ h => h.elim) (fun b' hb' _ _ => hblk b' hb') (fun l o' ho' => ?_) (fun l hl => .inl (hR l (hne l hl) hl)) (fun l l' h1 _ g1 _ _ => absurd (hR l (hne l h1) h1) g1)
  (fun l hl => ?_) (fun b hb => Nat.lt_of_lt_of_le (h.ltS b hb) hsz) (fun b hb => .inl hb) hio
 ·by_cases e : Loc.own t = l
  ·subst e
   rw [getM_cons, if_pos rfl] at ho'; cases ho'
   exact .inr ⟨t, rfl, by simp, fun _ hn => absurd rfl hn, fun j hj => absurd hj (Nat.not_lt_zero _), fun _ j hj => by simp [Gh.add] at hj⟩
  ·rw [getM_cons, if_neg e] at ho'; exact .inl ⟨ho', id⟩
 ·have hl' := hne l hl.real
  have hb : (G.add (.own t) b 0).β l = G.β l := by simp [Gh.add, hl']
  rw [hb]
  refine h.wr l ?_
  unfold Writ at hl ⊢
  rw [getM_cons, if_neg (Ne.symm hl')] at hl
  cases hg : getM m l with
  | none => rw [hg] at hl; exact hl.elim
  | some o =>
   rw [hg] at hl
   cases o with
   | bx _ => trivial
   | dead => exact hl.elim
   | sl _ _ fr =>
    cases fr with
    | true => exact hl.elim
    | false => obtain ⟨i, rfl, hi⟩ := hl; exact ⟨i, rfl, by rwa [hκ i hl'] at hi⟩
theorem MRel.newOwn {B : Beg} {G : Gh} {m : Mem} {w : World} (h : MRel P B G m w) {t : Nat} (hm : getM m (.own t) = none) {τ : Ty} {xs : List (den τ)} {vs : List Value} {K : Nat} (hK : xs.length ≤ K)
  (hvs : K * ncell τ ≤ vs.length) (hrow : ∀ j (hj : j < xs.length), Rep G.S w τ xs[j] ((vs.drop (j * ncell τ)).take (ncell τ))) (ty : Nat) :
  MRel P B (G.add (.own t) w.heap.size K) ((.own t, .sl τ xs false) :: m) (w.alloc (.cells vs.toArray ty)) ∧ Ext G m w (G.add (.own t) w.heap.size K) ((.own t, .sl τ xs false) :: m) (w.alloc (.cells vs.toArray ty)) := by
 have hE : Ext G m w (G.add (.own t) w.heap.size K) ((.own t, .sl τ xs false) :: m) (w.alloc (.cells vs.toArray ty)) := Ext.fresh _ _ _ hm fun b hb => heap_alloc_old (h.ltS b hb)
 refine ⟨?_, hE⟩
 by_cases h0 : K = 0
 ·subst h0
  have : xs = [] := List.length_eq_zero_iff.1 (by omega)
  subst this
  exact h.fresh0 hm τ (by simp) fun b hb => heap_alloc_old hb
 ·refine h.fresh hm (fun _ e => nomatch e) (by simp) (fun b hb _ => heap_alloc_old hb) (.inl h.grow) (by simp) (fun hs => Nat.lt_irrefl _ (h.ltS _ hs)) (fun l hl e => by have := h.lt l hl; omega) ?_ ?_
  ·refine ⟨t, rfl, by simpa [Gh.add] using hK, fun e => (Bool.false_ne_true e).elim, fun j hj => ?_, fun _ j hj => ?_⟩
   ·refine ⟨_, (hrow j hj).mono hE.S hE.heap, fun q v hv => ?_⟩
    rw [List.getElem?_take] at hv
    split at hv
    ·rw [List.getElem?_drop] at hv
     simp only [Gh.add, if_true]
     rw [World.cell?_alloc_new]; simpa using hv
    ·cases hv
   ·simp only [Gh.add, if_true] at hj ⊢
    refine ⟨?_, World.frozen?_alloc_new w _ ty j⟩
    rw [World.cell?_alloc_new]
    have : j < vs.length := by omega
    simp [this]
  ·unfold Real; rw [getM_cons, if_pos rfl]
   exact ⟨t, rfl, by simp [Gh.add]; omega⟩
section
variable {R : Type} {calls : Nat → Option CallS} {ρ : Operand → AV} {μ : Loc → Option Obj} {o : Oper} {k : Eff → Option R} {r : R}
theorem flat_get {z : List Value} (hpos : 0 < z.length) : ∀ (len i : Nat), i < len * z.length → ((List.replicate len z).flatten)[i]? = z[i % z.length]?
 | 0, i, h => by omega
 | len + 1, i, h => by
  rw [List.replicate_succ, List.flatten_cons]
  by_cases hi : i < z.length
  ·rw [List.getElem?_append_left hi, Nat.mod_eq_of_lt hi]
  ·rw [List.getElem?_append_right (by omega), flat_get hpos len (i - z.length) (by rw [Nat.add_mul] at h; omega), ← Nat.mod_eq_sub_mod (by omega)]
theorem replicate_range {z : Array Value} {len n : Nat} (hz : z.size = n) (hn : 0 < n) : ((Array.range (len * n)).map (z[· % z.size]!)).toList = (List.replicate len z.toList).flatten := by
 subst hz
 apply List.ext_getElem?
 intro i
 by_cases hi : i < len * z.size
 ·have hlen : z.toList.length = z.size := by simp
  rw [flat_get (by omega) len i (by rw [hlen]; exact hi), hlen]
  have hmod : i % z.size < z.size := Nat.mod_lt _ hn
  simp [hi, hmod]
 ·rw [List.getElem?_eq_none (by simp; omega), List.getElem?_eq_none (by simp [List.length_flatten]; omega)]
theorem map_parts {ps : List (Nat × List C)} {qs : List (Nat × Value)} {G : Gh} {m : Mem} {w : World} {B : Beg} (h : MRel P B G m w) {G' : Gh} {m' : Mem} (hE : Ext G m w G' m' w)
  (hS : ∀ i ∈ ownsOf (ps.map (·.2)).flatten, ∀ τ xs fr, getM m (.own i) = some (.sl τ xs fr) → xs ≠ [] → G'.S (G.β (.own i)))
  (hr : All2 (fun (p : Nat × List C) (q : Nat × Value) => p.1 = q.1 ∧ All2 (CRel G m w) p.2 q.2.cells.toList) ps qs) :
  All2 (fun (p : Nat × List C) (q : Nat × Value) => p.1 = q.1 ∧ All2 (CRel G' m' w) p.2 q.2.cells.toList) (ps.map fun p => (p.1, p.2.map (resolve (getM m)))) qs := by
 induction hr with
 | nil => exact .nil
 | cons h1 h2 ih =>
  rename_i p q ps qs
  simp only [List.map_cons, List.flatten_cons, ownsOf_append, List.mem_append] at hS
  exact .cons ⟨h1.1, resolve_all h hE (fun i hi => hS i (.inl hi)) h1.2⟩ (ih fun i hi => hS i (.inr hi))
theorem All2.rep {α β : Type} {R : α → β → Prop} {l : List α} {m : List β} (h : All2 R l m) : ∀ n : Nat, All2 R (List.replicate n l).flatten (List.replicate n m).flatten
 | 0 => .nil
 | n + 1 => by rw [List.replicate_succ, List.replicate_succ, List.flatten_cons, List.flatten_cons]; exact h.append (h.rep n)
theorem keys_append (a b : List (Loc × Obj)) : keys (a ++ b) = keys a ++ keys b := by
 induction a with
 | nil => rfl
 | cons y r ih => simp [keys, ih]
theorem ncell_pos : ∀ τ : Ty, 0 < ncell τ
 | .int _ => Nat.one_pos | .bool => Nat.one_pos | .str => Nat.one_pos | .list _ => Nat.one_pos | .alt .. => Nat.one_pos
 | .pair a b => Nat.lt_of_lt_of_le (ncell_pos a) (Nat.le_add_right _ _)
theorem op_buildSlice {ty len : Nat} {parts : Array (Nat × Operand)} (ho : o.op = .buildSlice ty len parts) (h : opK P H calls ρ μ o k = some r) : ∃ e, k e = some r ∧ Sound P o ρ μ e := by
 simp only [opK, ho] at h
 have hops : o.op.operands = (parts.toList.map (·.2)).toArray := by rw [ho]; rfl
 split at h
 case h_2 => cases h
 rename_i e hu
 split at h
 case h_2 => cases h
 rename_i τ n z ps hty hs hz hps
 split at h
 case h_2 => cases h
 rename_i l hl
 split at h
 case h_2 => cases h
 rename_i l' hl'
 split at h
 case h_2 => cases h
 rename_i xs hxs
 obtain ⟨hb, h⟩ := cond_some h
 simp only [Bool.and_eq_true] at hb
 obtain ⟨⟨⟨hn, hnone⟩, hsmall⟩, hll⟩ := hb
 have hll := Nat.eq_of_beq_eq_true hll
 have hn := Nat.eq_of_beq_eq_true hn
 have hsmall := Nat.le_of_ble_eq_true hsmall
 have hnone := noneM_iff hnone
 obtain ⟨i, v, hi, hv, hrel⟩ := zeroA_rel hz
 obtain ⟨i', hi', hsz⟩ := sizeT_some hs
 rw [hi] at hi'; cases hi'
 have hzl : z = z := rfl
 refine ⟨_, h, fun s hρ hμ => SemO.of fun B G a w hw => ?_⟩
 have hown : ∀ j ∈ ownsOf (ps.map (·.2)).flatten, getM s.mem (.own j) = μ (.own j) := fun j hj => hμ _ (by simp [ownLs_mem hj])
 have hm : getM s.mem (.own (o.dst.getD 0)) = none := by
  rw [hμ _ (by simp [keys_append, keys])]
  exact hnone
 obtain ⟨p1, p2⟩ := partsC_rel (G := G) (w := w) (a := a) hps (fun p hp => by rw [← hρ p.2 (by rw [hops]; simp; exact ⟨p.1, by simpa using hp⟩)]; exact hw.ev _) hown
 obtain ⟨G', hM, hE, hS⟩ := hw.mem.frz (ownsOf (ps.map (·.2)).flatten)
 have hfz : freeze μ (ownsOf (ps.map (·.2)).flatten) = freeze (getM s.mem) (ownsOf (ps.map (·.2)).flatten) := freeze_congr fun i hi => (hown i hi).symm
 have hrs : (ps.map fun p => (p.1, p.2.map (resolve μ))) = ps.map fun p => (p.1, p.2.map (resolve (getM s.mem))) := by
  apply List.map_congr_left
  intro p hp
  rw [resolves_congr fun j hj => (hown j (own_flat hp j hj)).symm]
 rw [hrs] at hl'
 have p1' := map_parts hw.mem hE hS p1
 have hzc := cells_cs hl (hrel G' (setMs s.mem (freeze (getM s.mem) (ownsOf (ps.map (·.2)).flatten))) w)
 have hvn : v.cells.size = n := by have := hzc.length; simp at this; omega
 have hnpos : 0 < n := by rw [← hn]; exact ncell_pos τ
 have hzall : All2 (CRel G' (setMs s.mem (freeze (getM s.mem) (ownsOf (ps.map (·.2)).flatten))) w) (List.replicate len l).flatten ((Array.range (len * n)).map (v.cells[· % v.cells.size]!)).toList := by
  rw [replicate_range hvn hnpos]
  exact hzc.rep len
 obtain ⟨cells', f1, f2, _⟩ := fill_rel hl' hzall p1'
 obtain ⟨r1, r2, r3⟩ := dcRow_rel hxs f2
 have hm' : getM (setMs s.mem (freeze (getM s.mem) (ownsOf (ps.map (·.2)).flatten))) (.own (o.dst.getD 0)) = none := by
  cases hg : getM (setMs s.mem (freeze (getM s.mem) (ownsOf (ps.map (·.2)).flatten))) (.own (o.dst.getD 0)) with
  | none => rfl
  | some ob =>
   have : ∀ (is : List Nat) (m m0 : Mem), getM m0 (.own (o.dst.getD 0)) = none → getM m (.own (o.dst.getD 0)) = none → getM (setMs m (freeze (getM m0) is)) (.own (o.dst.getD 0)) = none := fun is => by
    induction is with
    | nil => intro m m0 _ h2; exact h2
    | cons i r ih =>
     intro m m0 h1 h2
     simp only [freeze]
     split
     ·rename_i hg
      have hne : Loc.own i ≠ .own (o.dst.getD 0) := fun e => by rw [e, h1] at hg; cases hg
      exact ih _ _ h1 (by rw [getM_cons, if_neg hne]; exact h2)
     ·exact ih _ _ h1 h2
   rw [this _ _ _ hm hm] at hg; cases hg
 obtain ⟨h1, hE1⟩ := hM.newOwn hm' (K := len) (vs := cells'.toList) (by omega) (by rw [r2]; exact Nat.le_refl _) r3 e
 have hrun : (execOp a.eval o).run P w = .ok (.value (.slice (some ⟨w.heap.size, 0, none⟩) len len)) (w.alloc (.cells cells'.toList.toArray e)) := by
  rw [Array.toArray_toList]
  by_cases h0 : len = 0
  ·subst h0
   have hc0 : cells'.size = 0 := by have := r2; simp at this; simp [this]
   have hc : cells' = #[] := Array.eq_empty_of_size_eq_zero hc0
   have hps0 : parts = #[] := by
    cases ps with
    | nil =>
     have := p1.length
     simp at this
     exact Array.eq_empty_of_size_eq_zero (by simpa using this.symm)
    | cons p ps =>
     exfalso
     simp only [List.replicate_zero, List.flatten_nil, List.map_cons, fillC] at hl'
     obtain ⟨hb2, _⟩ := cond_some hl'
     simp only [Bool.and_eq_true] at hb2
     have := Nat.le_of_ble_eq_true hb2.2
     simp at this
     omega
   subst hps0
   rw [hc]
   simp [execOp, ho, Instr.buildSlice, run_underlying hu, sizeOf, typeInfo, hi, Instr.fill, newRow]
   rw [show Array.range 0 = #[] from Array.eq_empty_of_size_eq_zero (by simp)]
   simp
  ·have hpos : ¬ len * i.size = 0 := by rw [hsz]; exact Nat.mul_ne_zero h0 (by omega)
   have := run_buildSlice w ty e len (parts.map fun (i, x) => (i, a.eval x)) cells' i v hu hi hv (by rw [hsz]; omega) hpos (by rw [hsz, Array.toList_map]; exact f1)
   simp only [execOp, ho, Sem.run_bind, this]
   rfl
 refine ⟨_, _, G'.add (.own (o.dst.getD 0)) w.heap.size len, .inl hrun, ?_, ?_, ?_⟩
 ·rw [hfz, setMs_append]; exact h1
 ·rw [hfz, setMs_append]; exact hE.trans hE1
 ·rw [hfz, setMs_append]
  show CRel _ _ (w.alloc (.cells cells'.toList.toArray e)) (.slo (o.dst.getD 0)) _
  simp only [setMs, CRel, getM_cons, if_pos]
  exact ⟨some ⟨w.heap.size, 0, none⟩, by simp [Gh.add, r1], .inl (by simp [Gh.add]), fun _ => by simp⟩
end
end Go.Al
