/- The first elements of a slice of the function's own. -/
import Derived.Test.YtcgmelealalhhaaGreatDoorAlOp12
namespace Go.Al
variable {P : Program} {H : Hint}
theorem MRel.moveOwn {B : Beg} {G : Gh} {m : Mem} {w : World} (h : MRel P B G m w) {t i : Nat} {τ : Ty} {xs0 xs : List (den τ)} (hm : getM m (.own t) = none) (hi : getM m (.own i) = some (.sl τ xs0 false))
  (hpre : xs.length ≤ xs0.length ∧ ∀ j (hj : j < xs.length) (hj' : j < xs0.length), xs[j] = xs0[j]) :
  ∃ b, MRel P B (G.add (.own t) b (G.κ i)) ((.own t, .sl τ xs false) :: (.own i, .dead) :: m) w ∧ Ext G m w (G.add (.own t) b (G.κ i)) ((.own t, .sl τ xs false) :: (.own i, .dead) :: m) w ∧ (b = G.β (.own i) ∨ G.κ i = 0) := by
 have hne : Loc.own i ≠ .own t := fun e => by rw [e, hm] at hi; cases hi
 obtain ⟨hk1, hE1⟩ := h.kill hi
 have hm1 : getM ((.own i, .dead) :: m) (.own t) = none := by rw [getM_ne hne]; exact hm
 obtain ⟨i', e2, hcap, _, hrow, hcell⟩ := h.objs _ _ hi
 cases e2
 by_cases h0 : G.κ i = 0
 ·have hx0 : xs = [] := List.length_eq_zero_iff.1 (by omega)
  subst hx0
  have h2 := hk1.fresh0 (t := t) (b := 0) hm1 τ (Nat.le_refl _) fun _ _ => rfl
  have hE2 : Ext G ((.own i, .dead) :: m) w (G.add (.own t) 0 0) ((.own t, .sl τ [] false) :: (.own i, .dead) :: m) w := Ext.fresh _ 0 0 hm1 fun _ _ => rfl
  exact ⟨0, by rw [h0]; exact h2, by rw [h0]; exact hE1.trans hE2, .inr h0⟩
 ·have hκ : 0 < G.κ i := Nat.pos_of_ne_zero h0
  have hW : Writ G m (.own i) := by unfold Writ; rw [hi]; exact ⟨i, rfl, hκ⟩
  have hnS := h.wr _ hW
  have hlt := h.lt _ hW.real
  have hE2 : Ext G ((.own i, .dead) :: m) w (G.add (.own t) (G.β (.own i)) (G.κ i)) ((.own t, .sl τ xs false) :: (.own i, .dead) :: m) w := Ext.fresh _ _ _ hm1 fun b hb => rfl
  refine ⟨G.β (.own i), ?_, hE1.trans hE2, .inl rfl⟩
  refine hk1.fresh hm1 (fun _ e => nomatch e) (Nat.le_refl _) (fun _ _ _ => rfl) ?_ hlt hnS (fun l hl e => ?_) ?_ ?_
  ·rcases h.new _ hW.real with ⟨j, e, _⟩ | ⟨_, hge⟩
   ·cases e
   ·exact hge
  ·have hne' : l ≠ .own i := fun e => by
    subst e
    unfold Real at hl
    rw [getM_cons, if_pos rfl] at hl; exact hl
   have hl' : Real G m l := by unfold Real at hl ⊢; rw [getM_ne (Ne.symm hne')] at hl; exact hl
   exact hne' (h.inj _ _ hl' hW.real e)
  ·refine ⟨t, rfl, by simp [Gh.add]; omega, fun e => (Bool.false_ne_true e).elim, fun j hj => ?_, fun _ j hj => ?_⟩
   ·have hβ : (G.add (.own t) (G.β (.own i)) (G.κ i)).β (.own t) = G.β (.own i) := by simp [Gh.add]
    rw [hβ]
    have hj0 : j < xs0.length := by omega
    obtain ⟨us, hr, hc⟩ := hrow j hj0
    exact ⟨us, by rw [hpre.2 j hj hj0]; exact hr.mono hE2.S hE2.heap, hc⟩
   ·have hβ : (G.add (.own t) (G.β (.own i)) (G.κ i)).β (.own t) = G.β (.own i) := by simp [Gh.add]
    have hκ' : (G.add (.own t) (G.β (.own i)) (G.κ i)).κ t = G.κ i := by simp [Gh.add]
    rw [hκ'] at hj
    rw [hβ]
    exact hcell rfl j hj
  ·unfold Real; rw [getM_cons, if_pos rfl]
   exact ⟨t, rfl, by simp [Gh.add]; exact hκ⟩
section
variable {R : Type} {calls : Nat → Option CallS} {ρ : Operand → AV} {μ : Loc → Option Obj} {o : Oper} {k : Eff → Option R} {r : R}
theorem op_sliceO {ty : Nat} {x : Operand} {lo hi mx : Option Operand} (ho : o.op = .slice ty x lo hi mx) (h : sliceO P μ (o.dst.getD 0) ty (asC (ρ x)) lo (hi.map fun x => asC (ρ x)) mx k = some r) : ∃ e, k e = some r ∧ Sound P o ρ μ e := by
 have hops : o.op.operands = #[x] ++ lo.toArray ++ hi.toArray ++ mx.toArray := by rw [ho]; rfl
 have hmem : ∀ y, (y = x ∨ lo = some y ∨ hi = some y ∨ mx = some y) → y ∈ o.op.operands := fun y hy => by
  rw [hops]; rcases hy with rfl | rfl | rfl | rfl <;> simp
 unfold sliceO at h
 split at h
 case h_2 => cases h
 rename_i e kk hh hu hhi
 have hh2 : ∀ {a : Act} {G : Gh} {m : Mem} {w : World}, (∀ y, hi = some y → AVRel G m w (ρ y) (a.eval y)) → ∃ y k', hi = some y ∧ a.eval y = .int k' hh := fun {a G m w} hq => by
  cases hi with
  | none => cases hhi
  | some y =>
   have e1 : asC (ρ y) = .int kk hh := Option.some.inj hhi
   have := asC_rel (hq y rfl)
   rw [e1] at this
   exact ⟨y, kk, rfl, this⟩
 split at h
 ·rename_i n hs hx
  obtain ⟨hd, h⟩ := ite_some h
  have h0 : hh = 0 := by simpa using hd
  subst h0
  refine ⟨_, h, fun s hρ hμ => SemO.val fun B G a w hw => ?_⟩
  have ey : ∀ y, (y = x ∨ hi = some y) → AVRel G s.mem w (ρ y) (a.eval y) := fun y hy => by
   rw [← hρ y (hmem y (by rcases hy with hy | hy; exact .inl hy; exact .inr (.inr (.inl hy))))]; exact hw.ev y
  have ex := asC_rel (ey x (.inl rfl))
  rw [hx] at ex
  have ex : a.eval x = .slice none 0 0 := ex
  have l2 := hh2 (a := a) (G := G) (m := s.mem) (w := w) fun y hy => ey y (.inr hy)
  refine ⟨.slice none 0 0, ?_, rfl⟩
  have hrun := run_slice2 hu hs w a none 0 0 (Nat.le_refl _) (lo := none) (hi := hi) (l := 0) (.inl ⟨rfl, rfl⟩) (.inr l2) (by omega) (by omega) (by omega)
  simp only [execOp, ho, ex, Option.map_none, Sem.run_bind]
  simp only [Option.map_none] at hrun
  rw [hrun]; rfl
 ·rename_i n i hs hx
  split at h
  case h_2 => cases h
  rename_i τ xs hm0
  obtain ⟨hd, h⟩ := ite_some h
  obtain ⟨hc, h⟩ := cond_some h
  simp only [Bool.and_eq_true, decide_eq_true_eq] at hd hc
  have hn := noneM_iff hc.2
  refine ⟨_, h, fun s hρ hμ => SemO.of fun B G a w hw => ?_⟩
  have ey : ∀ y, (y = x ∨ hi = some y) → AVRel G s.mem w (ρ y) (a.eval y) := fun y hy => by
   rw [← hρ y (hmem y (by rcases hy with hy | hy; exact .inl hy; exact .inr (.inr (.inl hy))))]; exact hw.ev y
  have ex := asC_rel (ey x (.inl rfl))
  rw [hx] at ex
  have hm : getM s.mem (.own i) = some (.sl τ xs false) := by rw [hμ _ (by simp)]; exact hm0
  have hm2 : getM s.mem (.own (appN (o.dst.getD 0) (.slo i))) = none := by rw [hμ _ (by simp [keys])]; exact hn
  simp only [CRel, hm] at ex
  obtain ⟨ad, hv, had, hnn⟩ := ex
  obtain ⟨_, e2, hcap, _⟩ := hw.mem.objs _ _ hm
  cases e2
  have l2 := hh2 (a := a) (G := G) (m := s.mem) (w := w) fun y hy => ey y (.inr hy)
  have hrun := run_slice2 hu hs w a ad xs.length (G.κ i) hcap (lo := none) (hi := hi) (l := 0) (.inl ⟨rfl, rfl⟩) (.inr l2) (by omega) hd.1 hd.2
  have htl : (xs.take hh.toNat).length = hh.toNat := by rw [List.length_take]; omega
  obtain ⟨b, h1, hE, hb⟩ := hw.mem.moveOwn (t := appN (o.dst.getD 0) (.slo i)) (xs := xs.take hh.toNat) hm2 hm ⟨by rw [htl]; omega, fun j hj hj' => by simp⟩
  have hadd : (if G.κ i = (0 : Int).toNat then ad else ad.map (·.add ((0 : Int).toNat * n))) = ad := by
   rcases had with had | h0
   ·subst had
    split
    ·rfl
    ·simp [Addr.add_mk]
   ·simp [h0]
  rw [hadd] at hrun
  refine ⟨.slice ad hh.toNat (G.κ i), w, _, .inl ?_, h1, hE, ?_⟩
  ·simp only [execOp, ho, hv, Option.map_none, Sem.run_bind]
   simp only [Option.map_none] at hrun
   rw [hrun]; simp
  ·show CRel _ _ w (.slo _) _
   simp only [CRel, setMs, getM_cons, if_pos]
   refine ⟨ad, by rw [htl]; simp [Gh.add], ?_, fun hlt => ?_⟩
   ·rcases had with had | h0
    ·rcases hb with hb | hb
     ·left; rw [had, hb]; simp [Gh.add]
     ·right; simp [Gh.add, hb]
    ·right; simp [Gh.add, h0]
   ·simp only [appN] at hlt
    cases hc : Nat.blt i 4096 && Nat.blt (o.dst.getD 0) 4096 with
    | false => rw [hc] at hlt; exact absurd hlt (by simp only [cond_false]; omega)
    | true =>
     simp only [Bool.and_eq_true] at hc
     exact hnn (by simpa [Nat.blt_eq] using hc.1)
 ·cases h
theorem run_append_zeros (w : World) (t tx ty e : TypeId) (i : TypeInfo) (z : Value) {kk : IntKind} (ht : P.underlying t = some (.slice e)) (hk : P.underlying tx = some (.int kk)) (hi : P.info? e = some i) (hz : i.zero = some z) (l : Int)
  (h1 : 1 ≤ l) (h2 : l ≤ 4294967296) (hb : i.bytes ≤ 4096) (hs : 0 < i.size) :
  (Builtin.append_ #[t, tx] ty #[.slice none 0 0, .int .i64 l]).run P w =
   .ok (.slice (some ⟨w.heap.size, 0, none⟩) l.toNat (grownCap w l.toNat 0 e))
    (w.drew.alloc (.cells (Builtin.zeroCells z.cells l.toNat ++ Builtin.zeroCells z.cells (grownCap w l.toNat 0 e - l.toNat)) e)) := by
 have hw : IntKind.i64.wrap l = l := by
  have : IntKind.wrap .i64 l = l := by simp only [IntKind.wrap, IntKind.bits, IntKind.signed]; simp; omega
  exact this
 have n0 : ¬ l < 0 := by omega
 have n1 : ¬ (281474976710656 < l * (i.bytes : Int)) := by
  have : l * (i.bytes : Int) ≤ 4294967296 * 4096 := Int.mul_le_mul h2 (by omega) (by omega) (by omega)
  omega
 have n2 : ¬ (l.toNat ≤ 0) := by omega
 have n2' : ¬ (l.toNat = 0) := by omega
 have n2'' : ¬ (l ≤ 0) := by omega
 have n3 : ¬ (9223372036854775807 < ((l.toNat : Nat) : Int)) := by omega
 have n3' : ¬ (9223372036854775807 < l) := by omega
 have hcap : Builtin.nextslicecap l.toNat 0 ≤ 2 * l.toNat + 512 := nextcap_le (by omega)
 have n4 : ¬ (281474976710656 < Builtin.nextslicecap l.toNat 0 * i.bytes) := by
  have h3 : Builtin.nextslicecap l.toNat 0 * i.bytes ≤ (2 * 4294967296 + 512) * 4096 := Nat.mul_le_mul (by omega) hb
  omega
 have n5 : ¬ (i.size = 0) := by omega
 have n6 : ¬ (l.toNat * i.size = 0) := fun e => by rcases Nat.mul_eq_zero.1 e with e | e <;> omega
 have hasi : ∀ w : World, (Go.asInt (.int .i64 l)).run P w = .ok l w := fun w => rfl
 have hmx : max l 0 = l := by omega
 simp [Builtin.append_, run_underlying ht, run_underlying hk, sizeOf, typeInfo, zeroValue, hi, hz, hasi, hmx, hw, n0, n1, n2, n2', n2'', n3, n3', n4, n5, n6, Question.forced, newRow, grownCap, Builtin.firstCells]
theorem op_zeros {c : Call} {ty tx e nm : Nat} {kk : IntKind} {l : Int} (hnm : 4096 ≤ nm) (ho : o.op = .call c) (hb : c.callee = .builtin .append) (ha : c.args.toList.map ρ = [.a (.one .nils), .a (.one (.int .i64 l))]) (hat : c.argTypes.toList = [ty, tx])
  (hu : P.underlying ty = some (.slice e)) (hk : P.underlying tx = some (.int kk)) (h : zerosK P H e nm μ l k = some r) : ∃ e, k e = some r ∧ Sound P o ρ μ e := by
 obtain ⟨y1, y2, hy, hρ1, hρ2⟩ := args_two ha
 have hops : o.op.operands = #[y1, y2] := by rw [ho]; simp [Op.operands, Call.operands, hb, hy]
 have hat' : c.argTypes = #[ty, tx] := by rw [← Array.toArray_toList (xs := c.argTypes), hat]
 have hrun : ∀ (a : Act) (w w' : World) (q : Value), (Builtin.append_ #[ty, tx] o.type #[a.eval y1, a.eval y2]).run P w = .ok q w' → (execOp a.eval o).run P w = .ok (.value q) w' := fun a w w' q e => by
  simp [execOp, ho, Go.resolve, hb, hy, invoke, builtin, hat', e]
 unfold zerosK at h
 split at h
 case h_2 => cases h
 rename_i τ n z hty hs hz
 split at h
 case h_2 => cases h
 rename_i zl hzl
 split at h
 case h_2 => cases h
 rename_i d hd
 obtain ⟨hc, h⟩ := cond_some h
 simp only [Bool.and_eq_true] at hc
 obtain ⟨⟨⟨hn, hnone⟩, hbytes⟩, hlen⟩ := hc
 have hn := Nat.eq_of_beq_eq_true hn
 have hlen := Nat.eq_of_beq_eq_true hlen
 have hbytes := Nat.le_of_ble_eq_true hbytes
 have hnone := noneM_iff hnone
 obtain ⟨hr, h⟩ := ite_some h
 have hr : 1 ≤ l ∧ l ≤ (boundLen : Int) := by simpa using hr
 obtain ⟨hl0, hlc⟩ := hr
 have hbL : boundLen = 4294967296 := rfl
 rw [hbL] at hlc
 obtain ⟨i, v, hi, hv, hrel⟩ := zeroA_rel hz
 obtain ⟨i', hi', hsz⟩ := sizeT_some hs
 rw [hi] at hi'; cases hi'
 have hbi : i.bytes ≤ 4096 := by unfold bytesT at hbytes; rw [hi] at hbytes; exact hbytes
 refine ⟨_, h, fun s hρ hμ => SemO.of fun B G a w hw => ?_⟩
 have hm : getM s.mem (.own nm) = none := by rw [hμ _ (by simp [keys])]; exact hnone
 have e1 := asC_rel (hw.ev y1)
 rw [hρ y1 (by rw [hops]; simp), hρ1] at e1
 have e2 := asC_rel (hw.ev y2)
 rw [hρ y2 (by rw [hops]; simp), hρ2] at e2
 have e1 : a.eval y1 = .slice none 0 0 := e1
 have e2 : a.eval y2 = .int .i64 l := e2
 have hzc := cells_cs hzl (hrel G s.mem w)
 have hvn : v.cells.size = n := by have := hzc.length; simp at this; omega
 have hnpos : 0 < n := by rw [← hn]; exact ncell_pos τ
 have hrep : Rep G.S w τ d v.cells.toList := dcAll_rel hd hzc
 have hmade : ∀ q, (Builtin.zeroCells v.cells q).toList = (List.replicate q v.cells.toList).flatten := fun q => by
  unfold Builtin.zeroCells
  have := replicate_range (len := q) hvn hnpos
  rw [← this, hvn]
 have hll : v.cells.toList.length = ncell τ := by simp [hvn, hn]
 have hge := grownCap_ge w l.toNat 0 e
 generalize hK : grownCap w l.toNat 0 e = K at hge
 obtain ⟨h1, hE1⟩ := hw.mem.drew.newOwn (t := nm) hm (K := K) (τ := τ) (xs := List.replicate l.toNat d) (vs := (Builtin.zeroCells v.cells l.toNat).toList ++ (Builtin.zeroCells v.cells (K - l.toNat)).toList)
  (by simp; omega) (by
   simp only [List.length_append, Array.length_toList, size_zeroCells, hvn, hn]
   rw [← Nat.add_mul]
   exact Nat.mul_le_mul_right _ (by omega)) (fun j hj => by
   have hj' : j < l.toNat := by simpa using hj
   have hA : (Builtin.zeroCells v.cells l.toNat).toList.length = l.toNat * ncell τ := by simp [size_zeroCells, hvn, hn]
   have hle : (j + 1) * ncell τ ≤ l.toNat * ncell τ := Nat.mul_le_mul_right _ (by omega)
   rw [Nat.add_mul, Nat.one_mul] at hle
   rw [List.drop_append_of_le_length (by omega), List.take_append_of_le_length (by simp only [List.length_drop]; omega), hmade, ← hll, flat_row _ _ (by omega), List.getElem_replicate]
   exact Rep.mono (S := G.S) (w := w) (w' := w.drew) (fun _ h => h) (fun _ _ => rfl) hrep) e
 have hrun2 := run_append_zeros (P := P) w ty tx o.type e i v hu hk hi hv l hl0 hlc hbi (by rw [hsz]; exact hnpos)
 rw [hK] at hrun2
 have e3 : ((Builtin.zeroCells v.cells l.toNat).toList ++ (Builtin.zeroCells v.cells (K - l.toNat)).toList).toArray = Builtin.zeroCells v.cells l.toNat ++ Builtin.zeroCells v.cells (K - l.toNat) := by
  apply Array.ext'; simp
 rw [e3] at h1 hE1
 refine ⟨_, _, G.add (.own nm) w.heap.size K, .inl (hrun a w _ _ (by rw [e1, e2]; exact hrun2)), h1, (Ext.drew G s.mem w).trans hE1, ?_⟩
 show CRel _ _ (w.drew.alloc (.cells (Builtin.zeroCells v.cells l.toNat ++ Builtin.zeroCells v.cells (K - l.toNat)) e)) (.slo nm) _
 simp only [setMs, CRel, getM_cons, if_pos]
 exact ⟨some ⟨w.heap.size, 0, none⟩, by simp [Gh.add], .inl (by simp [Gh.add]), fun hlt => by omega⟩
theorem op_cap {c : Call} (ho : o.op = .call c) (hb : c.callee = .builtin .cap) (ha : c.args.toList.map ρ = [.a (.one .nils)])
  (h : (match (c.argTypes[0]?).bind P.underlying with | some (.slice _) => k (ret (one (.int .i64 0))) | _ => none) = some r) : ∃ e, k e = some r ∧ Sound P o ρ μ e := by
 obtain ⟨y, hy, hx⟩ := args_one ha
 clear ha
 have hops : o.op.operands = #[y] := by rw [ho]; simp [Op.operands, Call.operands, hb, hy]
 split at h
 case h_2 => cases h
 rename_i e hd
 obtain ⟨t, h1, h2⟩ := bind_some hd
 exact ⟨_, h, Sound.un hops fun G m w a u e hr => by
  rw [hx] at hr
  have hr : u = .slice none 0 0 := hr
  refine ⟨.int .i64 0, ?_, rfl⟩
  simp [execOp, ho, Go.resolve, hb, hy, e, hr, invoke, builtin, Builtin.cap_, h1, run_underlying h2, goInt]⟩
end
end Go.Al
