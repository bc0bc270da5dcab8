/- Reads: fields, elements, addresses, loads, lengths. -/
import Derived.Test.YtcgmelealalhhaaGreatDoorAlOp2
namespace Go.Al
variable {P : Program} {H : Hint}
theorem cs_rel {G : Gh} {m : Mem} {w : World} : ∀ {τ : Ty} {x : den τ} {vs : List Value}, Rep G.S w τ x vs → All2 (CRel G m w) (cs τ x) vs
 | .int _, _, _, h => by simp only [Rep] at h; subst h; exact .cons rfl .nil
 | .bool, _, _, h => by simp only [Rep] at h; subst h; exact .cons rfl .nil
 | .str, _, _, h => by simp only [Rep] at h; subst h; exact .cons rfl .nil
 | .pair a b, x, vs, h => by
  obtain ⟨v1, v2, rfl, h1, h2⟩ := h
  exact (cs_rel h1).append (cs_rel h2)
 | .list t, xs, _, h => by
  obtain ⟨ad, c, rfl, hc, hi⟩ := h
  exact .cons (show CRel G m w (.sl t xs none false) _ from ⟨ad, c, rfl, hc, hi, (fun _ e => nomatch e), (fun e => nomatch e)⟩) .nil
 | .alt i a ia j b jb, x, vs, h => by
  cases x with
  | inl y => obtain ⟨us, hr, rfl⟩ := h; exact .cons ⟨us, hr, rfl⟩ .nil
  | inr y => obtain ⟨us, hr, rfl⟩ := h; exact .cons ⟨us, hr, rfl⟩ .nil
theorem arrI_get {G : Gh} {m : Mem} {w : World} {k : IntKind} {xs : List Int} {vs : List Value} (h : All2 (CRel G m w) (arrC (.int k) xs) vs) {i : Nat} (hi : i < xs.length) :
  vs[i]? = some (.int k (List.getD xs i 0)) := by
 obtain ⟨v, hv, hr⟩ := h.get (i := i) (a := .int k (List.getD xs i (0 : Int))) (by simp [arrC, List.getD, List.getElem?_eq_getElem hi])
 rw [hv]; exact congrArg some hr
theorem arrB_get {G : Gh} {m : Mem} {w : World} {xs : List Bool} {vs : List Value} (h : All2 (CRel G m w) (arrC .bool xs) vs) {i : Nat} (hi : i < xs.length) :
  vs[i]? = some (.bool (List.getD xs i false)) := by
 obtain ⟨v, hv, hr⟩ := h.get (i := i) (a := .bool (List.getD xs i false)) (by simp [arrC, List.getD, List.getElem?_eq_getElem hi])
 rw [hv]; exact congrArg some hr
theorem arrC_len {τ : Ty} {xs : List (den τ)} (ha : atom τ = true) : (arrC τ xs).length = xs.length := by
 cases τ <;> simp [atom] at ha <;> simp [arrC]
theorem take_range {α β : Type} (R : α → β → Prop) (f : Nat → α) (vs : List β) (off n : Nat) (h : ∀ i, i < n → ∃ v, vs[off + i]? = some v ∧ R (f i) v) :
  ((vs.drop off).take n).length = n ∧ All2 R ((List.range n).map f) ((vs.drop off).take n) := by
 have hl : ((vs.drop off).take n).length = n := by
  rw [List.length_take, List.length_drop]
  rcases Nat.eq_zero_or_pos n with e | e
  ·omega
  ·obtain ⟨v, hv, _⟩ := h (n - 1) (by omega)
   have := (List.getElem?_eq_some_iff.1 hv).1
   omega
 refine ⟨hl, All2.of_get (by simp [hl]) fun i a b ha hb => ?_⟩
 have hi : i < n := by have := (List.getElem?_eq_some_iff.1 ha).1; simpa using this
 simp [hi] at ha
 obtain ⟨v, hv, hr⟩ := h i hi
 simp [List.getElem?_take, hi] at hb
 rw [hv] at hb; cases hb
 rw [← ha]; exact hr
theorem take_lp {v x : A1} {g : Bool} {n off : Nat} (h : takeCells g n off v = some x) : isLp v = false := by
 cases v <;> first | rfl | cases h
theorem put_lp {v x : A1} {off : Nat} {l : List C} (h : putCells off l v = some x) : isLp v = false := by
 cases v <;> first | rfl | cases h
theorem takeCells_rel {G : Gh} {m : Mem} {w : World} {v : A1} {vs : List Value} {g : Bool} {n off : Nat} {x : A1} (hr : CsRel G m w v vs) (hroom : ∀ τ N xs, v = .arr τ N xs → off + n ≤ N ∧ 1 ≤ n) (h : takeCells g n off v = some x) :
  (g = true → ((vs.drop off).take n).length = n ∧ A1Rel G m w x (.agg ((vs.drop off).take n).toArray)) ∧ (g = false → ∃ u, vs[off]? = some u ∧ A1Rel G m w x u) := by
 cases v with
 | lp => exact hr.elim
 | mp => exact hr.elim
 | one c =>
  simp only [takeCells, nat_beq] at h
  obtain ⟨u, rfl, hc⟩ := hr
  cases g with
  | true => simp at h
  | false =>
   by_cases h0 : off = 0
   ·subst h0; simp at h; subst h
    exact ⟨fun e => (Bool.false_ne_true e).elim, fun _ => ⟨u, rfl, hc⟩⟩
   ·simp [h0] at h
 | agg l =>
  simp only [takeCells] at h
  have hlen := All2.length hr
  cases g with
  | true =>
   simp only [cond_true] at h
   cases hb : Nat.ble (off + n) l.length with
   | false => rw [hb] at h; cases h
   | true =>
    rw [hb] at h; cases h
    have hb := Nat.le_of_ble_eq_true hb
    refine ⟨fun _ => ⟨?_, _, rfl, (All2.drop hr off).take n⟩, fun e => (Bool.false_ne_true e.symm).elim⟩
    rw [List.length_take, List.length_drop, ← hlen]; omega
  | false =>
   simp only [cond_false] at h
   split at h
   ·rename_i c hc
    cases h
    refine ⟨fun e => (Bool.false_ne_true e).elim, fun _ => ?_⟩
    obtain ⟨u, hu, hcu⟩ := All2.get hr hc
    exact ⟨u, hu, hcu⟩
   ·cases h
 | arr τ N xs =>
  obtain ⟨ha, hN, hall⟩ := hr
  have hlen := hall.length
  rw [arrC_len ha] at hlen
  obtain ⟨hroom, h1⟩ := hroom τ N xs rfl
  simp only [takeCells, nat_beq] at h
  cases g with
  | true =>
   refine ⟨fun _ => ?_, fun e => (Bool.false_ne_true e.symm).elim⟩
   simp only [cond_true] at h
   by_cases hn : n = N ∧ off = 0
   ·obtain ⟨rfl, rfl⟩ := hn
    simp at h; subst h
    have e : (vs.drop 0).take n = vs := by rw [List.drop_zero, List.take_of_length_le (by omega)]
    rw [e]
    exact ⟨by omega, vs, rfl, ha, hN, hall⟩
   ·have hf : (decide (n = N) && decide (off = 0)) = false := by simpa using hn
    rw [hf] at h
    simp only [cond_false] at h
    split at h
    ·rename_i k xs'
     cases h
     have := take_range (CRel G m w) (fun i => C.int k (List.getD xs' (off + i) (0 : Int))) vs off n (fun i hi => ⟨_, arrI_get hall (by omega), rfl⟩)
     exact ⟨this.1, _, rfl, this.2⟩
    ·rename_i xs'
     cases h
     have := take_range (CRel G m w) (fun i => C.bool (List.getD xs' (off + i) false)) vs off n (fun i hi => ⟨_, arrB_get hall (by omega), rfl⟩)
     exact ⟨this.1, _, rfl, this.2⟩
    ·cases h
  | false =>
   refine ⟨fun e => (Bool.false_ne_true e).elim, fun _ => ?_⟩
   simp only [cond_false] at h
   split at h
   ·cases h; exact ⟨_, arrI_get hall (by omega), rfl⟩
   ·cases h; exact ⟨_, arrB_get hall (by omega), rfl⟩
   ·cases h
end Go.Al
