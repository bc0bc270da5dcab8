/- Cells of values, literals, slices that become parts of others. -/
import Derived.Test.YtcgmelealalhhaaGreatDoorAlOp6
import Derived.Laws.Tables
import Derived.Great.BuildSlice
namespace Go.Al
variable {P : Program} {H : Hint}
theorem alive_one {G : Gh} {m : Mem} {w : World} {c : C} {v : Value} (ha : alive (getM m) c = true) (h : CRel G m w c v) : v.oneCell' = true := by
 cases c <;> simp only [alive] at ha <;> try (simp at ha; done)
 case int => simp only [CRel] at h; subst h; rfl
 case bool => simp only [CRel] at h; subst h; rfl
 case str => simp only [CRel] at h; subst h; rfl
 case nils => simp only [CRel] at h; subst h; rfl
 case nili => simp only [CRel] at h; subst h; rfl
 case nilf => simp only [CRel] at h; subst h; rfl
 case nilm => simp only [CRel] at h; subst h; rfl
 case mpp => obtain ⟨_, rfl⟩ := h; rfl
 case sl => obtain ⟨_, _, rfl, _⟩ := h; rfl
 case slo i =>
  simp only [CRel] at h
  split at ha
  ·rename_i hm
   rw [hm] at h
   obtain ⟨_, rfl, _⟩ := h; rfl
  ·cases ha
 case ptr => obtain ⟨_, rfl⟩ := h; rfl
 case er => obtain ⟨_, _, _, rfl, _⟩ := h; rfl
 case fn => obtain ⟨_, rfl⟩ := h; rcases fnV_or _ _ with ⟨_, _, e⟩ | ⟨_, e⟩ <;> (rw [e]; rfl)
 case ifc => obtain ⟨_, _, rfl⟩ := h; rfl
 case ifs x => cases x <;> (obtain ⟨_, _, rfl⟩ := h; rfl)
 case fnb => obtain ⟨_, _, _, rfl⟩ := h; rfl
theorem one_cells {v : Value} (h : v.oneCell' = true) : v.cells = #[v] := by
 cases v <;> simp [Value.oneCell'] at h <;> rfl
theorem cells_rel {G : Gh} {m : Mem} {w : World} {x : A1} {v : Value} {l : List C} (hc : cells (getM m) x = some l) (h : A1Rel G m w x v) :
  All2 (CRel G m w) l v.cells.toList ∧ CsRel G m w x v.cells.toList ∧ (∀ u ∈ v.cells.toList, u.oneCell' = true) := by
 cases x with
 | lp => exact h.elim
 | mp => exact h.elim
 | one c =>
  simp only [cells] at hc
  obtain ⟨ha, hc⟩ := cond_some hc
  cases hc
  have h1 := alive_one ha h
  rw [one_cells h1]
  exact ⟨.cons h .nil, ⟨v, rfl, h⟩, fun u hu => by simp at hu; subst hu; exact h1⟩
 | agg l' =>
  simp only [cells] at hc
  obtain ⟨ha, hc⟩ := cond_some hc
  cases hc
  obtain ⟨vs, rfl, hall⟩ := h
  refine ⟨hall, hall, fun u hu => ?_⟩
  have : ∀ (l : List C) (vs : List Value), l.all (alive (getM m)) = true → All2 (CRel G m w) l vs → ∀ u ∈ vs, u.oneCell' = true := fun l vs ha hr => by
   induction hr with
   | nil => intro u hu; cases hu
   | cons h1 _ ih =>
    simp only [List.all_cons, Bool.and_eq_true] at ha
    intro u hu
    rcases List.mem_cons.1 hu with rfl | hu
    ·exact alive_one ha.1 h1
    ·exact ih ha.2 u hu
  exact this _ _ ha hall u hu
 | arr τ n xs =>
  obtain ⟨vs, rfl, hat, hn, hall⟩ := h
  simp only [cells] at hc
  split at hc
  ·rename_i k xs
   cases hc
   have e : (List.range n).map (fun i => C.int k (List.getD xs i (0 : Int))) = arrC (.int k) xs := by
    apply List.ext_getElem
    ·simp [arrC, hn]
    ·intro i h1 h2
     have : i < xs.length := by simpa [arrC] using h2
     simp [arrC, List.getElem?_eq_getElem this]
   rw [e]
   refine ⟨hall, ⟨hat, hn, hall⟩, fun u hu => ?_⟩
   have hu : u ∈ vs := by simpa [Value.cells] using hu
   obtain ⟨i, hi, rfl⟩ := List.getElem_of_mem hu
   have := arrI_get hall (i := i) (by have := hall.length; simp [arrC] at this; rw [this]; exact hi)
   rw [List.getElem?_eq_getElem hi] at this
   rw [Option.some.inj this]; rfl
  ·rename_i xs
   cases hc
   have e : (List.range n).map (fun i => C.bool (List.getD xs i false)) = arrC .bool xs := by
    apply List.ext_getElem
    ·simp [arrC, hn]
    ·intro i h1 h2
     have : i < xs.length := by simpa [arrC] using h2
     simp [arrC, List.getElem?_eq_getElem this]
   rw [e]
   refine ⟨hall, ⟨hat, hn, hall⟩, fun u hu => ?_⟩
   have hu : u ∈ vs := by simpa [Value.cells] using hu
   obtain ⟨i, hi, rfl⟩ := List.getElem_of_mem hu
   have := arrB_get hall (i := i) (by have := hall.length; simp [arrC] at this; rw [this]; exact hi)
   rw [List.getElem?_eq_getElem hi] at this
   rw [Option.some.inj this]; rfl
  ·cases hc
theorem dc1_rel {G : Gh} {m : Mem} {w : World} : ∀ {τ : Ty} {c : C} {x : den τ} {v : Value}, dc1 τ c = some x → CRel G m w c v → Rep G.S w τ x [v]
 | .int k, c, x, v, h, r => by
  cases c <;> simp [dc1] at h
  obtain ⟨rfl, rfl⟩ := h
  simp only [CRel] at r; subst r; rfl
 | .bool, c, x, v, h, r => by
  cases c <;> simp [dc1] at h
  subst h
  simp only [CRel] at r; subst r; rfl
 | .str, c, x, v, h, r => by
  cases c <;> simp [dc1] at h
  subst h
  simp only [CRel] at r; subst r; rfl
 | .pair a b, c, x, v, h, r => by cases c <;> simp [dc1] at h
 | .list t, c, x, v, h, r => by
  cases c <;> simp only [dc1] at h <;> first | (cases h; done) | skip
  ·cases h
   simp only [CRel] at r; subst r
   exact ⟨none, 0, rfl, Nat.le_refl _, fun i hi => absurd hi (Nat.not_lt_zero _)⟩
  ·split at h
   ·rename_i e
    subst e
    cases h
    obtain ⟨ad, q, rfl, hc, hrow, _⟩ := r
    exact ⟨ad, q, rfl, hc, hrow⟩
   ·cases h
 | .alt i a ia j b jb, c, x, v, h, r => by
  cases c <;> simp only [dc1] at h <;> first | (cases h; done) | skip
  ·split at h
   ·rename_i e
    obtain ⟨rfl, rfl, rfl⟩ := e
    cases h
    obtain ⟨us, hr, rfl⟩ := r
    exact ⟨us, hr, rfl⟩
   ·split at h
    ·rename_i e
     obtain ⟨rfl, rfl, rfl⟩ := e
     cases h
     obtain ⟨us, hr, rfl⟩ := r
     exact ⟨us, hr, rfl⟩
    ·cases h
  ·split at h
   ·rename_i e
    obtain ⟨rfl, rfl, rfl, rfl, rfl, rfl⟩ := e
    cases h
    simp only [CRel] at r
    split at r
    ·obtain ⟨us, hr, rfl⟩ := r; exact ⟨us, hr, rfl⟩
    ·obtain ⟨us, hr, rfl⟩ := r; exact ⟨us, hr, rfl⟩
   ·cases h
theorem dcs_rel {G : Gh} {m : Mem} {w : World} : ∀ {τ : Ty} {l : List C} {x : den τ} {q : List C} {vs : List Value}, dcs τ l = some (x, q) → All2 (CRel G m w) l vs →
  ∃ v1 v2, vs = v1 ++ v2 ∧ Rep G.S w τ x v1 ∧ All2 (CRel G m w) q v2 := by
 intro τ
 have one : ∀ (τ : Ty) (l : List C) (x : den τ) (q : List C) (vs : List Value), dcOne τ l = some (x, q) → All2 (CRel G m w) l vs →
   ∃ v1 v2, vs = v1 ++ v2 ∧ Rep G.S w τ x v1 ∧ All2 (CRel G m w) q v2 := fun τ l x q vs h hr => by
  cases hr with
  | nil => cases h
  | cons h1 h2 =>
   rename_i c v l' vs'
   simp only [dcOne] at h
   split at h
   ·rename_i y hy
    cases h
    exact ⟨[v], vs', rfl, dc1_rel hy h1, h2⟩
   ·cases h
 induction τ with
 | pair a b iha ihb =>
  intro l x q vs h hr
  simp only [dcs] at h
  split at h
  ·rename_i y r hy
   split at h
   ·rename_i z r' hz
    cases h
    obtain ⟨v1, v2, rfl, h1, h2⟩ := iha hy hr
    obtain ⟨v3, v4, rfl, h3, h4⟩ := ihb hz h2
    exact ⟨v1 ++ v3, v4, by simp, ⟨v1, v3, rfl, h1, h3⟩, h4⟩
   ·cases h
  ·cases h
 | int k => intro l x q vs h hr; exact one _ l x q vs h hr
 | bool => intro l x q vs h hr; exact one _ l x q vs h hr
 | str => intro l x q vs h hr; exact one _ l x q vs h hr
 | list t _ => intro l x q vs h hr; exact one _ l x q vs h hr
 | alt i a ia j b jb _ _ => intro l x q vs h hr; exact one _ l x q vs h hr
theorem dcAll_rel {G : Gh} {m : Mem} {w : World} {τ : Ty} {l : List C} {x : den τ} {vs : List Value} (h : dcAll τ l = some x) (hr : All2 (CRel G m w) l vs) : Rep G.S w τ x vs := by
 unfold dcAll at h
 split at h
 ·rename_i y hy
  cases h
  obtain ⟨v1, v2, rfl, h1, h2⟩ := dcs_rel hy hr
  cases h2; simpa using h1
 ·cases h
theorem dcRow_rel {G : Gh} {m : Mem} {w : World} {τ : Ty} : ∀ {n : Nat} {l : List C} {xs : List (den τ)} {vs : List Value}, dcRow τ n l = some xs → All2 (CRel G m w) l vs →
  xs.length = n ∧ vs.length = n * ncell τ ∧ ∀ j (h : j < xs.length), Rep G.S w τ xs[j] ((vs.drop (j * ncell τ)).take (ncell τ))
 | 0, l, xs, vs, h, hr => by
  cases hr with
  | nil => simp [dcRow] at h; subst h; simp
  | cons _ _ => simp [dcRow] at h
 | n + 1, l, xs, vs, h, hr => by
  simp only [dcRow] at h
  split at h
  ·rename_i y r hy
   split at h
   ·rename_i ys hys
    cases h
    obtain ⟨v1, v2, rfl, h1, h2⟩ := dcs_rel hy hr
    obtain ⟨e1, e2, e3⟩ := dcRow_rel hys h2
    have hl := h1.len
    refine ⟨by simp [e1], by simp [e2, hl, Nat.add_mul]; omega, fun j hj => ?_⟩
    cases j with
    | zero => simpa [← hl] using h1
    | succ j =>
     have hj : j < ys.length := by simpa using hj
     have := e3 j hj
     rw [show (j + 1) * ncell τ = v1.length + j * ncell τ by rw [hl, Nat.add_mul]; omega, List.drop_append, List.drop_of_length_le (by omega), List.nil_append]
     simpa [Nat.add_sub_cancel_left] using this
   ·cases h
  ·cases h
theorem fold_set (off : Nat) : ∀ (vs : List Value) (k : Nat) (cs : Array Value), off + k + vs.length ≤ cs.size →
  ((vs.zipIdx k).foldl (fun cs x => cs.setIfInBounds (off + x.2) x.1) cs).toList = cs.toList.take (off + k) ++ vs ++ cs.toList.drop (off + k + vs.length)
 | [], k, cs, _ => by simp
 | v :: vs, k, cs, h => by
  simp only [List.zipIdx_cons, List.foldl_cons]
  have h : off + k + (vs.length + 1) ≤ cs.size := by simpa using h
  rw [fold_set off vs (k + 1) _ (by simp; omega)]
  have hlt : off + k < cs.toList.length := by simp; omega
  have e1 : (cs.setIfInBounds (off + k) v).toList = cs.toList.take (off + k) ++ v :: cs.toList.drop (off + k + 1) := by
   rw [Array.toList_setIfInBounds, List.set_eq_take_append_cons_drop, if_pos hlt]
  have hl : (cs.toList.take (off + k)).length = off + k := by simp; omega
  rw [e1, show off + (k + 1) = (cs.toList.take (off + k)).length + 1 by omega, List.take_length_add_append]
  rw [show (cs.toList.take (off + k)).length + 1 + vs.length = (cs.toList.take (off + k)).length + (1 + vs.length) by omega, List.drop_length_add_append]
  simp [Nat.add_comm, Nat.add_left_comm]
theorem fill_rel {R : C → Value → Prop} {place : Nat → Option (Nat × Nat)} : ∀ {ps : List (Nat × List C)} {qs : List (Nat × Value)} {l l' : List C} {cells : Array Value},
  fillC place l ps = some l' → All2 R l cells.toList → All2 (fun p q => p.1 = q.1 ∧ All2 R p.2 q.2.cells.toList) ps qs → ∃ cells', Instr.fill place cells qs = some cells' ∧ All2 R l' cells'.toList ∧ (∀ u ∈ cells'.toList, u ∈ cells.toList ∨ ∃ q ∈ qs, u ∈ q.2.cells.toList)
 | [], [], l, l', cells, h, hr, _ => by simp [fillC] at h; subst h; exact ⟨cells, rfl, hr, fun u hu => .inl hu⟩
 | p :: ps, q :: qs, l, l', cells, h, hr, .cons hpq hrest => by
  obtain ⟨pi, pv⟩ := p
  obtain ⟨qi, qv⟩ := q
  obtain ⟨e, hv⟩ := hpq
  simp only at e hv
  subst e
  simp only [fillC] at h
  split at h
  case h_2 => cases h
  rename_i off size hp
  obtain ⟨hb, h⟩ := cond_some h
  simp only [Bool.and_eq_true] at hb
  have hsz := Nat.eq_of_beq_eq_true hb.1
  have hle := Nat.le_of_ble_eq_true hb.2
  have hl1 := hv.length
  have hl2 := hr.length
  simp only [Array.length_toList] at hl1 hl2
  have hfold := fold_set off qv.cells.toList 0 cells (by simp; omega)
  have hfold2 : (qv.cells.zipIdx.foldl (fun cs x => cs.setIfInBounds (off + x.2) x.1) cells).toList = cells.toList.take off ++ qv.cells.toList ++ cells.toList.drop (off + size) := by
   rw [← Array.foldl_toList, Array.toList_zipIdx, hfold]; simp; omega
  obtain ⟨cells', h1, h2, h3⟩ := fill_rel (cells := qv.cells.zipIdx.foldl (fun cs x => cs.setIfInBounds (off + x.2) x.1) cells) h
   (by rw [hfold2]; exact ((hr.take off).append hv).append (hr.drop (off + size))) hrest
  refine ⟨cells', ?_, h2, fun u hu => ?_⟩
  ·simp only [Instr.fill, hp]
   rw [if_neg (by simp; omega)]
   exact h1
  ·rcases h3 u hu with h4 | ⟨q, hq, h4⟩
   ·rw [hfold2] at h4
    rcases List.mem_append.1 h4 with h4 | h4
    ·rcases List.mem_append.1 h4 with h4 | h4
     ·exact .inl (List.mem_of_mem_take h4)
     ·exact .inr ⟨_, List.mem_cons_self, h4⟩
    ·exact .inl (List.mem_of_mem_drop h4)
   ·exact .inr ⟨q, List.mem_cons_of_mem _ hq, h4⟩
end Go.Al
