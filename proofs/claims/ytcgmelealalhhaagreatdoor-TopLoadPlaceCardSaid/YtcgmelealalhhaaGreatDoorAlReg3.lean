/- Regions in an order that is drawn. -/
import Derived.Test.YtcgmelealalhhaaGreatDoorAlReg2
namespace Go.Al
variable {P : Program} {H : Hint}
theorem lastW_none : ∀ {wr : List (Loc × Obj)} {l : Loc}, lastW wr l = none → l ∉ keys wr
 | [], _, _ => by simp [keys]
 | (l0, o0) :: r, l, h => by
  simp only [lastW] at h
  split at h
  ·cases h
  ·rename_i hn
   have := lastW_none hn
   by_cases e : l0 = l
   ·rw [if_pos e] at h; cases h
   ·simp only [keys, List.mem_cons, not_or]
    exact ⟨fun e' => e e'.symm, this⟩
theorem maskOf_bit {acc : List Nat} {i : Nat} : ∀ {l : List Edge} {m : Nat}, (maskOf acc l m).testBit i = true → m.testBit i = true ∨ ∃ e ∈ l, Region.binds .any e = true ∧ (i = e.on ∨ (acc.getD e.on 0).testBit i = true)
 | [], m, h => .inl h
 | e :: r, m, h => by
  simp only [maskOf] at h
  cases hb : Region.binds .any e with
  | false =>
   rw [hb] at h
   rcases maskOf_bit h with h | ⟨e', h1, h2⟩
   ·exact .inl h
   ·exact .inr ⟨e', List.mem_cons_of_mem _ h1, h2⟩
  | true =>
   rw [hb] at h
   rcases maskOf_bit h with h | ⟨e', h1, h2⟩
   ·have h : (m ||| ((1 <<< e.on) ||| acc.getD e.on 0)).testBit i = true := h
    rw [Nat.testBit_or, Nat.testBit_or, Bool.or_eq_true, Bool.or_eq_true] at h
    rcases h with h | h | h
    ·exact .inl h
    ·refine .inr ⟨e, List.mem_cons_self, hb, .inl ?_⟩
     rw [Nat.testBit_shiftLeft] at h
     simp only [Bool.and_eq_true, decide_eq_true_eq] at h
     have := Nat.testBit_one_eq_true_iff_self_eq_zero.1 h.2
     omega
    ·exact .inr ⟨e, List.mem_cons_self, hb, .inr h⟩
   ·exact .inr ⟨e', List.mem_cons_of_mem _ h1, h2⟩
theorem befores_spec : ∀ (l : List Oper) (acc : List Nat), ∃ more, befores l acc = acc ++ more ∧ more.length = l.length ∧
  ∀ (i : Nat) (o : Oper), l[i]? = some o → more[i]? = some (maskOf ((acc ++ more).take (acc.length + i)) o.after.toList 0)
 | [], acc => ⟨[], by simp [befores], rfl, fun i o h => by simp at h⟩
 | o :: r, acc => by
  obtain ⟨more, h1, h2, h3⟩ := befores_spec r (acc ++ [maskOf acc o.after.toList 0])
  refine ⟨maskOf acc o.after.toList 0 :: more, by rw [befores, h1]; simp, by simp [h2], fun i o' hi => ?_⟩
  cases i with
  | zero =>
   simp at hi; subst hi
   simp
  | succ i =>
   have := h3 i o' (by simpa using hi)
   rw [List.getElem?_cons_succ, this]
   have e2 : (acc ++ [maskOf acc o.after.toList 0]).length + i = acc.length + (i + 1) := by simp; omega
   rw [e2, List.append_assoc]; rfl
def Closed (ops : Array Oper) (X : Nat → Bool) : Prop := ∀ (j : Nat) (o : Oper), ops[j]? = some o → X j = true → ∀ e ∈ o.after, Region.binds .any e = true → X e.on = true
theorem befores_closed {ops : Array Oper} {X : Nat → Bool} (hX : Closed ops X) : ∀ (j : Nat) (o : Oper), ops[j]? = some o → (∀ e ∈ o.after, Region.binds .any e = true → X e.on = true) →
  ∀ i, ((befores ops.toList []).getD j 0).testBit i = true → X i = true := by
 obtain ⟨more, h1, h2, h3⟩ := befores_spec ops.toList []
 rw [List.nil_append] at h1
 rw [h1]
 intro j
 induction j using Nat.strongRecOn with
 | _ j ih =>
  intro o ho he i hi
  have hm := h3 j o (by simpa using ho)
  rw [List.getD_eq_getElem?_getD, hm, Option.getD_some] at hi
  rcases maskOf_bit hi with hi | ⟨e, he1, hb, he2⟩
  ·simp at hi
  ·have hXe := he e (by simpa using he1) hb
   rcases he2 with rfl | he2
   ·exact hXe
   ·rw [List.nil_append] at he2
    simp only [List.length_nil, Nat.zero_add] at he2
    by_cases hlt : e.on < j
    ·have hsz : j < ops.size := (Array.getElem?_eq_some_iff.1 ho).1
     have ho' : ops[e.on]? = some (ops[e.on]'(by omega)) := Array.getElem?_eq_getElem _
     refine ih e.on hlt _ ho' (fun e' h1 h2 => hX e.on _ ho' hXe e' h1 h2) i ?_
     rw [List.getD_eq_getElem?_getD] at he2 ⊢
     rwa [List.getElem?_take, if_pos hlt] at he2
    ·rw [List.getD_eq_getElem?_getD, List.getElem?_take, if_neg hlt] at he2
     simp at he2
theorem meets_mem {a b : List Loc} {l : Loc} (ha : l ∈ a) (hb : l ∈ b) : meets a b = true :=
 List.any_eq_true.2 ⟨l, ha, List.any_eq_true.2 ⟨l, hb, Loc.eqb_iff.2 rfl⟩⟩
theorem apartF_spec {x y : Eff} (h : apartF (footOf x) (footOf y) = true) : (∀ l ∈ keys x.wr, l ∉ y.rd ∧ l ∉ keys y.wr) ∧ (∀ l ∈ keys y.wr, l ∉ x.rd) := by
 simp only [apartF, footOf, Bool.and_eq_true, Bool.not_eq_true'] at h
 refine ⟨fun l hl => ⟨fun h2 => ?_, fun h2 => ?_⟩, fun l hl h2 => ?_⟩
 ·rw [meets_mem hl (List.mem_append_left _ h2)] at h; exact Bool.noConfusion h.1
 ·rw [meets_mem hl (List.mem_append_right _ h2)] at h; exact Bool.noConfusion h.1
 ·rw [meets_mem hl h2] at h; exact Bool.noConfusion h.2
theorem drawOk_spec {ops : Array Oper} {es : List Eff} (hl : es.length = ops.size) (h : drawOk ops (es.map footOf) = true) :
  (∀ (j : Nat) (o : Oper), ops[j]? = some o → ∀ e ∈ o.after, Region.binds .any e = true → e.on < j) ∧
  (∀ (i j : Nat) (x y : Oper), i < j → ops[i]? = some x → ops[j]? = some y → ((befores ops.toList []).getD j 0).testBit i = true ∨ (apartF (footOf (es.getD i (ret (one .und)))) (footOf (es.getD j (ret (one .und)))) = true ∧ x.apart ops y = true)) := by
 unfold drawOk at h
 simp only at h
 have h := List.all_eq_true.1 h
 refine ⟨fun j o hj e he hbind => ?_, fun i j x y hij hx hy => ?_⟩
 ·have hs : j < ops.size := (Array.getElem?_eq_some_iff.1 hj).1
  have := h j (List.mem_range.2 hs)
  rw [hj, Bool.and_eq_true] at this
  have := List.all_eq_true.1 this.1 e (by simpa using he)
  simpa [hbind, Nat.blt_eq] using this
 ·have hs : j < ops.size := (Array.getElem?_eq_some_iff.1 hy).1
  have := h j (List.mem_range.2 hs)
  rw [Bool.and_eq_true] at this
  have := List.all_eq_true.1 this.2 i (List.mem_range.2 hij)
  rw [hx, hy, Bool.or_eq_true] at this
  rcases this with h1 | h1
  ·exact .inl h1
  ·right
   rw [Bool.and_eq_true] at h1
   have e1 : ∀ k, k < ops.size → (es.map footOf).getD k ([], []) = footOf (es.getD k (ret (one .und))) := fun k hk => by
    simp [List.getD_eq_getElem?_getD, List.getElem?_eq_getElem (show k < es.length by omega)]
   rw [e1 i (by omega), e1 j hs] at h1
   exact h1
theorem filter_lt {p q : Nat → Bool} {i : Nat} (hpq : ∀ j, p j = true → q j = true) (hp : p i = false) (hq : q i = true) : ∀ {l : List Nat}, i ∈ l → (l.filter p).length < (l.filter q).length
 | x :: r, hi => by
  have hle : ∀ l : List Nat, (l.filter p).length ≤ (l.filter q).length := fun l => by
   induction l with
   | nil => simp
   | cons y r ih =>
    simp only [List.filter_cons]
    cases hpy : p y with
    | true => rw [hpq y hpy]; simpa using ih
    | false => cases q y <;> simp <;> omega
  simp only [List.filter_cons]
  rcases List.mem_cons.1 hi with rfl | hi
  ·rw [hp, hq]
   have := hle r
   simp; omega
  ·have ih := filter_lt hpq hp hq hi
   cases hpx : p x with
   | true => rw [hpq x hpx]; simpa using ih
   | false => cases q x <;> simp <;> omega
theorem ready_mem {ops : Array Oper} {listed : Array Bool} {i : Nat} (h : i ∈ Region.ready .any ops listed) :
  i < ops.size ∧ listed.getD i true = false ∧ ∃ o, ops[i]? = some o ∧ ∀ e ∈ o.after, Region.binds .any e = true → listed.getD e.on false = true := by
 unfold Region.ready at h
 obtain ⟨h1, h2⟩ := List.mem_filter.1 h
 have hs := List.mem_range.1 h1
 rw [Bool.and_eq_true, Bool.not_eq_true'] at h2
 refine ⟨hs, h2.1, ops[i], Array.getElem?_eq_getElem hs, fun e he hb => ?_⟩
 have h3 := h2.2
 rw [Array.getElem?_eq_getElem hs, Option.map_some, Option.getD_some] at h3
 have := Array.all_eq_true'.1 h3 e he
 rw [hb] at this
 simpa using this
theorem ready_of {ops : Array Oper} {listed : Array Bool} {i : Nat} {o : Oper} (ho : ops[i]? = some o) (hl : listed.getD i true = false) (he : ∀ e ∈ o.after, Region.binds .any e = true → listed.getD e.on false = true) : i ∈ Region.ready .any ops listed := by
 unfold Region.ready
 have hs : i < ops.size := (Array.getElem?_eq_some_iff.1 ho).1
 refine List.mem_filter.2 ⟨List.mem_range.2 hs, ?_⟩
 rw [Bool.and_eq_true, Bool.not_eq_true']
 refine ⟨hl, ?_⟩
 rw [ho, Option.map_some, Option.getD_some]
 refine Array.all_eq_true'.2 fun e h => ?_
 cases hb : Region.binds .any e with
 | false => rfl
 | true => rw [he e h hb]; rfl
theorem draw_sound {ops : Array Oper} {n : Nat} {dst : Nat → Option Nat} {ef : Nat → Eff} {rg0 : Nat → AV} {mm0 : Loc → Option Obj} (hdst : ∀ (i : Nat) (o : Oper), ops[i]? = some o → dst i = o.dst)
  (hsteps : ∀ (i : Nat) (o : Oper), ops[i]? = some o → StepOk P ops n o (regX dst ef rg0 i (fun _ => true)) (memX ef mm0 i (fun _ => true)) (ef i))
  (hedge : ∀ (j : Nat) (o : Oper), ops[j]? = some o → ∀ e ∈ o.after, Region.binds .any e = true → e.on < j)
  (hap : ∀ (i j : Nat) (x y : Oper), i < j → ops[i]? = some x → ops[j]? = some y → ((befores ops.toList []).getD j 0).testBit i = true ∨ (apartF (footOf (ef i)) (footOf (ef j)) = true ∧ x.apart ops y = true))
  {Q : Exit → Act → World → Prop} {B : Beg} (hn : B.nt = n)
  (hQ : ∀ G' s' a' w', getR s'.regs = regX dst ef rg0 ops.size (fun _ => true) → getM s'.mem = memX ef mm0 ops.size (fun _ => true) → WRel P B G' s' a' w' → Q .normal a' w') :
  ∀ (fuel : Nat) (listed : Array Bool), listed.size = ops.size → Closed ops (fun j => listed.getD j false) → ((List.range ops.size).filter fun j => !listed.getD j false).length ≤ fuel →
  ∀ (s : St) (G : Gh) (a : Act) (w : World), getR s.regs = regX dst ef rg0 ops.size (fun j => listed.getD j false) → getM s.mem = memX ef mm0 ops.size (fun j => listed.getD j false) → WRel P B G s a w →
   wpAnyIn (fw B.rd) 0 P .any ops Q fuel listed a w := by
 have hgd : ∀ (listed : Array Bool), listed.size = ops.size → ∀ j, j < ops.size → listed.getD j true = listed.getD j false := fun listed hs j hj => by
  simp [Array.getD_eq_getD_getElem?, Array.getElem?_eq_getElem (show j < listed.size by omega)]
 have hall : ∀ (listed : Array Bool), listed.size = ops.size → Region.ready .any ops listed = [] → ∀ j, j < ops.size → listed.getD j false = true := fun listed hs hr j => by
  induction j using Nat.strongRecOn with
  | _ j ih =>
   intro hj
   cases hx : listed.getD j false with
   | true => rfl
   | false =>
    exfalso
    have ho : ops[j]? = some ops[j] := Array.getElem?_eq_getElem hj
    have := ready_of ho (by rw [hgd listed hs j hj]; exact hx) fun e he hb => ih e.on (hedge j _ ho e he hb) (by have := hedge j _ ho e he hb; omega)
    rw [hr] at this; cases this
 have hfin : ∀ (listed : Array Bool), listed.size = ops.size → (∀ j, j < ops.size → listed.getD j false = true) → ∀ (s : St) (G : Gh) (a : Act) (w : World), getR s.regs = regX dst ef rg0 ops.size (fun j => listed.getD j false) →
   getM s.mem = memX ef mm0 ops.size (fun j => listed.getD j false) → WRel P B G s a w → Q .normal a w := fun listed hs hA s G a w h1 h2 hw =>
  hQ G s a w (by rw [h1]; exact funext fun t => regX_agree fun j hj _ => hA j hj) (by rw [h2]; exact funext fun l => memX_agree fun j hj _ => hA j hj) hw
 intro fuel
 induction fuel with
 | zero =>
  intro listed hs hcl hc s G a w h1 h2 hw
  have hA : ∀ j, j < ops.size → listed.getD j false = true := fun j hj => by
   cases hx : listed.getD j false with
   | true => rfl
   | false =>
    have : j ∈ (List.range ops.size).filter fun j => !listed.getD j false := List.mem_filter.2 ⟨List.mem_range.2 hj, by rw [hx]; rfl⟩
    have := List.length_pos_of_mem this
    omega
  refine ⟨?_, hfin listed hs hA s G a w h1 h2 hw⟩
  refine List.eq_nil_iff_forall_not_mem.2 fun i hi => ?_
  obtain ⟨hi1, hi2, _⟩ := ready_mem hi
  rw [hgd listed hs i hi1, hA i hi1] at hi2
  cases hi2
 | succ fuel ih =>
  intro listed hs hcl hc s G a w h1 h2 hw
  refine ⟨fun hr => hfin listed hs (hall listed hs hr) s G a w h1 h2 hw, fun i hi => ?_⟩
  obtain ⟨hi1, hi2, o, ho, hed⟩ := ready_mem hi
  rw [hgd listed hs i hi1] at hi2
  -- whatever differs from the order of the text stands apart
  have hlow : ∀ j y, j < i → ops[j]? = some y → listed.getD j false = false → apartF (footOf (ef j)) (footOf (ef i)) = true ∧ y.apart ops o = true := fun j y hj hy hx => by
   rcases hap j i y o hj hy ho with hb | hb
   ·have := befores_closed hcl i o ho hed j hb
    rw [hx] at this; cases this
   ·exact hb
  have hhigh : ∀ j y, i < j → ops[j]? = some y → listed.getD j false = true → apartF (footOf (ef i)) (footOf (ef j)) = true ∧ o.apart ops y = true := fun j y hj hy hx => by
   rcases hap i j o y hj ho hy with hb | hb
   ·have := befores_closed hcl j y hy (hcl j y hy hx) i hb
    rw [hi2] at this; cases this
   ·exact hb
  have hget : ∀ j, j < ops.size → ops[j]? = some (ops[j]?.getD o) := fun j hj => by rw [Array.getElem?_eq_getElem hj]; rfl
  have hX' : ∀ j, (listed.setIfInBounds i true).getD j false = if j = i then true else listed.getD j false := fun j => by
   by_cases e : j = i
   ·subst e; simp [Array.getD_eq_getD_getElem?, hs, hi1]
   ·rw [if_neg e]; simp [Array.getD_eq_getD_getElem?, Array.getElem?_setIfInBounds_ne (Ne.symm e)]
  refine step_sem (hsteps i o ho) ho (fun t ht => ?_) (fun l hl => ?_) hw hn fun G' a' w' hw' => ?_
  ·rw [h1, ← regX_below (Nat.le_of_lt hi1)]
   refine regX_agree fun j hj hd => ?_
   have hy := hget j hj
   rw [hdst j _ hy] at hd
   rcases Nat.lt_trichotomy j i with h | h | h
   ·rw [decide_eq_true h]
    cases hx : listed.getD j false with
    | true => rfl
    | false => exact absurd ht ((Oper.apart_spec (hlow j _ h hy hx).2).1 t hd)
   ·subst h; rw [hi2]; simp
   ·rw [decide_eq_false (by omega)]
    cases hx : listed.getD j false with
    | false => rfl
    | true => exact absurd ht ((Oper.apart_spec (hhigh j _ h hy hx).2).2.2 t hd)
  ·rw [h2, ← memX_below (Nat.le_of_lt hi1)]
   refine memX_agree fun j hj hk => ?_
   have hy := hget j hj
   rcases Nat.lt_trichotomy j i with h | h | h
   ·rw [decide_eq_true h]
    cases hx : listed.getD j false with
    | true => rfl
    | false =>
     have := (apartF_spec (hlow j _ h hy hx).1).1 l hk
     rcases List.mem_append.1 hl with hl | hl
     ·exact absurd hl this.1
     ·exact absurd hl this.2
   ·subst h; rw [hi2]; simp
   ·rw [decide_eq_false (by omega)]
    cases hx : listed.getD j false with
    | false => rfl
    | true =>
     have := apartF_spec (hhigh j _ h hy hx).1
     rcases List.mem_append.1 hl with hl | hl
     ·exact absurd hl (this.2 l hk)
     ·exact absurd hk (this.1 l hl).2
  ·refine ih (listed.setIfInBounds i true) (by simp [hs]) (fun j y hy hx e he hb => ?_) ?_ _ G' a' w' ?_ ?_ hw'
   ·simp only [hX'] at hx ⊢
    by_cases e1 : e.on = i
    ·rw [if_pos e1]
    ·rw [if_neg e1]
     by_cases e2 : j = i
     ·subst e2
      rw [ho] at hy; cases hy
      exact hed e he hb
     ·rw [if_neg e2] at hx
      exact hcl j y hy hx e he hb
   ·have := filter_lt (p := fun j => !(listed.setIfInBounds i true).getD j false) (q := fun j => !listed.getD j false) (i := i) (fun j hj => by
     rw [hX'] at hj
     by_cases e : j = i
     ·rw [if_pos e] at hj; cases hj
     ·rw [if_neg e] at hj; exact hj) (by rw [hX']; simp) (by rw [hi2]; rfl) (List.mem_range.2 hi1)
    omega
   ·rw [app_rg, h1]
    funext t
    show (if o.dst = some t then (ef i).val else _) = _
    by_cases hd : o.dst = some t
    ·rw [if_pos hd]
     refine (regX_last (by rw [hdst i o ho]; exact hd) (by rw [hX']; simp) hi1 fun j h3 h4 hx hdj => ?_).symm
     have hy := hget j h4
     rw [hX', if_neg (by omega)] at hx
     rw [hdst j _ hy] at hdj
     exact (Oper.apart_spec (hhigh j _ h3 hy hx).2).2.1 t hd hdj
    ·rw [if_neg hd]
     refine regX_agree fun j hj hdj => ?_
     rw [hX']
     by_cases e : j = i
     ·subst e; rw [hdst j o ho] at hdj; exact absurd hdj hd
     ·rw [if_neg e]
   ·rw [app_mm, h2]
    funext l
    show (match lastW (ef i).wr l with | some o => some o | none => _) = _
    cases hl : lastW (ef i).wr l with
    | some q =>
     refine (memX_last hl (by rw [hX']; simp) hi1 fun j h3 h4 hx hk => ?_).symm
     have hy := hget j h4
     rw [hX', if_neg (by omega)] at hx
     exact ((apartF_spec (hhigh j _ h3 hy hx).1).1 l (lastW_keys hl)).2 hk
    | none =>
     refine memX_agree fun j hj hk => ?_
     rw [hX']
     by_cases e : j = i
     ·subst e; exact absurd hk (lastW_none hl)
     ·rw [if_neg e]
end Go.Al
