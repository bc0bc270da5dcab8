/- From a statement about the plain function to the row. -/
import Derived.Test.YtcgmelealalhhaaGreatDoorAlUse
import Derived.ProofKit
import Derived.WalkKit
import Derived.OpenShut
import Derived.ChangeOld
import Derived.Below
import Derived.Carry
import Derived.SizedLaws
namespace Go.Al
open Go.ChangeShapes Go.WideShapes Go.ChangeAt Go.RowKit
def GoodD : (τ : Ty) → den τ → Prop
 | .int k, n => (Lit.int k n).wf = true
 | .pair a b, x => GoodD a x.1 ∧ GoodD b x.2
 | .list t, xs => List.length xs ≤ maxLen ∧ ∀ x, x ∈ (xs : List (den t)) → GoodD t x
 | _, _ => True
def fitsL (P : Program) (f : TypeId → Ty → Bool) : List (TypeId × Nat) → Nat → Ty → Bool
 | [], _, _ => false
 | [(t, o)], p, τ => f t τ && Nat.beq o p && Nat.beq (P.cellsOf t) (ncell τ)
 | (t, o) :: r, p, .pair a b => f t a && Nat.beq o p && Nat.beq (P.cellsOf t) (ncell a) && fitsL P f r (p + ncell a) b
 | _, _, _ => false
def fits (P : Program) : Nat → TypeId → Ty → Bool
 | 0, _, _ => false
 | n + 1, t, τ => match P.underlying t with
  | some (.int k) => (match τ with | .int k' => decide (k = k') | _ => false)
  | some .bool => (match τ with | .bool => true | _ => false)
  | some (.slice e) => (match τ with | .list s => fits P n e s && Nat.beq (P.cellsOf e) (ncell s) && Nat.blt 0 (ncell s) | _ => false)
  | some (.struct fs) => Nat.beq (P.cellsOf t) (ncell τ) && fitsL P (fits P n) (fs.toList.map fun f => (f.type, f.offset)) 0 τ
  | some (.array k e) => Nat.beq (P.cellsOf t) (ncell τ) && fitsL P (fits P n) ((List.range k).map fun i => (e, i * P.cellsOf e)) 0 τ
  | _ => false
section
variable {H : Type} {enc : TypeId × Value → H} {P : Program} {W : World}
theorem fitsL_rep {f : TypeId → Ty → Bool} {cs : List Value} (hf : ∀ t τ us, f t τ = true → (∃ m x, DataW.trod enc P W 0 (fun _ => true) true m t us = some x) → ∃ x : den τ, Rep (· < W.heap.size) W τ x us ∧ GoodD τ x) :
  ∀ (l : List (TypeId × Nat)) (p : Nat) (τ : Ty), fitsL P f l p τ = true → cs.length = p + ncell τ →
   (∀ y ∈ l, ∃ m x, DataW.trod enc P W 0 (fun _ => true) true m y.1 ((cs.drop y.2).take (P.cellsOf y.1)) = some x) → ∃ x : den τ, Rep (· < W.heap.size) W τ x (cs.drop p) ∧ GoodD τ x
 | [], _, _, h, _, _ => by simp [fitsL] at h
 | [(t, o)], p, τ, h, hlen, hs => by
  simp only [fitsL, Bool.and_eq_true, Nat.beq_eq] at h
  obtain ⟨⟨h1, h2⟩, h3⟩ := h
  obtain ⟨m, x, hx⟩ := hs (t, o) (by simp)
  subst h2
  have e : (cs.drop o).take (P.cellsOf t) = cs.drop o := List.take_of_length_le (by rw [List.length_drop, h3]; omega)
  exact hf t τ _ h1 ⟨m, x, by rw [← e]; exact hx⟩
 | (t, o) :: y :: r, p, τ, h, hlen, hs => by
  cases τ with
  | pair a b =>
   simp only [fitsL, Bool.and_eq_true, Nat.beq_eq] at h
   obtain ⟨⟨⟨h1, h2⟩, h3⟩, h4⟩ := h
   obtain ⟨m, x, hx⟩ := hs (t, o) (by simp)
   subst h2
   simp only [h3] at hx
   have hn : ncell (.pair a b) = ncell a + ncell b := rfl
   rw [hn] at hlen
   obtain ⟨x1, r1, g1⟩ := hf t a _ h1 ⟨m, x, hx⟩
   obtain ⟨x2, r2, g2⟩ := fitsL_rep hf (y :: r) (o + ncell a) b h4 (by omega) (fun z hz => hs z (List.mem_cons_of_mem _ hz))
   refine ⟨(x1, x2), ⟨_, _, ?_, r1, r2⟩, g1, g2⟩
   rw [← List.drop_drop, List.take_append_drop]
  | _ => simp [fitsL] at h
theorem trod_rep : ∀ (n : Nat) (t : TypeId) (τ : Ty) (us : List Value), fits P n t τ = true → (∃ m x, DataW.trod enc P W 0 (fun _ => true) true m t us = some x) → ∃ x : den τ, Rep (· < W.heap.size) W τ x us ∧ GoodD τ x
 | 0, _, _, _, h, _ => by simp [fits] at h
 | n + 1, t, τ, us, h, ⟨m, x, hx⟩ => by
  unfold fits at h
  split at h
  ·rename_i k hu
   split at h
   ·rename_i k'
    have h := of_decide_eq_true h
    subst h
    obtain ⟨z, rfl, _, hw⟩ := DataW.trod_int hu hx
    exact ⟨z, rfl, hw⟩
   ·cases h
  ·rename_i hu
   split at h
   ·obtain ⟨b, rfl, _⟩ := DataW.trod_bool hu hx
    exact ⟨b, rfl, trivial⟩
   ·cases h
  ·rename_i e hu
   split at h
   ·rename_i s
    simp only [Bool.and_eq_true, Nat.beq_eq] at h
    obtain ⟨⟨h1, h2⟩, h3⟩ := h
    have h3 := of_blt h3
    rcases DataW.trod_slice hu hx with ⟨rfl, _⟩ | ⟨a, len, cap, elems, rest, m', _, rfl, _, _, hle, hcap, _, hel, _⟩
    ·exact ⟨([] : List (den s)), ⟨none, 0, rfl, Nat.le_refl _, fun i hi => absurd hi (Nat.not_lt_zero _)⟩, Nat.zero_le _, fun x hx => by cases hx⟩
    ·rename_i hlen' _ _
     have key : ∀ i, i < len → ∃ us', W.cells? 0 (a.add (i * P.cellsOf e)) (P.cellsOf e) = some us' ∧ ∃ y : den s, Rep (· < W.heap.size) W s y us' ∧ GoodD s y := fun i hi => by
      have := hel i hi
      rw [List.getElem?_eq_getElem (by omega)] at this
      obtain ⟨us', e1, e2⟩ := Option.bind_eq_some_iff.1 this
      exact ⟨us', e1, trod_rep n e s us' h1 ⟨_, _, e2⟩⟩
     have hfun : ∃ g : Nat → den s, ∀ i, i < len → ∃ us', W.cells? 0 (a.add (i * P.cellsOf e)) (P.cellsOf e) = some us' ∧ Rep (· < W.heap.size) W s (g i) us' ∧ GoodD s (g i) := by
      refine ⟨fun i => if hi : i < len then (key i hi).choose_spec.2.choose else dflt s, fun i hi => ?_⟩
      obtain ⟨e1, e2⟩ := (key i hi).choose_spec
      exact ⟨_, e1, by simp only [dif_pos hi]; exact e2.choose_spec⟩
     obtain ⟨g, hg⟩ := hfun
     refine ⟨((List.range len).map g : List (den s)), ?_, ?_, fun x hx => ?_⟩
     ·refine ⟨some a, cap, by simp, by simpa using hle, fun i hi => ?_⟩
      have hi' : i < len := by simpa using hi
      obtain ⟨us', e1, e2, _⟩ := hg i hi'
      obtain ⟨_, hl, hc⟩ := World.cells?_some e1
      rw [h2] at hl hc e1
      have hblk := World.cells?_block e1 h3
      have hsp : a.spot = none := by
       obtain ⟨us0, f1, _, _⟩ := hg 0 (by omega)
       obtain ⟨_, gl, gc⟩ := World.cells?_some f1
       have := gc 0 (by omega)
       have hl0 : 0 < us0.length := by omega
       rw [List.getElem?_eq_getElem hl0, Nat.zero_mul] at this
       exact World.cell?_spot this
      obtain ⟨ab, ao, asp⟩ := a
      cases hsp
      refine ⟨ab, ao, us', rfl, ?_, by simpa using e2, fun j v hj => ?_⟩
      ·rw [Addr.add_mid] at hblk; exact hblk
      ·have := hc j (by have := (List.getElem?_eq_some_iff.1 hj).1; omega)
       rw [Addr.add_mid, Addr.add_mid, hj] at this
       exact this
     ·simpa using Nat.le_trans hle hcap
     ·obtain ⟨i, hi, rfl⟩ := List.mem_map.1 hx
      obtain ⟨_, _, _, h⟩ := hg i (by simpa using hi)
      exact h
   ·cases h
  ·rename_i fs hu
   simp only [Bool.and_eq_true, Nat.beq_eq] at h
   obtain ⟨h1, h2⟩ := h
   obtain ⟨xs, m', _, _, hlen, hxs, hf⟩ := DataW.trod_struct hu hx
   have := fitsL_rep (cs := us) (fun t τ us h1 h2 => trod_rep n t τ us h1 h2) _ 0 τ h2 (by rw [hlen, h1]; omega) (fun y hy => by
    obtain ⟨f, hfm, rfl⟩ := List.mem_map.1 hy
    obtain ⟨i, hi, e⟩ := List.getElem_of_mem hfm
    have hi' : i < fs.size := by simpa using hi
    have := hf i f (by rw [Array.getElem?_eq_getElem hi']; simpa using e)
    rw [List.getElem?_eq_getElem (by omega)] at this
    exact ⟨_, _, this⟩)
   simpa using this
  ·rename_i k e hu
   simp only [Bool.and_eq_true, Nat.beq_eq] at h
   obtain ⟨h1, h2⟩ := h
   obtain ⟨xs, m', _, _, hlen, hxs, hf⟩ := DataW.trod_array hu hx
   have := fitsL_rep (cs := us) (fun t τ us h1 h2 => trod_rep n t τ us h1 h2) _ 0 τ h2 (by rw [hlen, h1]; omega) (fun y hy => by
    obtain ⟨i, hi, rfl⟩ := List.mem_map.1 hy
    have hi' : i < k := by simpa using hi
    have := hf i hi'
    rw [List.getElem?_eq_getElem (by omega)] at this
    exact ⟨_, _, this⟩)
   simpa using this
  ·cases h
def cellsT : (τ : Ty) → den τ → List C
 | .int k, n => [.int k n]
 | .bool, b => [.bool b]
 | .str, s => [.str s]
 | .pair a b, x => cellsT a x.1 ++ cellsT b x.2
 | .list t, xs => [.sl t xs none false]
 | .alt i a ia j b jb, x => [.ifs i a ia j b jb x]
theorem cellsT_rel {G : Gh} {m : Mem} : ∀ {τ : Ty} {x : den τ} {vs : List Value}, Rep G.S W τ x vs → All2 (CRel G m W) (cellsT τ x) vs
 | .int _, _, _, h => by simp only [Rep] at h; subst h; exact .cons rfl .nil
 | .bool, _, _, h => by simp only [Rep] at h; subst h; exact .cons rfl .nil
 | .str, _, _, h => by simp only [Rep] at h; subst h; exact .cons rfl .nil
 | .pair a b, x, vs, h => by
  obtain ⟨v1, v2, rfl, h1, h2⟩ := h
  exact (cellsT_rel h1).append (cellsT_rel h2)
 | .list t, xs, vs, h => by
  obtain ⟨ad, c, rfl, h1, h2⟩ := h
  exact .cons ⟨ad, c, rfl, h1, h2, (fun _ e => nomatch e), fun e => (Bool.false_ne_true e).elim⟩ .nil
 | .alt i a ia j b jb, x, vs, h => by
  cases x with
  | inl y => obtain ⟨us, hr, rfl⟩ := h; exact .cons ⟨us, hr, rfl⟩ .nil
  | inr y => obtain ⟨us, hr, rfl⟩ := h; exact .cons ⟨us, hr, rfl⟩ .nil
variable {base : Nat} {t : TypeId} {v : Value} {d : DataW H} {ps : List MemPlace} {ω γ κ : Nat → Nat}
def isAgg (P : Program) (t : TypeId) : Bool := match P.underlying t with | some (.struct _) | some (.array ..) => true | _ => false
theorem arg_agg (ht : isAgg P t = true) (n : Nat) (τ : Ty) (hf : fits P n t τ = true) (hv : Value.okWide P W .any base t v) (h : DataW.Trod enc P W 0 (fun _ => true) true t v d ps) :
  ∃ x : den τ, GoodD τ x ∧ A1Rel (ghOf (· < W.heap.size) ω γ κ) [] W (.agg (cellsT τ x)) v := by
 have : ∃ cs, v = .agg cs := by
  unfold isAgg at ht
  unfold Value.okWide at hv
  split at ht
  ·rename_i e; rw [e] at hv; obtain ⟨cs, h, _⟩ := hv; exact ⟨cs, h⟩
  ·rename_i e; rw [e] at hv; obtain ⟨cs, h, _⟩ := hv; exact ⟨cs, h⟩
  ·cases ht
 obtain ⟨cs, rfl⟩ := this
 obtain ⟨m, hm⟩ := h
 obtain ⟨x, hr, hg⟩ := trod_rep n t τ _ hf ⟨m, _, hm⟩
 exact ⟨x, hg, cs.toList, by simp, cellsT_rel hr⟩
def isInt (P : Program) (k : IntKind) (t : TypeId) : Bool := match P.underlying t with | some (.int k') => decide (k' = k) | _ => false
theorem arg_int {k : IntKind} (hf : isInt P k t = true) (hv : Value.okWide P W .any base t v) (h : DataW.Trod enc P W 0 (fun _ => true) true t v d ps) :
  ∃ x : Int, (Lit.int k x).wf = true ∧ A1Rel (ghOf (· < W.heap.size) ω γ κ) [] W (.one (.int k x)) v := by
 have ht : P.underlying t = some (.int k) := by
  unfold isInt at hf
  split at hf
  ·rename_i k' e; rw [e, of_decide_eq_true hf]
  ·cases hf
 obtain ⟨n, rfl⟩ := okWide_int ht hv
 obtain ⟨m, hm⟩ := h
 obtain ⟨z, e, _, hw⟩ := DataW.trod_int ht hm
 simp [Value.cells] at e
 subst e
 exact ⟨n, hw, rfl⟩
def isSl (P : Program) (t : TypeId) : Bool := match P.underlying t with | some (.slice _) => true | _ => false
theorem arg_slice (hs : isSl P t = true) (n : Nat) (τ : Ty) (hf : fits P n t (.list τ) = true) (hv : Value.okWide P W .any base t v) (h : DataW.Trod enc P W 0 (fun _ => true) true t v d ps) :
  ∃ x : List (den τ), GoodD (.list τ) x ∧ A1Rel (ghOf (· < W.heap.size) ω γ κ) [] W (.one (.sl τ x none false)) v := by
 have ht : ∃ e, P.underlying t = some (.slice e) := by
  unfold isSl at hs
  split at hs
  ·rename_i e ht; exact ⟨e, ht⟩
  ·cases hs
 obtain ⟨e, ht⟩ := ht
 obtain ⟨a, len, cap, rfl⟩ := okWide_slice ht hv
 obtain ⟨m, hm⟩ := h
 obtain ⟨x, hr, hg⟩ := trod_rep n t (.list τ) _ hf ⟨m, _, hm⟩
 have := cellsT_rel (G := ghOf (· < W.heap.size) ω γ κ) (m := []) hr
 cases this with
 | cons h1 _ => exact ⟨x, hg, h1⟩
structure Left2 (W W' : World) : Prop where
 io : SameIo W W'
 block : ∀ b, b < W.heap.size → W'.heap[b]? = W.heap[b]?
theorem Left2.frame {W' : World} (h : Left2 W W') (may : MemPlace → Prop) : W.keptBut W' may := by
 refine ⟨h.io.1, h.io.2, fun i hi => ?_⟩
 rw [h.block i hi]
 split <;> simp_all
theorem Left2.trod (hl : laidOutB P = true) (hr : P.readableRec t = true) (hrow : t < P.types.size) {W' : World} (h : DataW.Trod enc P W 0 (fun _ => true) true t v d ps) (hb : Left2 W W') :
  DataW.Trod enc P W' 0 (fun b => decide (b < W.heap.size)) true t v d ps := by
 have hlt : ∀ x ∈ ps, x.block < W.heap.size := by obtain ⟨m, hm⟩ := h; exact DataW.trod_lt m _ _ _ hm
 refine WideElems.Trod_stays hl hr hrow h (fun p hp => ?_) (fun x hx => by simpa using hlt x hx)
 cases p with
 | cell b o => exact World.cell?_of_block (w := W) (hb.block b (hlt _ hp))
 | map b => exact hb.block b (hlt _ hp)
theorem law_calls {c : CallS} {f : FuncId} (hc : CallOk P f c) (hf : Nat.blt f yB = true) {ins : List A1} {cargs : List Value} {mres : Mem}
  (hrun : c.run _ ins [] [] (fun r m => some (r, m)) = some (.a (.one (.bool true)), mres)) (hargs : All2 (A1Rel (ghOf (· < W.heap.size) (fun _ => 0) (fun _ => 0) fun _ => 0) [] W) ins cargs)
  (hT : ∀ g k xs, tabOf g = some (k, xs) → g < W.heap.size ∧ W.rangeAt g 0 (xs.map (Value.int k)) := by intro _ _ _ h; exact nomatch h) :
  Calls P f cargs.toArray W fun e W' => e = .returned (.bool true) ∧ Left2 W W' := by
 obtain ⟨res, m', hk, hA⟩ := hc _ ins [] [] _ _ hrun
 cases hk
 have hM : MRel P (begOf W (· < W.heap.size) (fun _ => 0) 0 fun _ => False) (ghOf (· < W.heap.size) (fun _ => 0) (fun _ => 0) fun _ => 0) [] W :=
  ⟨fun _ _ h => (nomatch h), fun _ _ h => h.elim, fun _ h => h.elim, fun _ h => h.elim, fun _ h => h, fun _ h => h.elim, Nat.le_refl _, fun _ _ _ _ => rfl, fun _ h => h, fun _ h => .inl h, fun _ h => absurd h (Nat.not_lt_zero _), ⟨rfl, rfl⟩, hT⟩
 have := hA W (· < W.heap.size) (fun _ => 0) (fun _ => 0) (fun _ => 0) (fun _ => False) cargs hM hargs
 rw [Goes, if_pos (of_blt hf)] at this
 refine this.mono fun e W' ⟨v, G', he, hM', hv, _⟩ => ?_
 have hv : v = .bool true := hv
 subst hv
 exact ⟨he, hM'.io, fun b hb => hM'.kept b hb (fun _ h => absurd h (Nat.not_lt_zero _)) id⟩
end
end Go.Al
