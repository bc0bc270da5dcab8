/- Maps: keys. -/
import Derived.Test.YtcgmelealalhhaaGreatDoorAlExt
namespace Go.Al
variable {P : Program}
theorem eqK_eq : ∀ {κ : Ty} {a b : den κ}, eqK κ a b = true → a = b
 | .int _, a, b, h => by
  have h : (show Int from a) = (show Int from b) := by simpa [eqK] using h
  exact h
 | .bool, a, b, h => by
  have h : (show Bool from a) = (show Bool from b) := by simpa [eqK] using h
  exact h
 | .str, a, b, h => by
  have h : decide ((show ByteArray from a) = (show ByteArray from b)) = true := h
  exact of_decide_eq_true h
 | .pair s t, a, b, h => by
  simp only [eqK, Bool.and_eq_true] at h
  exact Prod.ext (eqK_eq h.1) (eqK_eq h.2)
 | .list _, _, _, h => by simp [eqK] at h
 | .alt .., _, _, h => by simp [eqK] at h
structure KeyOk (P : Program) (t : TypeId) (κ : Ty) (ka : Bool) : Prop where
 flat : flatT κ = true
 check : ∀ (w : World) (em : Bool) (x : den κ), (Instr.checkKey em 10000 t (oneV ka (kv κ x))).run P w = .ok () w
 find : ∀ (w : World) (x : den κ) (α : Type) (xs : List (den κ × α)) (es : List MapEntry), es.map (·.key) = xs.map (fun k => oneV ka (kv κ k.1)) →
  (Instr.findKey t (oneV ka (kv κ x)) es).run P w = .ok ((es[midx κ x xs]?).map fun e => (midx κ x xs, e.val)) w
 stays : ∀ (w : World) (x : den κ), (Instr.keyThatStays (oneV ka (kv κ x)) (oneV ka (kv κ x))).run P w = .ok (oneV ka (kv κ x)) w
theorem findAsking_of {t : TypeId} {κ : Ty} {ka : Bool} (heq : ∀ (w : World) (x y : den κ), (Op.equal t (oneV ka (kv κ x)) (oneV ka (kv κ y))).run P w = .ok (eqK κ x y) w) (w : World) (x : den κ) {α : Type} :
  ∀ (xs : List (den κ × α)) (es : List MapEntry) (i : Nat), es.map (·.key) = xs.map (fun k => oneV ka (kv κ k.1)) →
  (Instr.findAsking t (oneV ka (kv κ x)) es i).run P w = .ok ((es[midx κ x xs]?).map fun e => (i + midx κ x xs, e.val)) w
 | [], [], i, _ => by simp [Instr.findAsking]
 | [], _ :: _, _, h => by simp at h
 | _ :: _, [], _, h => by simp at h
 | k :: xs, e :: es, i, h => by
  simp only [List.map_cons, List.cons.injEq] at h
  simp only [Instr.findAsking, Sem.run_bind]
  rw [h.1, heq]
  simp only [Result.andThen, midx]
  cases hk : eqK κ x k.1 with
  | true => simp
  | false =>
   have := findAsking_of heq w x xs es (i + 1) h.2
   simp only [Bool.false_eq_true, if_false, this, cond_false]
   simp [Nat.add_assoc, Nat.add_comm 1]
theorem findNow_int {k : IntKind} (a : Int) {α : Type} : ∀ (xs : List (den (.int k) × α)) (es : List MapEntry) (i : Nat), es.map (·.key) = xs.map (fun y => oneV false (kv (.int k) y.1)) →
  Instr.findNow (.int k) (.int k a) es i = some ((es[midx (.int k) a xs]?).map fun e => (i + midx (.int k) a xs, e.val))
 | [], [], i, _ => by simp [Instr.findNow]
 | [], _ :: _, _, h => by simp at h
 | _ :: _, [], _, h => by simp at h
 | y :: xs, e :: es, i, h => by
  simp only [List.map_cons, List.cons.injEq] at h
  have hk : e.key = .int k y.1 := h.1
  simp only [Instr.findNow, hk, Instr.sameNow, if_true, midx]
  have ht : ((a == (show Int from y.1)) = eqK (.int k) a y.1) := rfl
  cases hb : eqK (.int k) a y.1 with
  | true =>
   have : (a == y.1) = true := hb
   rw [this]; simp
  | false =>
   have h1 : (a == y.1) = false := hb
   rw [h1]
   simp only [cond_false]
   rw [findNow_int a xs es (i + 1) h.2]
   simp [Nat.add_assoc, Nat.add_comm 1]
theorem keyOk_int {t : TypeId} {k : IntKind} (ht : P.underlying t = some (.int k)) : KeyOk P t (.int k) false := by
 refine ⟨rfl, fun w em x => ?_, fun w x α xs es h => ?_, fun w x => ?_⟩
 ·have key : ∀ n : Nat, (Instr.checkKey em (n + 1) t (.int k x)).run P w = .ok () w := fun n => by
   simp only [Instr.checkKey, Sem.run_bind, run_underlying ht, Result.andThen]
   rfl
  exact key 9999
 ·show (Instr.findKey t (.int k x) es).run P w = _
  simp only [Instr.findKey, Sem.run_bind, run_underlying ht, Result.andThen]
  rw [findNow_int x xs es 0 h]
  simp
 ·show (Instr.keyThatStays (.int k x) (.int k x)).run P w = _
  simp [Instr.keyThatStays, Instr.sameBits]
  rfl
theorem keyOk_agg {t : TypeId} {κ : Ty} {d : TypeDesc} (hfl : flatT κ = true) (ht : P.underlying t = some d) (hd : ∀ a b, Instr.sameNow d a b = none)
  (hc : ∀ (n : Nat) (w : World) (em : Bool) (x : den κ), (Instr.checkKey em (n + 2) t (oneV true (kv κ x))).run P w = .ok () w)
  (heq : ∀ (w : World) (x y : den κ), (Op.equal t (oneV true (kv κ x)) (oneV true (kv κ y))).run P w = .ok (eqK κ x y) w)
  (hs : ∀ x : den κ, Instr.sameBits 10000 (oneV true (kv κ x)) (oneV true (kv κ x)) = true) : KeyOk P t κ true := by
 refine ⟨hfl, fun w em x => hc 9998 w em x, fun w x α xs es h => ?_, fun w x => ?_⟩
 ·have ha := findAsking_of heq w x xs es 0 h
  simp only [Nat.zero_add] at ha
  simp only [Instr.findKey, Sem.run_bind, run_underlying ht, Result.andThen]
  cases es with
  | nil =>
   simp only [Instr.findNow]
   simp
  | cons e es =>
   simp only [Instr.findNow, hd]
   exact ha
 ·simp only [Instr.keyThatStays, hs, if_true]
  rfl
theorem sameBits_int (n : Nat) (k : IntKind) (a : Int) : Instr.sameBits n (.int k a) (.int k a) = true := by
 cases n <;> simp [Instr.sameBits]
theorem sameBits_bool (n : Nat) (a : Bool) : Instr.sameBits n (.bool a) (.bool a) = true := by
 cases n <;> simp [Instr.sameBits]
theorem MpRel.keys {S : Nat → Prop} {w : World} {κ : Ty} {ka : Bool} {τ : Ty} {va : Bool} {xs : List (den κ × den τ)} {es : Array MapEntry} (h2 : es.size = xs.length)
  (h3 : ∀ i (h : i < xs.length), ∃ (e : MapEntry) (us : List Value), es[i]? = some e ∧ e.born = i ∧ e.key = oneV ka (kv κ xs[i].1) ∧ Rep S w τ xs[i].2 us ∧ e.val = oneV va us) :
  es.toList.map (·.key) = xs.map (fun k => oneV ka (kv κ k.1)) := by
 apply List.ext_getElem (by simp [h2])
 intro i h1 h4
 obtain ⟨e, us, q1, _, q3, _⟩ := h3 i (by simpa using h4)
 have hi : i < es.size := by simpa using h1
 have : es[i]'hi = e := by
  rw [Array.getElem?_eq_getElem hi] at q1
  exact Option.some.inj q1
 simp [this, q3]
theorem midx_spec {κ : Ty} {α : Type} (k : den κ) : ∀ xs : List (den κ × α), (mhas κ k xs = true → ∃ v, xs[midx κ k xs]? = some (k, v)) ∧ (mhas κ k xs = false → midx κ k xs = xs.length)
 | [] => ⟨fun h => by simp [mhas] at h, fun _ => rfl⟩
 | e :: r => by
  obtain ⟨h1, h2⟩ := midx_spec k r
  by_cases hb : eqK κ k e.1 = true
  ·simp only [mhas, midx, hb, cond_true]
   exact ⟨fun _ => ⟨e.2, by rw [eqK_eq hb]; rfl⟩, fun h => by cases h⟩
  ·have hb : eqK κ k e.1 = false := by simpa using hb
   simp only [mhas, midx, hb, cond_false]
   exact ⟨fun h => by simpa using h1 h, fun h => by simpa using h2 h⟩
theorem mget_spec {κ : Ty} {α : Type} (k : den κ) (d : α) : ∀ xs : List (den κ × α), mget κ k d xs = ((xs[midx κ k xs]?).map (·.2)).getD d
 | [] => rfl
 | e :: r => by
  simp only [mget, midx]
  cases hb : eqK κ k e.1 with
  | true => simp
  | false => simpa using mget_spec k d r
theorem mput_spec {κ : Ty} {α : Type} (k : den κ) (v : α) : ∀ xs : List (den κ × α), mput κ k v xs = if mhas κ k xs = true then xs.set (midx κ k xs) (k, v) else xs ++ [(k, v)]
 | [] => rfl
 | e :: r => by
  by_cases hb : eqK κ k e.1 = true
  ·simp only [mput, mhas, midx, hb, cond_true, if_true]
   rw [← eqK_eq hb]; rfl
  ·have hb : eqK κ k e.1 = false := by simpa using hb
   simp only [mput, mhas, midx, hb, cond_false]
   rw [mput_spec k v r]
   split <;> simp
end Go.Al
