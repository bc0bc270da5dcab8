/- Structs of integers and bools that are compared. -/
import Derived.Test.YtcgmelealalhhaaGreatDoorAlUse
import Derived.Laws.StructEq
namespace Go.Al
variable {P : Program} {H : Hint}
inductive Leaf : List Bool → List Value → List Value → Bool → Prop
 | nil : Leaf [] [] [] true
 | int {ks us us' b} (k : IntKind) (a a' : Int) : Leaf ks us us' b → Leaf (true :: ks) (.int k a :: us) (.int k a' :: us') ((a == a') && b)
 | bool {ks us us' b} (a a' : Bool) : Leaf ks us us' b → Leaf (false :: ks) (.bool a :: us) (.bool a' :: us') ((a == a') && b)
theorem leaf_of {G : Gh} {m : Mem} {w : World} : ∀ {ks : List Bool} {l l' : List C} {b : Bool} {vs vs' : List Value}, okKs ks l = true → eqCs l l' = some b → All2 (CRel G m w) l vs → All2 (CRel G m w) l' vs' → Leaf ks vs vs' b
 | [], [], l', b, vs, vs', h1, h2, h3, h4 => by
  cases h3
  cases l' with
  | nil => cases h4; cases h2; exact .nil
  | cons _ _ => cases h2
 | true :: ks, c :: l, l', b, vs, vs', h1, h2, h3, h4 => by
  cases c <;> try (cases h1; done)
  rename_i k a
  cases l' with
  | nil => cases h2
  | cons c' l' =>
   simp only [eqCs] at h2
   split at h2 <;> try (cases h2; done)
   rename_i x y hx hy
   cases h2
   cases c' <;> simp only [eqC] at hx <;> try (cases hx; done)
   rename_i k' a'
   split at hx
   ·rename_i e
    subst e; cases hx
    cases h3 with
    | cons r1 r2 =>
     cases h4 with
     | cons r3 r4 =>
      cases r1; cases r3
      exact .int k a a' (leaf_of h1 hy r2 r4)
   ·cases hx
 | false :: ks, c :: l, l', b, vs, vs', h1, h2, h3, h4 => by
  cases c <;> try (cases h1; done)
  rename_i a
  cases l' with
  | nil => cases h2
  | cons c' l' =>
   simp only [eqCs] at h2
   split at h2 <;> try (cases h2; done)
   rename_i x y hx hy
   cases h2
   cases c' <;> simp only [eqC] at hx <;> try (cases hx; done)
   rename_i a'
   cases hx
   cases h3 with
   | cons r1 r2 =>
    cases h4 with
    | cons r3 r4 =>
     cases r1; cases r3
     exact .bool a a' (leaf_of h1 hy r2 r4)
 | [], _ :: _, _, _, _, _, h1, _, _, _ => by cases h1
 | true :: _, [], _, _, _, _, h1, _, _, _ => by cases h1
 | false :: _, [], _, _, _, _, h1, _, _, _ => by cases h1
def EqAt (P : Program) (ty : Nat) (ks : List Bool) : Prop := P.eqGuardType P.depth ty = false ∧ ∀ (us us' : List Value) (b : Bool) (w : World), Leaf ks us us' b → (Op.equalIn 10000 ty (.agg us.toArray) (.agg us'.toArray)).run P w = .ok b w
theorem eqS_of (h : ∀ ty ks, H.eqn ty = some ks → EqAt P ty ks) : EqS P H := fun ty ks hk l l' b G m w vs vs' h1 h2 h3 h4 x y => by
 obtain ⟨g1, g2⟩ := h ty ks hk
 have := g2 vs vs' b w (leaf_of h1 h2 h3 h4)
 constructor
 ·rw [Sem.run_bind, run_eqGuard_agg w _ _ _ _ _ _ g1]
  show (binOp .eql ty _ _).run P w = _
  rw [run_eql_struct, this]; rfl
 ·rw [Sem.run_bind, run_eqGuard_agg w _ _ _ _ _ _ g1]
  show (binOp .neq ty _ _).run P w = _
  rw [run_neq_struct, this]; rfl
end Go.Al
