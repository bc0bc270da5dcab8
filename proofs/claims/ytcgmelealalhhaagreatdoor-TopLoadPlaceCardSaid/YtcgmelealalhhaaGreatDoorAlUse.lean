/- Lists of calls and of pieces of code. -/
import Derived.Test.YtcgmelealalhhaaGreatDoorAlYield
namespace Go.Al
variable {P : Program} {H : Hint} {rb : Bool}
def callsL : List (Nat × CallS) → Nat → Option CallS
 | [], _ => none
 | (g, c) :: r, f => bif Nat.beq g f then some c else callsL r f
def orcsL : List (Nat × Orc) → Nat → Option Orc
 | [], _ => none
 | (p, o) :: r, q => bif Nat.beq p q then some o else orcsL r q
def orCall {T : Tm} (V : Vw T) (a b : CallS) : CallS := ⟨fun R as bs gs k => match V.dec ⟨numR 0 (as.map .a), outM 0 bs ++ gs⟩ with | some _ => a.run R as bs gs k | none => b.run R as bs gs k⟩
def codeOf (c : Code) (p : Nat) : Code := (codeAt c p p).getD .skip
def loopOf : Code → Code
 | .loop c => c | _ => .skip
def rngC (x : Option (Nat × List Nat × Code × Code)) (b : Bool) : Code := match x with | some (_, _, c, d) => bif b then c else d | none => .skip
theorem yEnters {g : Nat} (h : Nat.blt g yB = false) : g < yB → Enters P g := fun h' => by
 have := Nat.blt_eq.symm ▸ h'
 rw [h] at this; cases this
theorem callsL_nil : CallsOk P (callsL []) := fun _ _ h => by cases h
theorem callsL_cons {g : Nat} {c : CallS} {l : List (Nat × CallS)} (h1 : g < yB → Enters P g) (h2 : CallOk P g c) (h : CallsOk P (callsL l)) : CallsOk P (callsL ((g, c) :: l)) := fun f d e => by
 simp only [callsL] at e
 cases hb : Nat.beq g f with
 | true =>
  rw [hb] at e
  cases e
  have := Nat.eq_of_beq_eq_true hb
  subst this
  exact ⟨h1, h2⟩
 | false => rw [hb] at e; exact h f d e
abbrev OrcsOk (P : Program) (rb : Bool) (n : Nat) (root : Code) (orc : Nat → Option Orc) : Prop := ∀ p q d, orc p = some q → At root p d → OrcOk P rb n d q
theorem orcsL_nil {n : Nat} {root : Code} : OrcsOk P rb n root (orcsL []) := fun _ _ _ h _ => by cases h
theorem orcsL_cons {n : Nat} {root c : Code} {p : Nat} {o : Orc} {l : List (Nat × Orc)} (h1 : codeAt root p p = some c) (h2 : OrcOk P rb n c o) (h : OrcsOk P rb n root (orcsL l)) : OrcsOk P rb n root (orcsL ((p, o) :: l)) := fun q g d e hat => by
 simp only [orcsL] at e
 cases hb : Nat.beq p q with
 | true =>
  rw [hb] at e
  cases e
  have := Nat.eq_of_beq_eq_true hb
  subst this
  have := hat.code p (Nat.le_refl _)
  rw [h1] at this
  cases this
  exact h2
 | false => rw [hb] at e; exact h q g d e hat
theorem orCall_ok {T : Tm} {V : Vw T} {g : Nat} {a b : CallS} (ha : CallOk P g a) (hb : CallOk P g b) : CallOk P g (orCall V a b) := fun R as bs gs k r h => by
 simp only [orCall] at h
 split at h
 ·exact ha R as bs gs k r h
 ·exact hb R as bs gs k r h
theorem call_none {g nt : Nat} {Ti To : Tm} {Vi : Vw Ti} {Vo : Vw To} {F : Vi.Y → Option Vo.Y} (h0 : ∀ x, F x = none) : CallOk P g (callOf nt Vi Vo F) := by
 intro R as bs gs k r h
 simp only [callOf] at h
 obtain ⟨_, h⟩ := cond_some h
 split at h
 case h_2 => cases h
 rw [h0] at h
 cases h
end Go.Al
