/- Pieces of code that are functions of their own: cuts and loops. -/
import Derived.Test.YtcgmelealalhhaaGreatDoorAlTm3
namespace Go.Al
variable {P : Program} {H : Hint} {rb : Bool}
def X.eqb : X → X → Bool
 | .nrm, .nrm => true | .ext i, .ext j => Nat.beq i j | .ret, .ret => true | _, _ => false
theorem X.eqb_eq {a b : X} (h : X.eqb a b = true) : a = b := by
 cases a <;> cases b <;> simp [X.eqb] at h <;> first | rfl | (rw [h])
structure Vw (T : Tm) where
 Y : Type
 fromT : T.T → Y
 outT : Y → T.T
 inv : ∀ t, outT (fromT t) = t
structure Ex where
 x : X
 tm : Tm
 vw : Vw tm
abbrev Vw.dec {T : Tm} (v : Vw T) (s : St) : Option v.Y := match T.dec s with | some t => some (v.fromT t) | none => none
abbrev Vw.enc {T : Tm} (v : Vw T) (y : v.Y) : St := T.enc (v.outT y)
@[reducible] def Out : List Ex → Type
 | [] => Unit | [e] => e.vw.Y | e :: f :: r => e.vw.Y ⊕ Out (f :: r)
def andThen {α R : Type} (x : Option α) (k : α → Option R) : Option R := match x with | some a => k a | none => none
def either {α β R : Type} (o : α ⊕ β) (f : α → R) (g : β → R) : R := match o with | .inl a => f a | .inr b => g b
def decE : (E : List Ex) → X → St → Option (Out E)
 | [], _, _ => none
 | [e], x, s => bif X.eqb e.x x then e.vw.dec s else none
 | e :: f :: r, x, s => match (bif X.eqb e.x x then e.vw.dec s else none) with
  | some y => some (.inl y)
  | none => match decE (f :: r) x s with | some z => some (.inr z) | none => none
def encE : (E : List Ex) → Out E → X × St
 | [], _ => (.nrm, ⟨[], []⟩)
 | [e], y => (e.x, e.vw.enc y)
 | e :: f :: r, o => match o with | .inl y => (e.x, e.vw.enc y) | .inr z => encE (f :: r) z
def outK {R : Type} : (E : List Ex) → (X → St → Option R) → Out E → Option R
 | [], _, _ => none
 | [e], k, y => k e.x (e.vw.enc y)
 | e :: f :: r, k, o => either o (fun y => k e.x (e.vw.enc y)) (fun z => outK (f :: r) k z)
theorem outK_some {R : Type} {k : X → St → Option R} {r : R} : ∀ {E : List Ex} {o : Out E}, outK E k o = some r → k (encE E o).1 (encE E o).2 = some r
 | [], _, h => by cases h
 | [e], _, h => h
 | e :: f :: q, .inl _, h => h
 | e :: f :: q, .inr z, h => outK_some (E := f :: q) (o := z) h
theorem Vw.sound {T : Tm} (v : Vw T) {s : St} {y : v.Y} (h : v.dec s = some y) {B : Beg} {G : Gh} {a : Act} {w : World} (hw : WRel P B G s a w) : ∃ G', WRel P B G' (v.enc y) a w := by
 unfold Vw.dec at h
 split at h
 ·rename_i t ht
  cases h
  obtain ⟨G', h3, _⟩ := tm_sound ht hw
  refine ⟨G', ?_⟩
  show WRel P B G' (T.enc (v.outT (v.fromT t))) a w
  rw [v.inv]; exact h3
 ·cases h
theorem decE_spec : ∀ {E : List Ex} {x : X} {s : St} {o : Out E}, decE E x s = some o → (encE E o).1 = x ∧ ∀ {B : Beg} {G : Gh} {a : Act} {w : World}, WRel P B G s a w → ∃ G', WRel P B G' (encE E o).2 a w
 | [], _, _, _, h => by cases h
 | [e], x, s, o, h => by
  obtain ⟨h1, h2⟩ := cond_some h
  exact ⟨X.eqb_eq h1, fun hw => e.vw.sound h2 hw⟩
 | e :: f :: q, x, s, o, h => by
  simp only [decE] at h
  split at h
  ·rename_i y hy
   cases h
   obtain ⟨h1, h2⟩ := cond_some hy
   exact ⟨X.eqb_eq h1, fun hw => e.vw.sound h2 hw⟩
  ·split at h
   ·rename_i z hz
    cases h
    exact decE_spec (E := f :: q) hz
   ·cases h
theorem andThen_some {α R : Type} {x : Option α} {k : α → Option R} {r : R} (h : andThen x k = some r) : ∃ a, x = some a ∧ k a = some r := by
 cases x with
 | none => cases h
 | some a => exact ⟨a, rfl, h⟩
def cutOrc {T : Tm} (V : Vw T) (E : List Ex) (F : V.Y → Option (Out E)) : Orc := ⟨fun _ s k => match V.dec s with | some x => andThen (F x) (outK E k) | none => none⟩
theorem cut_ok (hm : P.follows .mixedOrders = true) {calls : Nat → Option CallS} {orc : Nat → Option Orc} {n : Nat} (hE : EqOk P H) (hC : CallsOk P calls) {c : Code}
  (hO : ∀ p g d, orc p = some g → At c p d → OrcOk P rb n d g) {T : Tm} {V : Vw T} {E : List Ex} {F : V.Y → Option (Out E)} (hF : ∀ x o, F x = some o → codeK P H calls orc n c 1 (V.enc x) (decE E) = some o) :
  OrcOk P rb n c (cutOrc V E F) := by
 intro R s k r h
 simp only [cutOrc] at h
 split at h
 case h_2 => cases h
 rename_i x hx
 obtain ⟨o, ho, h⟩ := andThen_some h
 obtain ⟨x', s', hd, hr⟩ := codeK_sound hm hE hC hO c 1 _ _ _ .root (hF x o ho)
 obtain ⟨e1, e2⟩ := decE_spec hd
 refine ⟨_, _, outK_some h, fun B G a w Q hn hrd hw hQ => ?_⟩
 obtain ⟨G1, hw1⟩ := V.sound hx hw
 refine hr B G1 a w Q hn hrd hw1 fun G' a' w' hw' => ?_
 obtain ⟨G2, hw2⟩ := e2 hw'
 rw [← e1]; exact hQ G2 a' w' hw2
def loopK {T : Tm} (V : Vw T) (E : List Ex) (rec : V.Y → Option (Out E)) : X → St → Option (Out E) := fun x s => match x with
 | .nrm => andThen (V.dec s) rec
 | x => decE E x s
theorem loop_ok (hm : P.follows .mixedOrders = true) {calls : Nat → Option CallS} {orc : Nat → Option Orc} {n : Nat} (hE : EqOk P H) (hC : CallsOk P calls) {c : Code}
  (hO : ∀ p g d, orc p = some g → At c p d → OrcOk P rb n d g) {T : Tm} {V : Vw T} {E : List Ex} {F : Nat → V.Y → Option (Out E)} (h0 : ∀ x, F 0 x = none)
  (hF : ∀ q x o, F (q + 1) x = some o → codeK P H calls orc n c 1 (V.enc x) (loopK V E (F q)) = some o) (N : Nat) : OrcOk P rb n (.loop c) (cutOrc V E (F N)) := by
 intro R s k r h
 simp only [cutOrc] at h
 split at h
 case h_2 => cases h
 rename_i x hx
 obtain ⟨o, ho, h⟩ := andThen_some h
 refine ⟨_, _, outK_some h, fun B G a w Q hn hrd hw hQ => ?_⟩
 intro b ki cs hro hb hroom
 have key : ∀ q x G a w, F q x = some o → WRel P B G (V.enc x) a w → ∃ e a' w', Q e a' w' ∧ ArrivesIn (Machine.fenced P (fw B.rd)) P (lone (b.atR a (.code c :: .inLoop c :: ki)) cs w) b ki cs e a' w' := by
  intro q
  induction q with
  | zero => intro x G a w hq _; rw [h0] at hq; cases hq
  | succ q ih =>
   intro x G a w hq hw
   obtain ⟨x', s', hd, hr⟩ := codeK_sound hm hE hC hO c 1 _ _ _ .root (hF q x o hq)
   cases x' with
   | nrm =>
    obtain ⟨y, hy, hrec⟩ := andThen_some hd
    obtain ⟨e, a₁, w₁, hq1, harr⟩ := hr B G a w (Exit.then (fun a' w' => ∃ G', WRel P B G' s' a' w') Q) hn hrd hw (fun G' a' w' hw' => ⟨G', hw'⟩) b (.inLoop c :: ki) cs hro hb hroom
    cases e with
    | normal =>
     obtain ⟨G', hw'⟩ := hq1
     obtain ⟨G2, hw2⟩ := V.sound hy hw'
     obtain ⟨e₂, a₂, w₂, hq₂, harr₂⟩ := ih y G2 a₁ w₁ hrec hw2
     exact ⟨e₂, a₂, w₂, hq₂, .of_steps (StepsIn.trans harr (.one (fenced_calm hb hroom rfl) stepR_inLoop)) harr₂⟩
    | exit id => exact ⟨_, a₁, w₁, hq1, .pass (x := .inLoop c) rfl (fun _ _ => .inl (by simp)) harr⟩
    | goto l => exact ⟨_, a₁, w₁, hq1, .pass (x := .inLoop c) rfl (fun _ _ => .inl (by simp)) harr⟩
    | ret => exact ⟨_, a₁, w₁, hq1, .pass (x := .inLoop c) rfl (fun _ _ => .inl (by simp)) harr⟩
    | panic ch => exact ⟨_, a₁, w₁, hq1, .pass (x := .inLoop c) rfl (fun _ _ => .inl (by simp)) harr⟩
    | outgrown => exact ⟨_, a₁, w₁, hq1, .pass (x := .inLoop c) rfl (fun _ _ => .inl (by simp)) harr⟩
   | ext id =>
    obtain ⟨e1, e2⟩ := decE_spec hd
    obtain ⟨e, a₁, w₁, hq1, harr⟩ := hr B G a w (Exit.then (fun _ _ => False) Q) hn hrd hw (fun G' a' w' hw' => by
     obtain ⟨G2, hw2⟩ := e2 hw'
     have := hQ G2 a' w' hw2
     rw [e1] at this; exact this) b (.inLoop c :: ki) cs hro hb hroom
    cases e with
    | normal => exact hq1.elim
    | exit id => exact ⟨_, a₁, w₁, hq1, .pass (x := .inLoop c) rfl (fun _ _ => .inl (by simp)) harr⟩
    | goto l => exact ⟨_, a₁, w₁, hq1, .pass (x := .inLoop c) rfl (fun _ _ => .inl (by simp)) harr⟩
    | ret => exact ⟨_, a₁, w₁, hq1, .pass (x := .inLoop c) rfl (fun _ _ => .inl (by simp)) harr⟩
    | panic ch => exact ⟨_, a₁, w₁, hq1, .pass (x := .inLoop c) rfl (fun _ _ => .inl (by simp)) harr⟩
    | outgrown => exact ⟨_, a₁, w₁, hq1, .pass (x := .inLoop c) rfl (fun _ _ => .inl (by simp)) harr⟩
   | ret =>
    obtain ⟨e1, e2⟩ := decE_spec hd
    obtain ⟨e, a₁, w₁, hq1, harr⟩ := hr B G a w (Exit.then (fun _ _ => False) Q) hn hrd hw (fun G' a' w' hw' => by
     obtain ⟨G2, hw2⟩ := e2 hw'
     have := hQ G2 a' w' hw2
     rw [e1] at this; exact this) b (.inLoop c :: ki) cs hro hb hroom
    cases e with
    | normal => exact hq1.elim
    | exit id => exact ⟨_, a₁, w₁, hq1, .pass (x := .inLoop c) rfl (fun _ _ => .inl (by simp)) harr⟩
    | goto l => exact ⟨_, a₁, w₁, hq1, .pass (x := .inLoop c) rfl (fun _ _ => .inl (by simp)) harr⟩
    | ret => exact ⟨_, a₁, w₁, hq1, .pass (x := .inLoop c) rfl (fun _ _ => .inl (by simp)) harr⟩
    | panic ch => exact ⟨_, a₁, w₁, hq1, .pass (x := .inLoop c) rfl (fun _ _ => .inl (by simp)) harr⟩
    | outgrown => exact ⟨_, a₁, w₁, hq1, .pass (x := .inLoop c) rfl (fun _ _ => .inl (by simp)) harr⟩
 obtain ⟨G1, hw1⟩ := V.sound hx hw
 obtain ⟨e, a', w', hq, harr⟩ := key N x G1 a w ho hw1
 exact ⟨e, a', w', hq, .of_steps (.one (fenced_calm hb hroom rfl) stepR_loop) harr⟩
end Go.Al
