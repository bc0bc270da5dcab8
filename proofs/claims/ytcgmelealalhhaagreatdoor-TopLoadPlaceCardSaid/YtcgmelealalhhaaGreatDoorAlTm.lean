/- Templates: states with holes. -/
import Derived.Test.YtcgmelealalhhaaGreatDoorAlCode
namespace Go.Al
variable {P : Program} {H : Hint}
inductive TC where
 | und | v (τ : Ty) | vn (τ : Ty) | vx (τ : Ty) | own (i : Nat) (τ : Ty) | ptr (l : Loc) (off room : Nat) | fn (f : Nat) (caps : List Loc) | ifc (t : Nat) (τ : Ty) (ag : Bool) | fnb (f : Nat) (τ : Ty) (ag : Bool) | nilm | mpp (l : Loc) | nils
inductive TA where
 | one (c : TC) | agg (l : List TC) | arr (τ : Ty) (n : Nat) | lp (g : Nat) (p ts : List Nat) (r : List TC) | mp (κ : Ty) (ka : Bool) (τ : Ty) (va : Bool)
@[reducible] def TC.T : TC → Type
 | .v τ => den τ | .vn τ => Bool × List (den τ) | .vx τ => List (den τ) | .own _ τ => List (den τ) | .ifc _ τ _ => den τ | .fnb _ τ _ => den τ | _ => Unit
@[reducible] def TCs : List TC → Type
 | [] => Unit | c :: r => c.T × TCs r
@[reducible] def TA.T : TA → Type
 | .one c => c.T | .agg l => TCs l | .arr τ _ => List (den τ) | .lp _ _ _ r => Int × TCs r | .mp κ _ τ _ => List (den κ × den τ)
@[reducible] def TAs : List TA → Type
 | [] => Unit | c :: r => c.T × TAs r
def c1 : (τ : Ty) → den τ → C
 | .int k, n => .int k n | .bool, b => .bool b | .str, s => .str s | .list t, xs => .sl t xs none false | .alt i a ia j b jb, x => .ifs i a ia j b jb x | .pair _ _, _ => .und
def encC : (t : TC) → t.T → C
 | .und, _ => .und | .v τ, x => c1 τ x | .vn τ, x => .sl τ x.2 (some x.1) false | .vx τ, x => .sl τ x none true | .own i _, _ => .slo i | .ptr l o r, _ => .ptr l o r | .fn f caps, _ => .fn f caps | .ifc t τ ag, x => .ifc t τ ag x | .fnb f τ ag, x => .fnb f τ ag x | .nilm, _ => .nilm | .mpp l, _ => .mpp l | .nils, _ => .nils
def encCs : (ts : List TC) → TCs ts → List C
 | [], _ => [] | t :: r, x => encC t x.1 :: encCs r x.2
def encA : (t : TA) → t.T → A1
 | .one t, x => .one (encC t x) | .agg ts, x => .agg (encCs ts x) | .arr τ n, xs => .arr τ n xs | .lp g p ts r, x => .lp g p ts (.int .i64 x.1 :: encCs r x.2) | .mp κ ka τ va, xs => .mp κ ka τ va xs
def encAs : (ts : List TA) → TAs ts → List A1
 | [], _ => [] | t :: r, x => encA t x.1 :: encAs r x.2
def decC (μ : Loc → Option Obj) : (t : TC) → C → Option t.T
 | .und, _ => some ()
 | .v τ, c => dc1 τ (resolve μ c)
 | .vn τ, c => match resolve μ c with
  | .nils => some (true, [])
  | .sl τ' xs (some b) _ => if h : τ' = τ then some (b, h ▸ xs) else none
  | _ => none
 | .vx τ, c => match resolve μ c with
  | .sl τ' xs _ true => if h : τ' = τ then some (h ▸ xs) else none
  | _ => none
 | .own i _, .nils => bif Nat.ble 4096 i then some [] else none
 | .own i τ, .slo j => match (bif Nat.ble 4096 i then μ (.own j) else none) with
  | some (.sl τ' xs false) => if h : τ' = τ then some (h ▸ xs) else none
  | _ => none
 | .ptr l o r, .ptr l' o' r' => bif Loc.eqb l l' && Nat.beq o o' && Nat.ble r r' then some () else none
 | .fn f caps, .fn f' caps' => if f' = f ∧ caps' = caps then some () else none
 | .ifc t τ ag, .ifc t' τ' ag' x => if h : t' = t ∧ τ' = τ ∧ ag' = ag then some (h.2.1 ▸ x) else none
 | .fnb t τ ag, .fnb t' τ' ag' x => if h : t' = t ∧ τ' = τ ∧ ag' = ag then some (h.2.1 ▸ x) else none
 | .nilm, .nilm => some ()
 | .nils, .nils => some ()
 | .mpp l, .mpp l' => bif Loc.eqb l l' then some () else none
 | _, _ => none
def decCs (μ : Loc → Option Obj) : (ts : List TC) → List C → Option (TCs ts)
 | [], [] => some ()
 | t :: r, c :: cs => match decC μ t c, decCs μ r cs with | some x, some y => some (x, y) | _, _ => none
 | _, _ => none
def decA (μ : Loc → Option Obj) : (t : TA) → A1 → Option t.T
 | .one t, .one c => decC μ t c
 | .agg ts, .agg cs => decCs μ ts cs
 | .arr τ n, .arr τ' n' xs => if h : τ' = τ ∧ n' = n then some (h.1 ▸ xs) else none
 | .lp g p ts r, .lp g' p' ts' (.int .i64 n :: cs) => if g' = g ∧ p' = p ∧ ts' = ts then (match decCs μ r cs with | some y => some (n, y) | none => none) else none
 | .mp κ ka τ va, .mp κ' ka' τ' va' xs => if h : κ' = κ ∧ ka' = ka ∧ τ' = τ ∧ va' = va then some (h.1 ▸ h.2.2.1 ▸ xs) else none
 | _, _ => none
def decAs (μ : Loc → Option Obj) : (ts : List TA) → List A1 → Option (TAs ts)
 | [], [] => some ()
 | t :: r, c :: cs => match decA μ t c, decAs μ r cs with | some x, some y => some (x, y) | _, _ => none
 | _, _ => none
abbrev Ent := Nat × Option Nat × Obj
def entC : (t : TC) → C → t.T → List Ent
 | .own i τ, .slo j, xs => [(i, some j, .sl τ xs false)] | .own i τ, _, xs => [(i, none, .sl τ xs false)] | _, _, _ => []
def entCs : (ts : List TC) → List C → TCs ts → List Ent
 | t :: r, c :: cs, x => entC t c x.1 ++ entCs r cs x.2 | _, _, _ => []
def entA : (t : TA) → A1 → t.T → List Ent
 | .one t, .one c, x => entC t c x | .agg ts, .agg cs, x => entCs ts cs x | .lp _ _ _ r, .lp _ _ _ (_ :: cs), x => entCs r cs x.2 | _, _, _ => []
def entAs : (ts : List TA) → List A1 → TAs ts → List Ent
 | t :: r, c :: cs, x => entA t c x.1 ++ entAs r cs x.2 | _, _, _ => []
def objC : (t : TC) → t.T → Mem
 | .own i τ, xs => [(.own i, .sl τ xs false)] | _, _ => []
def objCs : (ts : List TC) → TCs ts → Mem
 | [], _ => [] | t :: r, x => objC t x.1 ++ objCs r x.2
def objA : (t : TA) → t.T → Mem
 | .one t, x => objC t x | .agg ts, x => objCs ts x | .arr _ _, _ => [] | .lp _ _ _ r, x => objCs r x.2 | .mp .., _ => []
def objAs : (ts : List TA) → TAs ts → Mem
 | [], _ => [] | t :: r, x => objA t x.1 ++ objAs r x.2
def srcC : TC → C → List (Nat × Option Nat)
 | .own i _, .slo j => [(i, some j)] | .own i _, _ => [(i, none)] | _, _ => []
def srcCs : List TC → List C → List (Nat × Option Nat)
 | t :: r, c :: cs => srcC t c ++ srcCs r cs | _, _ => []
def srcA : TA → A1 → List (Nat × Option Nat)
 | .one t, .one c => srcC t c | .agg ts, .agg cs => srcCs ts cs | .lp _ _ _ r, .lp _ _ _ (_ :: cs) => srcCs r cs | _, _ => []
def srcAs : List TA → List A1 → List (Nat × Option Nat)
 | t :: r, c :: cs => srcA t c ++ srcAs r cs | _, _ => []
def fzC : TC → C → List Nat
 | .v _, c => ownsOf [c] | .vn _, c => ownsOf [c] | .vx _, c => ownsOf [c] | _, _ => []
def fzCs : List TC → List C → List Nat
 | t :: r, c :: cs => fzC t c ++ fzCs r cs | _, _ => []
def fzA : TA → A1 → List Nat
 | .one t, .one c => fzC t c | .agg ts, .agg cs => fzCs ts cs | .lp _ _ _ r, .lp _ _ _ (_ :: cs) => fzCs r cs | _, _ => []
def fzAs : List TA → List A1 → List Nat
 | t :: r, c :: cs => fzA t c ++ fzAs r cs | _, _ => []
structure Tm where
 rk : List Nat
 lk : List Loc
 ts : List TA
abbrev Tm.T (T : Tm) : Type := TAs T.ts
def nT : TA → Nat
 | .one _ => 1 | .agg l => l.length | .arr _ n => n | .lp .. => 0 | .mp .. => 0
def tmOf : List Loc → List TA → Loc → Option TA
 | l :: ls, t :: ts, x => bif Loc.eqb l x then some t else tmOf ls ts x
 | _, _, _ => none
def okC (f : Loc → Option TA) : TC → Bool
 | .ptr l o r => match f l with | some t => Nat.ble (o + r) (nT t) | none => false
 | .fn _ caps => caps.all fun l => match f l with | some _ => true | none => false
 | .mpp l => match f l with | some _ => true | none => false
 | _ => true
def okA (f : Loc → Option TA) : TA → Bool
 | .one c => okC f c | .agg l => l.all (okC f) | .arr .. => true | .lp _ _ _ r => r.all (okC f) | .mp .. => true
def isOwn : Loc → Bool
 | .own _ => true | _ => false
def nodupN : List Nat → Bool
 | [] => true | x :: r => !(r.any (Nat.beq x)) && nodupN r
def somes : List (Nat × Option Nat) → List Nat
 | [] => [] | (_, some j) :: r => j :: somes r | (_, none) :: r => somes r
def fsts : List (Nat × Option Nat) → List Nat
 | [] => [] | (i, _) :: r => i :: fsts r
def gatR (s : St) : List Nat → Option (List A1)
 | [] => some []
 | t :: r => match getR s.regs t, gatR s r with | .a x, some l => some (x :: l) | _, _ => none
def gatM (s : St) : List Loc → Option (List A1)
 | [] => some []
 | t :: r => match getM s.mem t, gatM s r with | some (.bx x), some l => some (x :: l) | _, _ => none
def Tm.chk (T : Tm) (a b : List A1) (m : Mem) : Bool :=
 let sr := srcAs T.ts (a ++ b)
 T.ts.all (okA (tmOf T.lk (T.ts.drop T.rk.length))) && !(T.lk.any isOwn) && nodupN (fsts sr) && nodupN (somes sr) && !((fzAs T.ts (a ++ b)).any fun j => (somes sr).any (Nat.beq j)) &&
  m.all fun p => match p.1 with | .outer j => T.lk.any (Loc.eqb (.outer j)) | _ => true
def Tm.dec (T : Tm) (s : St) : Option T.T := match gatR s T.rk, gatM s T.lk with
 | some a, some b => bif T.chk a b s.mem then decAs (getM s.mem) T.ts (a ++ b) else none
 | _, _ => none
def zipR : List Nat → List A1 → List (Nat × AV)
 | t :: r, x :: l => (t, .a x) :: zipR r l | _, _ => []
def zipM : List Loc → List A1 → Mem
 | t :: r, x :: l => (t, .bx x) :: zipM r l | _, _ => []
def Tm.enc (T : Tm) (x : T.T) : St := ⟨zipR T.rk (encAs T.ts x), zipM T.lk ((encAs T.ts x).drop T.rk.length) ++ objAs T.ts x⟩
theorem c1_rel {G : Gh} {m : Mem} {w : World} {τ : Ty} {x : den τ} {v : Value} (h : Rep G.S w τ x [v]) : CRel G m w (c1 τ x) v := by
 cases τ with
 | pair a b => trivial
 | int k => have h2 := cs_rel (G := G) (m := m) h; cases h2 with | cons h3 _ => exact h3
 | bool => have h2 := cs_rel (G := G) (m := m) h; cases h2 with | cons h3 _ => exact h3
 | str => have h2 := cs_rel (G := G) (m := m) h; cases h2 with | cons h3 _ => exact h3
 | list t => have h2 := cs_rel (G := G) (m := m) h; cases h2 with | cons h3 _ => exact h3
 | alt i a ia j b jb => have h2 := cs_rel (G := G) (m := m) h; cases h2 with | cons h3 _ => exact h3
theorem srcOf_nodup {x : Nat} {l : List Nat} (h : nodupN (x :: l) = true) : x ∉ l ∧ nodupN l = true := by
 simp only [nodupN, Bool.and_eq_true, Bool.not_eq_true'] at h
 refine ⟨fun hx => ?_, h.2⟩
 have := List.any_eq_false.1 h.1 x hx
 exact this (Nat.beq_refl x)
def EntOk (μ : Loc → Option Obj) (e : Ent) : Prop := ∃ τ xs, e.2.2 = .sl τ xs false ∧ match e.2.1 with | some j => μ (.own j) = some (.sl τ xs false) | none => xs = []
theorem entC_ok {μ : Loc → Option Obj} {t : TC} {c : C} {x : t.T} (h : decC μ t c = some x) : ∀ e ∈ entC t c x, EntOk μ e := by
 intro e he
 cases t <;> try (cases he; done)
 rename_i i τ
 cases c <;> simp only [decC] at h <;> try (cases h; done)
 ·obtain ⟨_, h⟩ := cond_some h
  cases h
  simp only [entC, List.mem_singleton] at he
  subst he
  exact ⟨τ, [], rfl, rfl⟩
 ·rename_i j
  split at h
  ·rename_i τ' xs hg0
   obtain ⟨_, hg⟩ := cond_some hg0
   split at h
   ·rename_i e'
    subst e'
    cases h
    simp only [entC, List.mem_singleton] at he
    subst he
    exact ⟨_, _, rfl, hg⟩
   ·cases h
  ·cases h
theorem entCs_ok {μ : Loc → Option Obj} : ∀ {ts : List TC} {cs : List C} {x : TCs ts}, decCs μ ts cs = some x → ∀ e ∈ entCs ts cs x, EntOk μ e
 | [], [], _, _, e, he => by cases he
 | [], _ :: _, _, h, _, _ => by simp [decCs] at h
 | _ :: _, [], _, h, _, _ => by simp [decCs] at h
 | t :: r, c :: cs, x, h, e, he => by
  simp only [decCs] at h
  split at h
  ·rename_i y z hy hz
   cases h
   rcases List.mem_append.1 he with he | he
   ·exact entC_ok hy e he
   ·exact entCs_ok hz e he
  ·cases h
theorem decLp {μ : Loc → Option Obj} {g g' : Nat} {p ts p' ts' : List Nat} {r : List TC} {cs : List C} {x : TA.T (.lp g p ts r)} (h : decA μ (.lp g p ts r) (.lp g' p' ts' cs) = some x) :
  ∃ n cs', cs = .int .i64 n :: cs' ∧ g' = g ∧ p' = p ∧ ts' = ts ∧ decCs μ r cs' = some x.2 ∧ x.1 = n := by
 cases cs with
 | nil => cases h
 | cons c cs =>
  cases c <;> try (cases h; done)
  rename_i k n
  cases k <;> try (cases h; done)
  simp only [decA] at h
  split at h
  ·rename_i e
   obtain ⟨rfl, rfl, rfl⟩ := e
   split at h
   ·rename_i y hy
    cases h
    exact ⟨_, _, rfl, rfl, rfl, rfl, hy, rfl⟩
   ·cases h
  ·cases h
theorem entA_ok {μ : Loc → Option Obj} {t : TA} {v : A1} {x : t.T} (h : decA μ t v = some x) : ∀ e ∈ entA t v x, EntOk μ e := by
 intro e he
 cases t <;> cases v <;> try (simp only [decA] at h; cases h; done)
 ·exact entC_ok h e he
 ·exact entCs_ok h e he
 ·cases he
 ·obtain ⟨n, cs', rfl, _, _, _, h2, _⟩ := decLp h
  exact entCs_ok h2 e he
 ·cases he
theorem entAs_ok {μ : Loc → Option Obj} : ∀ {ts : List TA} {vs : List A1} {x : TAs ts}, decAs μ ts vs = some x → ∀ e ∈ entAs ts vs x, EntOk μ e
 | [], [], _, _, e, he => by cases he
 | [], _ :: _, _, h, _, _ => by simp [decAs] at h
 | _ :: _, [], _, h, _, _ => by simp [decAs] at h
 | t :: r, c :: cs, x, h, e, he => by
  simp only [decAs] at h
  split at h
  ·rename_i y z hy hz
   cases h
   rcases List.mem_append.1 he with he | he
   ·exact entA_ok hy e he
   ·exact entAs_ok hz e he
  ·cases h
def entObj (e : Ent) : Loc × Obj := (.own e.1, e.2.2)
def entSrc (e : Ent) : Nat × Option Nat := (e.1, e.2.1)
theorem entC_maps {μ : Loc → Option Obj} {t : TC} {c : C} {x : t.T} (h : decC μ t c = some x) : (entC t c x).map entObj = objC t x ∧ (entC t c x).map entSrc = srcC t c := by
 cases t <;> try exact ⟨rfl, rfl⟩
 cases c <;> simp only [decC] at h <;> first | (cases h; done) | exact ⟨rfl, rfl⟩
theorem entCs_maps {μ : Loc → Option Obj} : ∀ {ts : List TC} {cs : List C} {x : TCs ts}, decCs μ ts cs = some x → (entCs ts cs x).map entObj = objCs ts x ∧ (entCs ts cs x).map entSrc = srcCs ts cs
 | [], [], _, _ => ⟨rfl, rfl⟩
 | [], _ :: _, _, h => by simp [decCs] at h
 | _ :: _, [], _, h => by simp [decCs] at h
 | t :: r, c :: cs, x, h => by
  simp only [decCs] at h
  split at h
  ·rename_i y z hy hz
   cases h
   obtain ⟨a1, a2⟩ := entC_maps hy
   obtain ⟨b1, b2⟩ := entCs_maps hz
   simp only [entCs, objCs, srcCs, List.map_append, a1, a2, b1, b2]; exact ⟨trivial, trivial⟩
  ·cases h
theorem entA_maps {μ : Loc → Option Obj} {t : TA} {v : A1} {x : t.T} (h : decA μ t v = some x) : (entA t v x).map entObj = objA t x ∧ (entA t v x).map entSrc = srcA t v := by
 cases t <;> cases v <;> try (simp only [decA] at h; cases h; done)
 ·exact entC_maps h
 ·exact entCs_maps h
 ·exact ⟨rfl, rfl⟩
 ·obtain ⟨n, cs', rfl, _, _, _, h2, _⟩ := decLp h
  exact entCs_maps h2
 ·exact ⟨rfl, rfl⟩
theorem entAs_maps {μ : Loc → Option Obj} : ∀ {ts : List TA} {vs : List A1} {x : TAs ts}, decAs μ ts vs = some x → (entAs ts vs x).map entObj = objAs ts x ∧ (entAs ts vs x).map entSrc = srcAs ts vs
 | [], [], _, _ => ⟨rfl, rfl⟩
 | [], _ :: _, _, h => by simp [decAs] at h
 | _ :: _, [], _, h => by simp [decAs] at h
 | t :: r, c :: cs, x, h => by
  simp only [decAs] at h
  split at h
  ·rename_i y z hy hz
   cases h
   obtain ⟨a1, a2⟩ := entA_maps hy
   obtain ⟨b1, b2⟩ := entAs_maps hz
   simp only [entAs, objAs, srcAs, List.map_append, a1, a2, b1, b2]; exact ⟨trivial, trivial⟩
  ·cases h
end Go.Al
