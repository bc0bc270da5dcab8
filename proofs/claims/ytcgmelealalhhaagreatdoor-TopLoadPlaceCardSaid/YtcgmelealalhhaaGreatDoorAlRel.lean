/- What the evaluator's values say of the model's memory. -/
import Derived.Test.YtcgmelealalhhaaGreatDoorAlCore
import Derived.Deep.MidRow
import Derived.Deep.AppendSrc
import Derived.OrdersIn
import Derived.RangeFuncLeaves
import Derived.RangeFuncRecord
namespace Go.Al
theorem of_blt {a b : Nat} (h : Nat.blt a b = true) : a < b := by simpa [Nat.blt_eq] using h
theorem Loc.eqb_iff {a b : Loc} : Loc.eqb a b = true ↔ a = b := by
 cases a <;> cases b <;> simp [Loc.eqb]
theorem Loc.eqb_ne {a b : Loc} : Loc.eqb a b = false ↔ a ≠ b := by
 rw [Ne, ← Loc.eqb_iff]; simp
def ifv (t : Nat) (ag : Bool) (us : List Value) : Value := .iface t (if ag then .agg us.toArray else us.headD undef)
def Rep (S : Nat → Prop) (w : World) : (τ : Ty) → den τ → List Value → Prop
 | .int k, n, vs => vs = [.int k n]
 | .bool, b, vs => vs = [.bool b]
 | .str, s, vs => vs = [.string s]
 | .pair a b, x, vs => ∃ v1 v2, vs = v1 ++ v2 ∧ Rep S w a x.1 v1 ∧ Rep S w b x.2 v2
 | .list t, xs, vs => ∃ ad c, vs = [.slice ad xs.length c] ∧ xs.length ≤ c ∧
   ∀ i (h : i < xs.length), ∃ b o us, ad = some ⟨b, o, none⟩ ∧ S b ∧ Rep S w t xs[i] us ∧ w.rangeAt b (o + i * ncell t) us
 | .alt i a ia j b jb, x, vs => match x with
   | .inl y => ∃ us, Rep S w a y us ∧ vs = [ifv i ia us]
   | .inr y => ∃ us, Rep S w b y us ∧ vs = [ifv j jb us]
theorem Rep.len {S : Nat → Prop} {w : World} : ∀ {τ : Ty} {x : den τ} {vs : List Value}, Rep S w τ x vs → vs.length = ncell τ
 | .int _, _, _, h => by simp only [Rep] at h; subst h; rfl
 | .bool, _, _, h => by simp only [Rep] at h; subst h; rfl
 | .str, _, _, h => by simp only [Rep] at h; subst h; rfl
 | .pair a b, x, vs, h => by
  obtain ⟨v1, v2, rfl, h1, h2⟩ := h
  rw [List.length_append, h1.len, h2.len]; rfl
 | .list t, _, _, h => by obtain ⟨_, _, rfl, _⟩ := h; rfl
 | .alt i a ia j b jb, x, vs, h => by
  cases x <;> (obtain ⟨_, _, rfl⟩ := h; rfl)
theorem Rep.one {S : Nat → Prop} {w : World} : ∀ {τ : Ty} {x : den τ} {vs : List Value}, Rep S w τ x vs → ∀ v ∈ vs, v.oneCell' = true
 | .int _, _, _, h => by simp only [Rep] at h; subst h; simp [Value.oneCell']
 | .bool, _, _, h => by simp only [Rep] at h; subst h; simp [Value.oneCell']
 | .str, _, _, h => by simp only [Rep] at h; subst h; simp [Value.oneCell']
 | .pair a b, x, vs, h => by
  obtain ⟨v1, v2, rfl, h1, h2⟩ := h
  intro v hv
  rcases List.mem_append.1 hv with hv | hv
  ·exact h1.one v hv
  ·exact h2.one v hv
 | .list t, _, _, h => by obtain ⟨_, _, rfl, _⟩ := h; simp [Value.oneCell']
 | .alt i a ia j b jb, x, vs, h => by
  cases x <;> (obtain ⟨_, _, rfl⟩ := h; simp [Value.oneCell', ifv])
theorem rangeAt_same {w w' : World} {b o : Nat} {us : List Value} (h : w.rangeAt b o us) (e : w'.heap[b]? = w.heap[b]?) : w'.rangeAt b o us :=
 fun j v hv => by rw [World.cell?_of_block (a := ⟨b, o + j, none⟩) e]; exact h j v hv
theorem Rep.mono {S S' : Nat → Prop} {w w' : World} (hS : ∀ b, S b → S' b) (hw : ∀ b, S b → w'.heap[b]? = w.heap[b]?) :
  ∀ {τ : Ty} {x : den τ} {vs : List Value}, Rep S w τ x vs → Rep S' w' τ x vs
 | .int _, _, _, h => h
 | .bool, _, _, h => h
 | .str, _, _, h => h
 | .pair a b, x, vs, h => by
  obtain ⟨v1, v2, rfl, h1, h2⟩ := h
  exact ⟨v1, v2, rfl, h1.mono hS hw, h2.mono hS hw⟩
 | .list t, _, _, h => by
  obtain ⟨ad, c, rfl, hc, hi⟩ := h
  exact ⟨ad, c, rfl, hc, fun i hlt => by
   obtain ⟨b, o, us, e, hb, hr, hcell⟩ := hi i hlt
   exact ⟨b, o, us, e, hS b hb, hr.mono hS hw, rangeAt_same hcell (hw b hb)⟩⟩
 | .alt i a ia j b jb, x, vs, h => by
  cases x with
  | inl y => obtain ⟨us, hr, rfl⟩ := h; exact ⟨us, hr.mono hS hw, rfl⟩
  | inr y => obtain ⟨us, hr, rfl⟩ := h; exact ⟨us, hr.mono hS hw, rfl⟩
structure Gh where
 S : Nat → Prop
 β : Loc → Nat
 κ : Nat → Nat
def ptrs (G : Gh) (l : List Loc) : List Value := l.map fun x => .pointer (some ⟨G.β x, 0, none⟩)
def fnV (f : Nat) (ps : List Value) : Value := if f < yB then .func (.func f) #[] ps.toArray else .func (.yield (match ps with | .pointer (some a) :: _ => a.block | _ => 0)) #[] #[]
theorem fnV_lt {f : Nat} {ps : List Value} (h : f < yB) : fnV f ps = .func (.func f) #[] ps.toArray := if_pos h
theorem fnV_ge {f : Nat} {ps : List Value} (h : ¬ f < yB) : fnV f ps = .func (.yield (match ps with | .pointer (some a) :: _ => a.block | _ => 0)) #[] #[] := if_neg h
theorem fnV_or (f : Nat) (ps : List Value) : (∃ g l, fnV f ps = .func (.func g) #[] l) ∨ (∃ b, fnV f ps = .func (.yield b) #[] #[]) := by
 by_cases h : f < yB
 ·exact .inl ⟨_, _, fnV_lt h⟩
 ·exact .inr ⟨_, fnV_ge h⟩
def CRel (G : Gh) (m : Mem) (w : World) : C → Value → Prop
 | .und, _ => True
 | .skp, v => v = undef
 | .int k n, v => v = .int k n
 | .bool b, v => v = .bool b
 | .str s, v => v = .string s
 | .nils, v => v = .slice none 0 0
 | .nili, v => v = .nilIface
 | .nilf, v => v = .nilFunc
 | .sl τ xs nl ex, v => ∃ ad c, v = .slice ad xs.length c ∧ xs.length ≤ c ∧ (∀ i (h : i < xs.length), ∃ b o us, ad = some ⟨b, o, none⟩ ∧ G.S b ∧ Rep G.S w τ xs[i] us ∧ w.rangeAt b (o + i * ncell τ) us) ∧
   (∀ b, nl = some b → ad.isNone = b) ∧ (ex = true → c = xs.length)
 | .slo i, v => match getM m (.own i) with
   | some (.sl _ xs _) => ∃ ad, v = .slice ad xs.length (G.κ i) ∧ (ad = some ⟨G.β (.own i), 0, none⟩ ∨ G.κ i = 0) ∧ (i < 4096 → ad ≠ none)
   | some .dead => True | _ => False
 | .slv i lo hi, v => match getM m (.own i) with
   | some (.sl τ xs _) => lo ≤ hi ∧ hi ≤ xs.length ∧ ∃ ad, v = .slice ad (hi - lo) (G.κ i - lo) ∧ (ad = some ⟨G.β (.own i), lo * ncell τ, none⟩ ∨ lo = G.κ i)
   | some .dead => True | _ => False
 | .ptr l off room, v => (match getM m l with | some (.bx x) => off + room ≤ nA x | some .dead => True | _ => False) ∧ v = .pointer (some ⟨G.β l, off, none⟩)
 | .pel i j off, v => match getM m (.own i) with
   | some (.sl τ xs _) => j < xs.length ∧ v = .pointer (some ⟨G.β (.own i), j * ncell τ + off, none⟩)
   | some .dead => True | _ => False
 | .er τ x off, v => ∃ b o us, v = .pointer (some ⟨b, o + off, none⟩) ∧ G.S b ∧ Rep G.S w τ x us ∧ w.rangeAt b o us
 | .fn f caps, v => (∀ l ∈ caps, (∃ x, getM m l = some (.bx x)) ∨ getM m l = some .dead) ∧ v = fnV f (ptrs G caps)
 | .ifc t τ ag x, v => ∃ us, Rep G.S w τ x us ∧ v = ifv t ag us
 | .ifs i a ia j b jb x, v => match x with
   | .inl y => ∃ us, Rep G.S w a y us ∧ v = ifv i ia us
   | .inr y => ∃ us, Rep G.S w b y us ∧ v = ifv j jb us
 | .nilm, v => v = .map none
 | .mpp l, v => ((∃ x, getM m l = some (.bx x)) ∨ getM m l = some .dead) ∧ v = .map (some (G.β l))
 | .fnb f τ ag x, v => f < yB ∧ ∃ us, Rep G.S w τ x us ∧ v = .func (.func f) #[if ag then .agg us.toArray else us.headD undef] #[]
inductive All2 {α β : Type} (R : α → β → Prop) : List α → List β → Prop
 | nil : All2 R [] []
 | cons {a b l m} : R a b → All2 R l m → All2 R (a :: l) (b :: m)
theorem All2.length {α β : Type} {R : α → β → Prop} {l : List α} {m : List β} (h : All2 R l m) : l.length = m.length := by
 induction h with
 | nil => rfl
 | cons _ _ ih => simp [ih]
theorem All2.imp {α β : Type} {R R' : α → β → Prop} (hi : ∀ a b, R a b → R' a b) {l : List α} {m : List β} (h : All2 R l m) : All2 R' l m := by
 induction h with
 | nil => exact .nil
 | cons h1 _ ih => exact .cons (hi _ _ h1) ih
theorem All2.append {α β : Type} {R : α → β → Prop} {l l' : List α} {m m' : List β} (h : All2 R l m) (h' : All2 R l' m') : All2 R (l ++ l') (m ++ m') := by
 induction h with
 | nil => exact h'
 | cons h1 _ ih => exact .cons h1 ih
theorem All2.get {α β : Type} {R : α → β → Prop} {l : List α} {m : List β} (h : All2 R l m) : ∀ {i : Nat} {a : α}, l[i]? = some a → ∃ b, m[i]? = some b ∧ R a b := by
 induction h with
 | nil => intro i a h; simp at h
 | cons h1 _ ih =>
  intro i a h
  cases i with
  | zero => simp at h; subst h; exact ⟨_, rfl, h1⟩
  | succ i => simp at h; exact ih h
theorem All2.drop {α β : Type} {R : α → β → Prop} {l : List α} {m : List β} (h : All2 R l m) (n : Nat) : All2 R (l.drop n) (m.drop n) := by
 induction h generalizing n with
 | nil => simp; exact .nil
 | cons h1 h2 ih =>
  cases n with
  | zero => exact .cons h1 h2
  | succ n => simpa using ih n
theorem All2.take {α β : Type} {R : α → β → Prop} {l : List α} {m : List β} (h : All2 R l m) (n : Nat) : All2 R (l.take n) (m.take n) := by
 induction h generalizing n with
 | nil => simp; exact .nil
 | cons h1 h2 ih =>
  cases n with
  | zero => simp; exact .nil
  | succ n => simpa using .cons h1 (ih n)
theorem All2.map {α β γ δ : Type} {R : α → β → Prop} {R' : γ → δ → Prop} {f : α → γ} {g : β → δ} (hi : ∀ a b, R a b → R' (f a) (g b)) {l : List α} {m : List β} (h : All2 R l m) : All2 R' (l.map f) (m.map g) := by
 induction h with
 | nil => exact .nil
 | cons h1 _ ih => exact .cons (hi _ _ h1) ih
theorem All2.of_get {α β : Type} {R : α → β → Prop} : ∀ {l : List α} {m : List β}, l.length = m.length → (∀ (i : Nat) (a : α) (b : β), l[i]? = some a → m[i]? = some b → R a b) → All2 R l m
 | [], [], _, _ => .nil
 | a :: l, b :: m, h, hr => .cons (hr 0 a b rfl rfl) (All2.of_get (by simpa using h) fun i a b h1 h2 => hr (i + 1) a b (by simpa using h1) (by simpa using h2))
def arrC : (τ : Ty) → List (den τ) → List C
 | .int k, xs => xs.map fun n => .int k n
 | .bool, xs => xs.map fun b => .bool b
 | _, _ => []
def CsRel (G : Gh) (m : Mem) (w : World) : A1 → List Value → Prop
 | .one c, vs => ∃ v, vs = [v] ∧ CRel G m w c v
 | .agg l, vs => All2 (CRel G m w) l vs
 | .arr τ n xs, vs => atom τ = true ∧ xs.length = n ∧ All2 (CRel G m w) (arrC τ xs) vs
 | .lp .., _ => False
 | .mp .., _ => False
def A1Rel (G : Gh) (m : Mem) (w : World) : A1 → Value → Prop
 | .one c, v => CRel G m w c v
 | .agg l, v => ∃ vs, v = .agg vs.toArray ∧ All2 (CRel G m w) l vs
 | .arr τ n xs, v => ∃ vs, v = .agg vs.toArray ∧ atom τ = true ∧ xs.length = n ∧ All2 (CRel G m w) (arrC τ xs) vs
 | .lp .., _ => False
 | .mp .., _ => False
def AVRel (G : Gh) (m : Mem) (w : World) : AV → Value → Prop
 | .a x, v => A1Rel G m w x v
 | .tup l, v => ∃ vs, v = .tuple vs.toArray ∧ All2 (A1Rel G m w) l vs
def jumpOf (st : Int) : Code := if st = 1 then .ret else .exit (st - 2).toNat
def LpSt (st : Int) (r : Loop) : Prop := (st = 0 → r.state = .ready ∧ r.pending = none) ∧ (st = -1 → r.state = .busy) ∧ (0 < st → r.state = .done ∧ r.pending = some (jumpOf st))
def kv : (κ : Ty) → den κ → List Value
 | .int k, n => [.int k n] | .bool, b => [.bool b] | .str, s => [.string s] | .pair a b, x => kv a x.1 ++ kv b x.2 | _, _ => []
def oneV (ag : Bool) (us : List Value) : Value := if ag then .agg us.toArray else us.headD undef
def MpRel (S : Nat → Prop) (w : World) (b : Nat) (κ : Ty) (ka : Bool) (τ : Ty) (va : Bool) (xs : List (den κ × den τ)) : Prop := ∃ es : Array MapEntry, w.heap[b]? = some (.map es es.size) ∧ es.size = xs.length ∧
 ∀ i (h : i < xs.length), ∃ (e : MapEntry) (us : List Value), es[i]? = some e ∧ e.born = i ∧ e.key = oneV ka (kv κ xs[i].1) ∧ Rep S w τ xs[i].2 us ∧ e.val = oneV va us
def LpRel (P : Program) (G : Gh) (m : Mem) (w : World) (b : Nat) : A1 → Prop
 | .lp g p ts cs => ∃ (r : Loop) (n : Nat) (ps : List Nat) (st : Int) (l : List C), rngAt P g p = some (n, ps, r.assign, r.body) ∧ r.params.toList = ps ∧ w.heap[b]? = some (.loop r) ∧ r.tmps.size = n ∧
   cs = .int .i64 st :: l ∧ LpSt st r ∧ CsRel G m w (.agg l) (ts.map fun t => r.tmps.getD t undef)
 | .mp κ ka τ va xs => flatT κ = true ∧ MpRel G.S w b κ ka τ va xs
 | _ => False
def ORel (P : Program) (G : Gh) (m : Mem) (w : World) (l : Loc) : Obj → Prop
 | .bx v => (∃ vs, CsRel G m w v vs ∧ w.rangeAt (G.β l) 0 vs ∧ ∀ j, j < vs.length → w.frozen? ⟨G.β l, j, none⟩ = false) ∨ LpRel P G m w (G.β l) v
 | .sl τ xs fr => ∃ i, l = .own i ∧ xs.length ≤ G.κ i ∧ (fr = true → xs ≠ [] → G.S (G.β l)) ∧
   (∀ j (h : j < xs.length), ∃ us, Rep G.S w τ xs[j] us ∧ w.rangeAt (G.β l) (j * ncell τ) us) ∧
   (fr = false → ∀ j, j < G.κ i * ncell τ → (w.cell? ⟨G.β l, j, none⟩).isSome = true ∧ w.frozen? ⟨G.β l, j, none⟩ = false)
 | .dead => True
def isLp : A1 → Bool
 | .lp .. => true | .mp .. => true | _ => false
theorem ORel.cells {P : Program} {G : Gh} {m : Mem} {w : World} {l : Loc} {v : A1} (h : ORel P G m w l (.bx v)) (hv : isLp v = false) : ∃ vs, CsRel G m w v vs ∧ w.rangeAt (G.β l) 0 vs ∧ ∀ j, j < vs.length → w.frozen? ⟨G.β l, j, none⟩ = false := by
 rcases h with h | h
 ·exact h
 ·cases v <;> first | exact h.elim | cases hv
end Go.Al
