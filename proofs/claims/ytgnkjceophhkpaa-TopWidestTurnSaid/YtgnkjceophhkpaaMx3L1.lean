/- The law. The widest letter that goes in a place is as many units wider than one that is a unit wide as a furnace, as hot as the word with it is long, can be turned up; no condition. -/
import Derived.Test.YtgnkjceophhkpaaAlUse
import Derived.KernelRfl
import Derived.Test.YtgnkjceophhkpaaRows
import Derived.Test.YtgnkjceophhkpaaAlRow
import Derived.Test.YtgnkjceophhkpaaMx3F3
set_option linter.unusedVariables false
set_option linter.unusedSimpArgs false
namespace Go.Pl
abbrev w64 (z : Int) : Int := Go.IntKind.wrap .i64 z
theorem w64_id {z : Int} (h1 : -9223372036854775808 ≤ z) (h2 : z < 9223372036854775808) : Go.IntKind.wrap .i64 z = z := by
 simp [IntKind.wrap, IntKind.signed, IntKind.bits]
 split <;> omega
def ent (m : List Int) (a b : Nat) : Int := m.getD (a * 6 + b) 0
def lim (a b : Nat) (v : Int) (m : List Int) : List Int := m.set (a * 6 + b) (if v < ent m a b then v else ent m a b)
@[simp] theorem lim_len (a b : Nat) (v : Int) (m : List Int) : (lim a b v m).length = m.length := by simp [lim]
theorem ent_lim {a b c d : Nat} {v : Int} {m : List Int} (hl : m.length = 36) (ha : a < 6) (hb : b < 6) (hc : c < 6) (hd : d < 6) :
  ent (lim a b v m) c d = if c = a ∧ d = b then (if v < ent m a b then v else ent m a b) else ent m c d := by
 unfold ent lim
 by_cases h : c = a ∧ d = b
 ·obtain ⟨rfl, rfl⟩ := h
  rw [if_pos (show c = c ∧ d = d from ⟨rfl, rfl⟩), List.getD_eq_getElem?_getD, List.getElem?_set_self (by omega)]
  rfl
 ·rw [if_neg h, List.getD_eq_getElem?_getD, List.getElem?_set_ne (by omega), ← List.getD_eq_getElem?_getD]
def Sat (m : List Int) (t : Nat → Int) : Prop := ∀ a b, a < 6 → b < 6 → t b - t a ≤ ent m a b
theorem sat_lim {a b : Nat} {v : Int} {m : List Int} {t : Nat → Int} (hl : m.length = 36) (ha : a < 6) (hb : b < 6) : Sat (lim a b v m) t ↔ Sat m t ∧ t b - t a ≤ v := by
 constructor
 ·intro h
  refine ⟨fun c d hc hd => ?_, ?_⟩
  ·have := h c d hc hd
   rw [ent_lim hl ha hb hc hd] at this
   split at this
   ·rename_i e; obtain ⟨rfl, rfl⟩ := e; split at this <;> omega
   ·exact this
  ·have := h a b ha hb
   rw [ent_lim hl ha hb ha hb, if_pos ⟨rfl, rfl⟩] at this
   split at this <;> omega
 ·rintro ⟨h, hv⟩ c d hc hd
  rw [ent_lim hl ha hb hc hd]
  split
  ·rename_i e; obtain ⟨rfl, rfl⟩ := e
   have := h c d hc hd
   split <;> omega
  ·exact h c d hc hd
def relax (k a b : Nat) (m : List Int) : List Int := lim a b (w64 (ent m a k + ent m k b)) m
def row (k a n : Nat) (m : List Int) : List Int := (List.range n).foldl (fun m b => relax k a b m) m
def stage (k n : Nat) (m : List Int) : List Int := (List.range n).foldl (fun m a => row k a 6 m) m
def fw (n : Nat) (m : List Int) : List Int := (List.range n).foldl (fun m k => stage k 6 m) m
theorem row_succ (k a n : Nat) (m : List Int) : row k a (n + 1) m = relax k a n (row k a n m) := by simp [row, List.range_succ]
theorem stage_succ (k n : Nat) (m : List Int) : stage k (n + 1) m = row k n 6 (stage k n m) := by simp [stage, List.range_succ]
theorem fw_succ (n : Nat) (m : List Int) : fw (n + 1) m = stage n 6 (fw n m) := by simp [fw, List.range_succ]
theorem fw_inv {I : List Int → Prop} (h : ∀ k a b m, k < 6 → a < 6 → b < 6 → I m → I (relax k a b m)) : ∀ n, n ≤ 6 → ∀ m, I m → I (fw n m) := by
 have h1 : ∀ k a n m, k < 6 → a < 6 → n ≤ 6 → I m → I (row k a n m) := fun k a n m hk ha hn hm => by
  induction n with
  | zero => exact hm
  | succ n ih => rw [row_succ]; exact h k a n _ hk ha (by omega) (ih (by omega))
 have h2 : ∀ k n m, k < 6 → n ≤ 6 → I m → I (stage k n m) := fun k n m hk hn hm => by
  induction n with
  | zero => exact hm
  | succ n ih => rw [stage_succ]; exact h1 k n 6 _ hk (by omega) (Nat.le_refl _) (ih (by omega))
 intro n hn m hm
 induction n with
 | zero => exact hm
 | succ n ih => rw [fw_succ]; exact h2 n 6 _ (by omega) (Nat.le_refl _) (ih (by omega))
def LeM (m' m : List Int) : Prop := m'.length = 36 ∧ ∀ a b, a < 6 → b < 6 → ent m' a b ≤ ent m a b
theorem relax_le {k a b : Nat} {m m0 : List Int} (ha : a < 6) (hb : b < 6) (h : LeM m m0) : LeM (relax k a b m) m0 := by
 refine ⟨by simp [relax, h.1], fun c d hc hd => ?_⟩
 unfold relax
 rw [ent_lim h.1 ha hb hc hd]
 have h1 := h.2 c d hc hd
 split
 ·rename_i e; obtain ⟨rfl, rfl⟩ := e; split <;> omega
 ·exact h1
theorem row_le {k a n : Nat} {m m0 : List Int} (ha : a < 6) (hn : n ≤ 6) (h : LeM m m0) : LeM (row k a n m) m0 := by
 induction n with
 | zero => exact h
 | succ n ih => rw [row_succ]; exact relax_le ha (by omega) (ih (by omega))
theorem stage_le {k n : Nat} {m m0 : List Int} (hn : n ≤ 6) (h : LeM m m0) : LeM (stage k n m) m0 := by
 induction n with
 | zero => exact h
 | succ n ih => rw [stage_succ]; exact row_le (by omega) (Nat.le_refl _) (ih (by omega))
theorem fw_le {m : List Int} (hl : m.length = 36) : ∀ n, n ≤ 6 → ∀ k, k ≤ n → LeM (fw n m) (fw k m) := by
 intro n
 induction n with
 | zero => intro _ k hk; cases Nat.le_zero.1 hk; exact ⟨hl, fun _ _ _ _ => Int.le_refl _⟩
 | succ n ih =>
  intro hn k hk
  have hl' : LeM (fw n m) (fw n m) := ⟨(ih (by omega) 0 (by omega)).1, fun _ _ _ _ => Int.le_refl _⟩
  rcases Nat.lt_or_ge k (n + 1) with h | h
  ·rw [fw_succ]; exact stage_le (Nat.le_refl _) (ih (by omega) k (by omega))
  ·have : k = n + 1 := by omega
   subst this
   rw [fw_succ]
   exact ⟨(stage_le (Nat.le_refl _) hl').1, fun _ _ _ _ => Int.le_refl _⟩
theorem fw_sat {m : List Int} {t : Nat → Int} (hl : m.length = 36) (hb : ∀ a b, a < 6 → b < 6 → ent m a b ≤ 1048576) (ht : ∀ a b, a < 6 → b < 6 → -1048576 ≤ t b - t a) (hs : Sat m t) : Sat (fw 6 m) t := by
 have := fw_inv (I := fun m => m.length = 36 ∧ (∀ a b, a < 6 → b < 6 → ent m a b ≤ 1048576) ∧ Sat m t) (fun k a b m hk ha hb ⟨h1, h2, h3⟩ => by
  have e1 := h2 a k ha hk
  have e2 := h2 k b hk hb
  have f1 := h3 a k ha hk
  have f2 := h3 k b hk hb
  have g1 := ht a k ha hk
  have g2 := ht k b hk hb
  have ew : w64 (ent m a k + ent m k b) = ent m a k + ent m k b := w64_id (by omega) (by omega)
  refine ⟨by simp [relax, h1], fun c d hc hd => ?_, ?_⟩
  ·have := (relax_le (k := k) ha hb (m0 := m) ⟨h1, fun _ _ _ _ => Int.le_refl _⟩).2 c d hc hd
   have := h2 c d hc hd
   omega
  ·unfold relax
   rw [sat_lim h1 ha hb, ew]
   exact ⟨h3, by omega⟩) 6 (Nat.le_refl _) m ⟨hl, hb, hs⟩
 exact this.2.2
theorem row_eq {m D : List Int} {k a : Nat} (hk : k < 6) (ha : a < 6) (hl : m.length = 36) (hkk : 0 ≤ ent D k k) (hB : ∀ x y, x < 6 → y < 6 → -1099511627776 ≤ ent D x y ∧ ent D x y ≤ 1099511627776)
  (hm : ∀ x y, x < 6 → y < 6 → ent m x y = if x < a then min (ent D x y) (ent D x k + ent D k y) else ent D x y) : ∀ n, n ≤ 6 → (row k a n m).length = 36 ∧
  ∀ x y, x < 6 → y < 6 → ent (row k a n m) x y = if x < a ∨ (x = a ∧ y < n) then min (ent D x y) (ent D x k + ent D k y) else ent D x y := by
 intro n
 induction n with
 | zero => intro _; exact ⟨hl, fun x y hx hy => by show ent m x y = _; rw [hm x y hx hy]; simp⟩
 | succ n ih =>
  intro hn
  obtain ⟨i1, i2⟩ := ih (by omega)
  rw [row_succ]
  refine ⟨by simp [relax, i1], fun x y hx hy => ?_⟩
  unfold relax
  have r1 : ent (row k a n m) a k = ent D a k := by rw [i2 a k ha hk]; split <;> omega
  have r2 : ent (row k a n m) k n = ent D k n := by rw [i2 k n hk (by omega)]; split <;> omega
  have b1 := hB a k ha hk
  have b2 := hB k n hk (by omega)
  rw [ent_lim i1 ha (by omega) hx hy, r1, r2, show w64 (ent D a k + ent D k n) = ent D a k + ent D k n from w64_id (by omega) (by omega)]
  by_cases e : x = a ∧ y = n
  ·obtain ⟨rfl, rfl⟩ := e
   have e2 := i2 x y hx hy
   rw [if_neg (by omega)] at e2
   rw [if_pos (show x = x ∧ y = y from ⟨rfl, rfl⟩), if_pos (show x < x ∨ x = x ∧ y < y + 1 from .inr ⟨rfl, Nat.lt_succ_self _⟩), e2]
   split <;> omega
  ·rw [if_neg e, i2 x y hx hy]
   by_cases h : x < a ∨ x = a ∧ y < n
   ·rw [if_pos h, if_pos (by omega)]
   ·rw [if_neg h, if_neg (by omega)]
theorem stage_eq {D : List Int} {k : Nat} (hk : k < 6) (hl : D.length = 36) (hkk : 0 ≤ ent D k k) (hB : ∀ x y, x < 6 → y < 6 → -1099511627776 ≤ ent D x y ∧ ent D x y ≤ 1099511627776) : ∀ n, n ≤ 6 → (stage k n D).length = 36 ∧
  ∀ x y, x < 6 → y < 6 → ent (stage k n D) x y = if x < n then min (ent D x y) (ent D x k + ent D k y) else ent D x y := by
 intro n
 induction n with
 | zero => intro _; exact ⟨hl, fun x y hx hy => by simp [stage]⟩
 | succ n ih =>
  intro hn
  obtain ⟨i1, i2⟩ := ih (by omega)
  rw [stage_succ]
  obtain ⟨j1, j2⟩ := row_eq hk (by omega) i1 hkk hB i2 6 (Nat.le_refl _)
  refine ⟨j1, fun x y hx hy => ?_⟩
  rw [j2 x y hx hy]
  by_cases h : x < n + 1
  ·rw [if_pos h, if_pos (by omega)]
  ·rw [if_neg h, if_neg (by omega)]
def Closed (n : Nat) (m : List Int) : Prop := ∀ k a b, k < n → a < 6 → b < 6 → ent m a b ≤ ent m a k + ent m k b
theorem fw_closed {m : List Int} (hl : m.length = 36) (hb : ∀ a b, a < 6 → b < 6 → -1048576 ≤ ent m a b ∧ ent m a b ≤ 1048576) (hd : ∀ a, a < 6 → 0 ≤ ent (fw 6 m) a a) :
  ∀ n, n ≤ 6 → Closed n (fw n m) ∧ ∀ a b, a < 6 → b < 6 → -(1048576 * 2 ^ n) ≤ ent (fw n m) a b ∧ ent (fw n m) a b ≤ 1048576 := by
 intro n
 induction n with
 | zero => intro _; exact ⟨fun k _ _ h => absurd h (Nat.not_lt_zero _), fun a b ha hb' => by have := hb a b ha hb'; rw [show fw 0 m = m from rfl]; omega⟩
 | succ n ih =>
  intro hn
  obtain ⟨hc, hbd⟩ := ih (by omega)
  have hln : (fw n m).length = 36 := (fw_le hl n (by omega) 0 (by omega)).1
  have hkk : ∀ a, a < 6 → 0 ≤ ent (fw n m) a a := fun a ha => Int.le_trans (hd a ha) ((fw_le hl 6 (Nat.le_refl _) n (by omega)).2 a a ha ha)
  have hpow : (1048576 : Int) * 2 ^ n ≤ 1048576 * 64 ∧ 0 ≤ (1048576 : Int) * 2 ^ n := by
   have : n = 0 ∨ n = 1 ∨ n = 2 ∨ n = 3 ∨ n = 4 ∨ n = 5 := by omega
   rcases this with rfl | rfl | rfl | rfl | rfl | rfl <;> decide
  have hB : ∀ x y, x < 6 → y < 6 → -1099511627776 ≤ ent (fw n m) x y ∧ ent (fw n m) x y ≤ 1099511627776 := fun x y hx hy => by
   have := hbd x y hx hy
   omega
  obtain ⟨_, he⟩ := stage_eq (k := n) (by omega) hln (hkk n (by omega)) hB 6 (Nat.le_refl _)
  have he : ∀ x y, x < 6 → y < 6 → ent (fw (n + 1) m) x y = min (ent (fw n m) x y) (ent (fw n m) x n + ent (fw n m) n y) := fun x y hx hy => by
   rw [fw_succ, he x y hx hy, if_pos hx]
  have h0 := hkk n (by omega)
  refine ⟨fun k a b hk ha hb' => ?_, fun a b ha hb' => ?_⟩
  ·rw [he a b ha hb', he a k ha (by omega), he k b (by omega) hb']
   rcases Nat.lt_or_ge k n with h | h
   ·have c1 := hc k a b h ha hb'
    have c2 := hc k a n h ha (by omega)
    have c3 := hc k n b h (by omega) hb'
    have c4 := hc k n n h (by omega) (by omega)
    omega
   ·have : k = n := by omega
    subst this
    omega
  ·have p1 := hbd a b ha hb'
   have p2 := hbd a n ha (by omega)
   have p3 := hbd n b (by omega) hb'
   rw [he a b ha hb']
   have : (1048576 : Int) * 2 ^ (n + 1) = 1048576 * 2 ^ n * 2 := by rw [Int.pow_succ, Int.mul_assoc]
   rw [this]
   generalize (1048576 : Int) * 2 ^ n = q at *
   rcases Int.le_total (ent (fw n m) a b) (ent (fw n m) a n + ent (fw n m) n b) with h | h
   ·rw [Int.min_eq_left h]; omega
   ·rw [Int.min_eq_right h]; omega
theorem fw_spec {m : List Int} (hl : m.length = 36) (hb : ∀ a b, a < 6 → b < 6 → -1048576 ≤ ent m a b ∧ ent m a b ≤ 1048576) (hz : ∀ a, a < 6 → ent m a a ≤ 0) :
  (fw 6 m).length = 36 ∧ ((∀ a, a < 6 → 0 ≤ ent (fw 6 m) a a) ↔ ∃ t, Sat m t) ∧ (∀ t, Sat m t → Sat (fw 6 m) t) ∧
  ((∀ a, a < 6 → 0 ≤ ent (fw 6 m) a a) → ∀ c, c < 6 → Sat m (fun b => ent (fw 6 m) c b) ∧ ent (fw 6 m) c c = 0) := by
 have hle := fw_le hl 6 (Nat.le_refl _) 0 (by omega)
 have hs : ∀ t, Sat m t → Sat (fw 6 m) t := fun t ht => fw_sat hl (fun a b ha hb' => (hb a b ha hb').2) (fun a b ha hb' => by
  have := ht b a hb' ha
  have := (hb b a hb' ha).2
  omega) ht
 have hc : (∀ a, a < 6 → 0 ≤ ent (fw 6 m) a a) → ∀ c, c < 6 → Sat m (fun b => ent (fw 6 m) c b) ∧ ent (fw 6 m) c c = 0 := fun hd c hc => by
  obtain ⟨h1, _⟩ := fw_closed hl hb hd 6 (Nat.le_refl _)
  refine ⟨fun a b ha hb' => ?_, ?_⟩
  ·have := h1 a c b ha hc hb'
   have := hle.2 a b ha hb'
   have e : ent (fw 0 m) a b = ent m a b := rfl
   show ent (fw 6 m) c b - ent (fw 6 m) c a ≤ ent m a b
   omega
  ·have := hle.2 c c hc hc
   have := hz c hc
   have := hd c hc
   have e : ent (fw 0 m) c c = ent m c c := rfl
   omega
 refine ⟨hle.1, ⟨fun hd => ⟨_, (hc hd 0 (by omega)).1⟩, fun ⟨t, ht⟩ a ha => ?_⟩, hs, hc⟩
 have := hs t ht a a ha ha
 omega
end Go.Pl


namespace Go.Pl
open Go.Al
@[simp] theorem andThen_some {α R : Type} (x : α) (k : α → Option R) : andThen (some x) k = k x := rfl
@[simp] theorem either_inl {α β R : Type} (x : α) (f : α → R) (g : β → R) : either (.inl x) f g = f x := rfl
@[simp] theorem either_inr {α β R : Type} (x : β) (f : α → R) (g : β → R) : either (.inr x) f g = g x := rfl
theorem w_succ {i : Nat} (h : i < 4611686018427387904) : Go.IntKind.wrap .i64 ((i : Int) + 1) = ((i + 1 : Nat) : Int) := by
 rw [w64_id (by omega) (by omega)]; rfl
theorem loop_run {S R : Type} (L : Nat → S → Option R) (I : S → Prop) (m : S → Nat) (Q : R → Prop)
  (step : ∀ q s, I s → (∃ r, L (q + 1) s = some r ∧ Q r) ∨ (∃ s', I s' ∧ m s' < m s ∧ L (q + 1) s = L q s')) : ∀ q s, I s → m s < q → ∃ r, L q s = some r ∧ Q r := by
 intro q
 induction q with
 | zero => intro s _ h; exact absurd h (Nat.not_lt_zero _)
 | succ q ih =>
  intro s hs hm
  rcases step q s hs with h | ⟨s', h1, h2, h3⟩
  ·exact h
  ·rw [h3]; exact ih s' h1 (by omega)
theorem getD_set {α : Type} (l : List α) (a b : Nat) (x d : α) : (l.set a x).getD b d = if a = b ∧ a < l.length then x else l.getD b d := by
 by_cases h : a = b
 ·subst h
  by_cases hl : a < l.length
  ·simp [hl]
  ·simp [hl]
 ·simp [h, List.getD_eq_getElem?_getD, List.getElem?_set_ne h]
abbrev Span := Int × Int
abbrev Pr := Int × (Int × Int)
abbrev Cn := Int × (Int × Bool)
abbrev Sg := Int × ((Int × Int) × Int)
def sp (l : List Span) (p : Nat) : Span := l.getD p (0, 0)
def Box (l : List Span) (t : Nat → Int) : Prop := ∀ p, p < l.length → (sp l p).1 ≤ t p ∧ t p ≤ (sp l p).2
def Prs (ps : List Pr) (t : Nat → Int) : Prop := ∀ q ∈ ps, t q.1.toNat - t q.2.1.toNat ≤ q.2.2 ∧ t q.2.1.toNat - t q.1.toNat ≤ q.2.2
def okPr (n : Nat) (q : Pr) : Prop := 0 ≤ q.1 ∧ q.1 < n ∧ 0 ≤ q.2.1 ∧ q.2.1 < n ∧ q.1 ≠ q.2.1 ∧ 0 ≤ q.2.2 ∧ q.2.2 ≤ 1000
end Go.Pl


namespace Go.Pl
open Go.Al Go.Proofs
theorem f70_eq (N : Nat) {a b : Int} (v : Int) (m : List Int) (ha : 0 ≤ a) (ha' : a < 6) (hb : 0 ≤ b) (hb' : b < 6) : f70 N a b v m = some (lim a.toNat b.toNat v m) := by
 unfold f70
 simp only [ha, ha', hb, hb', decide_true, Bool.and_true, if_true, Nat.zero_add, Nat.mul_one]
 rfl
theorem f71l2_eq (N : Nat) (k a : Nat) (x2 x3 : Int) (m : List Int) (hk : k < 6) (ha : a < 6) (hN : 6 < N) : f71l2 N N k a x2 x3 0 m = some ((k : Int), x2, x3, row k a 6 m) := by
 obtain ⟨r, h1, rfl⟩ := loop_run (fun q (b : Nat) => f71l2 N q k a x2 x3 b (row k a b m)) (fun b => b ≤ 6) (fun b => 6 - b) (fun r => r = ((k : Int), x2, x3, row k a 6 m)) (fun q b hb => by
  by_cases h : b < 6
  ·right
   refine ⟨b + 1, h, by omega, ?_⟩
   show f71l2B N (f71l2 N q) k a x2 x3 b (row k a b m) = _
   unfold f71l2B
   simp only [show ((b : Int) < 6) by omega, show ((a : Int) < 6) by omega, show ((k : Int) < 6) by omega, Int.natCast_nonneg, decide_true, Bool.and_true, if_true, Nat.zero_add, Nat.mul_one, Int.toNat_natCast, w_succ (show b < 4611686018427387904 by omega)]
   rw [f70_eq N _ _ (by omega) (by omega) (by omega) (by omega), andThen_some, row_succ]
   rfl
  ·left
   have : b = 6 := by omega
   subst this
   exact ⟨_, rfl, rfl⟩) N 0 (by omega) (by omega)
 exact h1
theorem f71l1_eq (N : Nat) (k : Nat) (x1 : Int) (m : List Int) (hk : k < 6) (hN : 6 < N) : f71l1 N N k x1 0 m = some (x1, stage k 6 m) := by
 obtain ⟨r, h1, rfl⟩ := loop_run (fun q (a : Nat) => f71l1 N q k x1 a (stage k a m)) (fun b => b ≤ 6) (fun b => 6 - b) (fun r => r = (x1, stage k 6 m)) (fun q a hb => by
  by_cases h : a < 6
  ·right
   refine ⟨a + 1, h, by omega, ?_⟩
   show f71l1B N (f71l1 N q) k x1 a (stage k a m) = _
   unfold f71l1B
   simp only [show ((a : Int) < 6) by omega, decide_true, if_true]
   rw [f71l2_eq N k a x1 a _ hk h hN, andThen_some, stage_succ]
   simp only [w_succ (show a < 4611686018427387904 by omega)]
  ·left
   have : a = 6 := by omega
   subst this
   exact ⟨_, rfl, rfl⟩) N 0 (by omega) (by omega)
 exact h1
theorem f71l0_eq (N : Nat) (m : List Int) (hN : 6 < N) : f71l0 N N 0 m = some (fw 6 m) := by
 obtain ⟨r, h1, h3⟩ := loop_run (fun q (a : Nat) => f71l0 N q a (fw a m)) (fun b => b ≤ 6) (fun b => 6 - b) (fun r => r = fw 6 m) (fun q a hb => by
  by_cases h : a < 6
  ·right
   refine ⟨a + 1, h, by omega, ?_⟩
   show f71l0B N (f71l0 N q) a (fw a m) = _
   unfold f71l0B
   simp only [show ((a : Int) < 6) by omega, decide_true, if_true]
   rw [f71l1_eq N a a _ h hN, andThen_some, fw_succ]
   simp only [w_succ (show a < 4611686018427387904 by omega)]
  ·left
   have : a = 6 := by omega
   subst this
   refine ⟨_, ?_, rfl⟩
   show f71l0B N (f71l0 N q) ((6 : Nat) : Int) (fw 6 m) = _
   unfold f71l0B
   exact if_neg (by decide)) N 0 (by omega) (by omega)
 rw [h3] at h1
 exact h1
theorem f71_eq (N : Nat) (m : List Int) (hN : 6 < N) : ∃ ok, f71 N m = some (ok, fw 6 m) ∧ (ok = true ↔ ∀ a, a < 6 → 0 ≤ ent (fw 6 m) a a) := by
 generalize hf : fw 6 m = m'
 obtain ⟨r, h1, h2⟩ := loop_run (fun q (a : Nat) => f71l3 N q a m') (fun b => b ≤ 6 ∧ ∀ a, a < b → 0 ≤ ent m' a a) (fun b => 6 - b) (fun r => (r = .inl (false, m') ∧ ¬ ∀ a, a < 6 → 0 ≤ ent m' a a) ∨ (r = .inr m' ∧ ∀ a, a < 6 → 0 ≤ ent m' a a)) (fun q a hb => by
  obtain ⟨hb, hd⟩ := hb
  by_cases h : a < 6
  ·by_cases hn : ent m' a a < 0
   ·left
    refine ⟨.inl (false, m'), ?_, .inl ⟨rfl, fun h' => by have := h' a h; omega⟩⟩
    show f71l3B N (f71l3 N q) a m' = _
    unfold f71l3B
    simp only [show ((a : Int) < 6) by omega, Int.natCast_nonneg, decide_true, Bool.and_true, if_true, Nat.zero_add, Nat.mul_one, Int.toNat_natCast]
    exact if_pos (decide_eq_true hn)
   ·right
    refine ⟨a + 1, ⟨h, fun c hc => ?_⟩, by omega, ?_⟩
    ·rcases Nat.lt_or_ge c a with h' | h'
     ·exact hd c h'
     ·have : c = a := by omega
      subst this; omega
    ·show f71l3B N (f71l3 N q) a m' = _
     unfold f71l3B
     simp only [show ((a : Int) < 6) by omega, Int.natCast_nonneg, decide_true, Bool.and_true, if_true, Nat.zero_add, Nat.mul_one, Int.toNat_natCast, w_succ (show a < 4611686018427387904 by omega)]
     exact if_neg fun h => hn (of_decide_eq_true h)
  ·left
   have : a = 6 := by omega
   subst this
   exact ⟨_, rfl, .inr ⟨rfl, hd⟩⟩) N 0 ⟨by omega, fun a ha => absurd ha (Nat.not_lt_zero _)⟩ (by omega)
 unfold f71
 rw [f71l0_eq N m hN, andThen_some, hf]
 simp only [show f71l3 N N (0 : Int) m' = some r from h1, andThen_some]
 rcases h2 with ⟨rfl, h2⟩ | ⟨rfl, h2⟩
 ·exact ⟨false, rfl, by simpa using h2⟩
 ·exact ⟨true, rfl, by simpa using h2⟩
def Fine (m : List Int) : Prop := m.length = 36 ∧ (∀ a b, a < 6 → b < 6 → -1048576 ≤ ent m a b ∧ ent m a b ≤ 1048576) ∧ ∀ a, a < 6 → ent m a a ≤ 0
theorem fine_lim {m : List Int} {a b : Nat} {v : Int} (h : Fine m) (ha : a < 6) (hb : b < 6) (hv : -1048576 ≤ v) (hv' : v ≤ 1048576) : Fine (lim a b v m) := by
 refine ⟨by simp [h.1], fun c d hc hd => ?_, fun c hc => ?_⟩
 ·rw [ent_lim h.1 ha hb hc hd]
  have := h.2.1 c d hc hd
  have := h.2.1 a b ha hb
  split
  ·split <;> omega
  ·omega
 ·rw [ent_lim h.1 ha hb hc hc]
  have := h.2.2 c hc
  split
  ·rename_i e; obtain ⟨rfl, e⟩ := e; subst e; split <;> omega
  ·omega
abbrev Nt := Cn ⊕ Sg
def NoteT : Nt → Int → Prop
 | .inl c, u => if c.2.2 = true then c.2.1 ≤ u else u ≤ c.2.1 - 1
 | .inr s, u => if s.2.2 = 3 then s.2.1.2 ≤ u else if s.2.2 = 2 then s.2.1.1 ≤ u ∧ u ≤ s.2.1.2 - 1 else u ≤ s.2.1.1 - 1
def plc : Nt → Int
 | .inl c => c.1
 | .inr s => s.1
def okCn (n : Nat) (c : Cn) : Prop := 0 ≤ c.1 ∧ c.1 < n ∧ 1 ≤ c.2.1 ∧ c.2.1 ≤ 1000
def okWr (w : Span) : Prop := 0 ≤ w.1 ∧ w.1 < w.2 ∧ w.2 ≤ 1000
def okSg (n : Nat) (s : Sg) : Prop := 0 ≤ s.1 ∧ s.1 < n ∧ okWr s.2.1 ∧ 1 ≤ s.2.2 ∧ s.2.2 ≤ 3
def okNt (n : Nat) : Nt → Prop
 | .inl c => okCn n c
 | .inr s => okSg n s
def Tells (m : List Int) (R : (Nat → Int) → Prop) : Prop := Fine m ∧ ∀ t, Sat m t ↔ R t
theorem above_eq (N : Nat) {p : Int} {v : Int} {m : List Int} {R : (Nat → Int) → Prop} (h : Tells m R) (hp : 0 ≤ p) (hp' : p < 5) (hv : -100000 ≤ v) (hv' : v ≤ 100000) :
  ∃ m', f68 N p v m = some m' ∧ Tells m' fun t => R t ∧ v ≤ t p.toNat - t 5 := by
 unfold f68
 rw [w64_id (by omega) (by omega), f70_eq N _ _ hp (by omega) (by omega) (by omega)]
 refine ⟨_, rfl, fine_lim h.1 (by omega) (by decide) (by omega) (by omega), fun t => ?_⟩
 rw [sat_lim h.1.1 (by omega) (by decide), h.2]
 show R t ∧ t 5 - t p.toNat ≤ 0 - v ↔ _
 constructor <;> rintro ⟨h1, h2⟩ <;> exact ⟨h1, by omega⟩
theorem below_eq (N : Nat) {p : Int} {v : Int} {m : List Int} {R : (Nat → Int) → Prop} (h : Tells m R) (hp : 0 ≤ p) (hp' : p < 5) (hv : -100000 ≤ v) (hv' : v ≤ 100000) :
  ∃ m', f69 N p v m = some m' ∧ Tells m' fun t => R t ∧ t p.toNat - t 5 ≤ v := by
 unfold f69
 rw [f70_eq N _ _ (by omega) (by omega) hp (by omega)]
 refine ⟨_, rfl, fine_lim h.1 (by decide) (by omega) (by omega) (by omega), fun t => ?_⟩
 rw [sat_lim h.1.1 (by decide) (by omega), h.2]
 exact Iff.rfl
theorem Tells.congr {m : List Int} {R R' : (Nat → Int) → Prop} (h : Tells m R) (e : ∀ t, R t ↔ R' t) : Tells m R' := ⟨h.1, fun t => (h.2 t).trans (e t)⟩
theorem cone_eq (N : Nat) {c : Cn} {n : Nat} {m : List Int} {R : (Nat → Int) → Prop} (h : Tells m R) (hn : n ≤ 5) (hc : okCn n c) :
  ∃ m', f99 N c.1 c.2.1 c.2.2 m = some m' ∧ Tells m' fun t => R t ∧ NoteT (.inl c) (t c.1.toNat - t 5) := by
 obtain ⟨h1, h2, h3, h4⟩ := hc
 unfold f99
 by_cases e : c.2.2 = true
 ·rw [if_pos e]
  obtain ⟨m', e1, e2⟩ := above_eq N h h1 (by omega) (v := c.2.1) (by omega) (by omega)
  rw [e1]
  exact ⟨m', rfl, e2.congr fun t => by simp [NoteT, e]⟩
 ·rw [if_neg e, w64_id (by omega) (by omega)]
  obtain ⟨m', e1, e2⟩ := below_eq N h h1 (by omega) (v := c.2.1 - 1) (by omega) (by omega)
  rw [e1]
  exact ⟨m', rfl, e2.congr fun t => by simp [NoteT, e]⟩
theorem sign_eq (N : Nat) {s : Sg} {n : Nat} {m : List Int} {R : (Nat → Int) → Prop} (h : Tells m R) (hn : n ≤ 5) (hs : okSg n s) :
  ∃ m', f100 N s.1 s.2.1.1 s.2.1.2 s.2.2 m = some m' ∧ Tells m' fun t => R t ∧ NoteT (.inr s) (t s.1.toNat - t 5) := by
 obtain ⟨h1, h2, ⟨h3, h4, h5⟩, h6, h7⟩ := hs
 unfold f100
 by_cases e : s.2.2 = 3
 ·rw [if_pos (by simp [e])]
  obtain ⟨m', e1, e2⟩ := above_eq N h h1 (by omega) (v := s.2.1.2) (by omega) (by omega)
  rw [e1]
  exact ⟨m', rfl, e2.congr fun t => by simp [NoteT, e]⟩
 ·rw [if_neg (by simp [e])]
  by_cases e' : s.2.2 = 2
  ·rw [if_pos (by simp [e']), w64_id (by omega) (by omega)]
   obtain ⟨m1, e1, e2⟩ := below_eq N h h1 (by omega) (v := s.2.1.2 - 1) (by omega) (by omega)
   rw [e1, andThen_some]
   obtain ⟨m2, e3, e4⟩ := above_eq N e2 h1 (by omega) (v := s.2.1.1) (by omega) (by omega)
   rw [e3]
   refine ⟨m2, rfl, e4.congr fun t => ?_⟩
   simp only [NoteT]
   rw [if_neg e, if_pos e']
   constructor
   ·rintro ⟨⟨a, b⟩, c⟩; exact ⟨a, c, b⟩
   ·rintro ⟨a, c, b⟩; exact ⟨⟨a, b⟩, c⟩
  ·rw [if_neg (by simp [e']), w64_id (by omega) (by omega)]
   obtain ⟨m', e1, e2⟩ := below_eq N h h1 (by omega) (v := s.2.1.1 - 1) (by omega) (by omega)
   rw [e1]
   exact ⟨m', rfl, e2.congr fun t => by simp [NoteT, e, e']⟩
end Go.Pl


namespace Go.Pl
open Go.Al Go.Proofs
def init6 : List Int := [0, 1048576, 1048576, 1048576, 1048576, 1048576, 1048576, 0, 1048576, 1048576, 1048576, 1048576, 1048576, 1048576, 0, 1048576, 1048576, 1048576, 1048576, 1048576, 1048576, 0, 1048576, 1048576, 1048576, 1048576, 1048576, 1048576, 0, 1048576, 1048576, 1048576, 1048576, 1048576, 1048576, 0]
def zero6 : List Int := [0, 0, 0, 0, 0, 0, 0, 0, 0, 0, 0, 0, 0, 0, 0, 0, 0, 0, 0, 0, 0, 0, 0, 0, 0, 0, 0, 0, 0, 0, 0, 0, 0, 0, 0, 0]
theorem f46l0_eq (n : Nat) (w : Int) (more : List Nt) (hs : List Span) (ps : List Pr) (cs : List Cn) (ss : List Sg) (ns : List Nt) :
  f46l0 (n + 10) (n + 10) w more 0 hs ps cs ss ns zero6 = some (w, more, hs, ps, cs, ss, ns, init6) := by kernel_rfl
theorem init_ent {a b : Nat} (ha : a < 6) (hb : b < 6) : ent init6 a b = if a = b then 0 else 1048576 := by
 have : ∀ a, a < 6 → ∀ b, b < 6 → ent init6 a b = if a = b then 0 else 1048576 := by decide
 exact this a ha b hb
def Near (t : Nat → Int) : Prop := ∀ a b, a < 6 → b < 6 → t b - t a ≤ 1048576
theorem init_tells : Tells init6 Near := by
 refine ⟨⟨rfl, fun a b ha hb => ?_, fun a ha => ?_⟩, fun t => ⟨fun h a b ha hb => ?_, fun h a b ha hb => ?_⟩⟩
 ·rw [init_ent ha hb]; split <;> omega
 ·rw [init_ent ha ha]; simp
 ·have := h a b ha hb
  rw [init_ent ha hb] at this
  split at this <;> omega
 ·rw [init_ent ha hb]
  split
  ·rename_i e; subst e; omega
  ·exact h a b ha hb
def okSp (s : Span) : Prop := 0 ≤ s.1 ∧ s.1 ≤ s.2 ∧ s.2 ≤ 1000
theorem f46l2_eq (N : Nat) (w : Int) (more : List Nt) (hs : List Span) (ps : List Pr) (cs : List Cn) (ss : List Sg) (ns : List Nt) (hN : hs.length < N) (hn : hs.length ≤ 5) (hok : ∀ s ∈ hs, okSp s) {m : List Int} {R : (Nat → Int) → Prop} (hm : Tells m R) :
  ∃ m', f46l2 N N w more hs (hs.length : Int) 0 hs ps cs ss ns m = some (w, more, hs, ps, cs, ss, ns, m') ∧ Tells m' fun t => R t ∧ ∀ p, p < hs.length → (sp hs p).1 ≤ t p - t 5 ∧ t p - t 5 ≤ (sp hs p).2 := by
 obtain ⟨r, h1, m', h2, h3⟩ := loop_run (fun q (s : Nat × List Int) => f46l2 N q w more hs (hs.length : Int) (s.1 : Int) hs ps cs ss ns s.2)
  (fun s => s.1 ≤ hs.length ∧ Tells s.2 fun t => R t ∧ ∀ p, p < s.1 → (sp hs p).1 ≤ t p - t 5 ∧ t p - t 5 ≤ (sp hs p).2) (fun s => hs.length - s.1)
  (fun r => ∃ m', r = (w, more, hs, ps, cs, ss, ns, m') ∧ Tells m' fun t => R t ∧ ∀ p, p < hs.length → (sp hs p).1 ≤ t p - t 5 ∧ t p - t 5 ≤ (sp hs p).2) (by
   rintro q ⟨i, m1⟩ ⟨i1, i2⟩
   simp only at i1 i2 ⊢
   by_cases hi : i < hs.length
   ·right
    have hsp : okSp (sp hs i) := hok _ (by unfold sp; rw [List.getD_eq_getElem?_getD, List.getElem?_eq_getElem hi]; exact List.getElem_mem hi)
    obtain ⟨o1, o2, o3⟩ := hsp
    obtain ⟨m2, e1, e2⟩ := above_eq N (p := (i : Int)) i2 (by omega) (by omega) (v := (sp hs i).1) (by omega) (by omega)
    obtain ⟨m3, e3, e4⟩ := below_eq N (p := (i : Int)) e2 (by omega) (by omega) (v := (sp hs i).2) (by omega) (by omega)
    refine ⟨(i + 1, m3), ⟨hi, e4.congr fun t => ?_⟩, show hs.length - (i + 1) < hs.length - i by omega, ?_⟩
    ·simp only [Int.toNat_natCast]
     constructor
     ·rintro ⟨⟨⟨a, b⟩, c⟩, d⟩
      refine ⟨a, fun p hp => ?_⟩
      rcases Nat.lt_or_ge p i with h | h
      ·exact b p h
      ·have : p = i := by omega
       subst this; exact ⟨c, d⟩
     ·rintro ⟨a, b⟩
      exact ⟨⟨⟨a, fun p hp => b p (by omega)⟩, (b i (by omega)).1⟩, (b i (by omega)).2⟩
    ·show f46l2B N (f46l2 N q) w more hs (hs.length : Int) (i : Int) hs ps cs ss ns m1 = _
     unfold f46l2B
     unfold sp at e1 e3
     simp only [show ((i : Int) < (hs.length : Int)) by omega, Int.natCast_nonneg, decide_true, Bool.and_true, if_true, Int.toNat_natCast, e1, andThen_some, e3, w_succ (show i < 4611686018427387904 by omega)]
   ·left
    have : i = hs.length := by omega
    subst this
    refine ⟨_, ?_, m1, rfl, i2⟩
    show f46l2B N (f46l2 N q) w more hs (hs.length : Int) (hs.length : Int) hs ps cs ss ns m1 = _
    unfold f46l2B
    rw [if_neg (by simp)]) N (0, m) ⟨Nat.zero_le _, hm.congr fun t => ⟨fun h => ⟨h, fun p hp => absurd hp (Nat.not_lt_zero _)⟩, fun h => h.1⟩⟩ (by simpa using hN)
 rw [h2] at h1
 exact ⟨m', h1, h3⟩
theorem f46l3_eq (N : Nat) (w : Int) (more : List Nt) (hs : List Span) (ps : List Pr) (cs : List Cn) (ss : List Sg) (ns : List Nt) (n : Nat) (hn : n ≤ 5) (hN : ps.length < N) (hl : ps.length < 1000000) (hok : ∀ q ∈ ps, okPr n q) {m : List Int} {R : (Nat → Int) → Prop} (hm : Tells m R) :
  ∃ m', f46l3 N N w more ps (ps.length : Int) 0 hs ps cs ss ns m = some (w, more, hs, ps, cs, ss, ns, m') ∧ Tells m' fun t => R t ∧ Prs ps t := by
 have hgood : ∀ t : Nat → Int, (∀ j, j < ps.length → Prs [ps.getD j ((0 : Int), ((0 : Int), (0 : Int)))] t) ↔ Prs ps t := fun t => by
  constructor
  ·intro h q hq
   obtain ⟨j, hj, e⟩ := List.getElem_of_mem hq
   have := h j hj
   rw [List.getD_eq_getElem?_getD, List.getElem?_eq_getElem hj] at this
   exact this q (by simp [e])
  ·intro h j hj q hq
   rw [List.getD_eq_getElem?_getD, List.getElem?_eq_getElem hj] at hq
   simp at hq; subst hq
   exact h _ (List.getElem_mem hj)
 obtain ⟨r, h1, m', h2, h3⟩ := loop_run (fun q (s : Nat × List Int) => f46l3 N q w more ps (ps.length : Int) (s.1 : Int) hs ps cs ss ns s.2)
  (fun s => s.1 ≤ ps.length ∧ Tells s.2 fun t => R t ∧ ∀ j, j < s.1 → Prs [ps.getD j ((0 : Int), ((0 : Int), (0 : Int)))] t) (fun s => ps.length - s.1)
  (fun r => ∃ m', r = (w, more, hs, ps, cs, ss, ns, m') ∧ Tells m' fun t => R t ∧ ∀ j, j < ps.length → Prs [ps.getD j ((0 : Int), ((0 : Int), (0 : Int)))] t) (by
   rintro q ⟨i, m1⟩ ⟨i1, i2⟩
   simp only at i1 i2 ⊢
   by_cases hi : i < ps.length
   ·right
    have hpr : okPr n (ps.getD i ((0 : Int), ((0 : Int), (0 : Int)))) := hok _ (by rw [List.getD_eq_getElem?_getD, List.getElem?_eq_getElem hi]; exact List.getElem_mem hi)
    generalize hz : ps.getD i ((0 : Int), ((0 : Int), (0 : Int))) = z at *
    obtain ⟨o1, o2, o3, o4, o5, o6, o7⟩ := hpr
    refine ⟨(i + 1, lim z.2.1.toNat z.1.toNat z.2.2 (lim z.1.toNat z.2.1.toNat z.2.2 m1)), ⟨hi, ?_⟩, show ps.length - (i + 1) < ps.length - i by omega, ?_⟩
    ·have f1 := fine_lim i2.1 (a := z.1.toNat) (b := z.2.1.toNat) (v := z.2.2) (by omega) (by omega) (by omega) (by omega)
     refine ⟨fine_lim f1 (by omega) (by omega) (by omega) (by omega), fun t => ?_⟩
     rw [sat_lim f1.1 (by omega) (by omega), sat_lim i2.1.1 (by omega) (by omega), i2.2]
     constructor
     ·rintro ⟨⟨⟨a, b⟩, c⟩, d⟩
      refine ⟨a, fun j hj => ?_⟩
      rcases Nat.lt_or_ge j i with h | h
      ·exact b j h
      ·have : j = i := by omega
       subst this
       rw [hz]
       intro x hx
       simp at hx; subst hx
       omega
     ·rintro ⟨a, b⟩
      have := b i (by omega)
      rw [hz] at this
      have := this z (by simp)
      exact ⟨⟨⟨a, fun j hj => b j (by omega)⟩, by omega⟩, by omega⟩
    ·show f46l3B N (f46l3 N q) w more ps (ps.length : Int) (i : Int) hs ps cs ss ns m1 = _
     unfold f46l3B
     simp only [show ((i : Int) < (ps.length : Int)) by omega, Int.natCast_nonneg, decide_true, Bool.and_true, if_true, Int.toNat_natCast, hz]
     rw [f70_eq N _ _ o1 (by omega) o3 (by omega), andThen_some, f70_eq N _ _ o3 (by omega) o1 (by omega), andThen_some]
     simp only [w_succ (show i < 4611686018427387904 by omega)]
   ·left
    have : i = ps.length := by omega
    subst this
    refine ⟨_, ?_, m1, rfl, i2⟩
    show f46l3B N (f46l3 N q) w more ps (ps.length : Int) (ps.length : Int) hs ps cs ss ns m1 = _
    unfold f46l3B
    rw [if_neg (by simp)]) N (0, m) ⟨Nat.zero_le _, hm.congr fun t => ⟨fun h => ⟨h, fun p hp => absurd hp (Nat.not_lt_zero _)⟩, fun h => h.1⟩⟩ (by simpa using hN)
 rw [h2] at h1
 exact ⟨m', h1, h3.congr fun t => by rw [hgood]⟩
def bitOff (w : Int) (i : Nat) : Bool := Go.IntKind.wrap .i64 (((((BitVec.ofInt (Go.IntKind.bits .i64) (Int.fdiv w (2 ^ (min i (Go.IntKind.bits .i64))))) &&& (BitVec.ofInt (Go.IntKind.bits .i64) (1 : Int)))).toNat : Nat) : Int) == (0 : Int)
theorem bitOff_zero (i : Nat) : bitOff 0 i = true := by
 unfold bitOff
 rw [Int.zero_fdiv]
 rfl
def nt (ns : List Nt) (i : Nat) : Nt := ns.getD i (Sum.inl ((0 : Int), ((0 : Int), false)))
def NoteOk (x : Nt) (t : Nat → Int) : Prop := NoteT x (t (plc x).toNat)
theorem note_eq (N : Nat) {x : Nt} {n : Nat} {m : List Int} {R : (Nat → Int) → Prop} (h : Tells m R) (hn : n ≤ 5) (hx : okNt n x) {S : Type} (k : List Int → Option S) :
  ∃ m', either x (fun z => andThen (f99 N z.1 z.2.1 z.2.2 m) k) (fun z => andThen (f100 N z.1 z.2.1.1 z.2.1.2 z.2.2 m) k) = k m' ∧ Tells m' fun t => R t ∧ NoteT x (t (plc x).toNat - t 5) := by
 cases x with
 | inl c =>
  obtain ⟨m', e1, e2⟩ := cone_eq N h hn hx
  exact ⟨m', by rw [either_inl, e1, andThen_some], e2⟩
 | inr s =>
  obtain ⟨m', e1, e2⟩ := sign_eq N h hn hx
  exact ⟨m', by rw [either_inr, e1, andThen_some], e2⟩
theorem f46l4_eq (N : Nat) (w : Int) (more ns : List Nt) (n : Nat) (hn : n ≤ 5) (hN : ns.length < N) (hl : ns.length < 1000000) (hok : ∀ x ∈ ns, okNt n x) {m : List Int} {R : (Nat → Int) → Prop} (hm : Tells m R) :
  ∃ m', f46l4 N N w more ns (ns.length : Int) 0 m = some (more, m') ∧ Tells m' fun t => R t ∧ ∀ i, i < ns.length → bitOff w i = true → NoteT (nt ns i) (t (plc (nt ns i)).toNat - t 5) := by
 obtain ⟨r, h1, m', h2, h3⟩ := loop_run (fun q (s : Nat × List Int) => f46l4 N q w more ns (ns.length : Int) (s.1 : Int) s.2)
  (fun s => s.1 ≤ ns.length ∧ Tells s.2 fun t => R t ∧ ∀ i, i < s.1 → bitOff w i = true → NoteT (nt ns i) (t (plc (nt ns i)).toNat - t 5)) (fun s => ns.length - s.1)
  (fun r => ∃ m', r = (more, m') ∧ Tells m' fun t => R t ∧ ∀ i, i < ns.length → bitOff w i = true → NoteT (nt ns i) (t (plc (nt ns i)).toNat - t 5)) (by
   rintro q ⟨i, m1⟩ ⟨i1, i2⟩
   simp only at i1 i2 ⊢
   by_cases hi : i < ns.length
   ·right
    have hx : okNt n (nt ns i) := hok _ (by unfold nt; rw [List.getD_eq_getElem?_getD, List.getElem?_eq_getElem hi]; exact List.getElem_mem hi)
    have hstep : ∀ k : Int → List Nt → List Nt → Int → Int → List Int → Option (List Nt × List Int), f46l4B N k w more ns (ns.length : Int) (i : Int) m1 =
      if bitOff w i = true then either (nt ns i) (fun z => andThen (f99 N z.1 z.2.1 z.2.2 m1) (fun y => k w more ns (ns.length : Int) ((i + 1 : Nat) : Int) y)) (fun z => andThen (f100 N z.1 z.2.1.1 z.2.1.2 z.2.2 m1) (fun y => k w more ns (ns.length : Int) ((i + 1 : Nat) : Int) y)) else k w more ns (ns.length : Int) ((i + 1 : Nat) : Int) m1 := fun k => by
     unfold f46l4B
     simp only [show ((i : Int) < (ns.length : Int)) by omega, Int.natCast_nonneg, decide_true, Bool.and_true, if_true, Int.toNat_natCast, w_succ (show i < 4611686018427387904 by omega)]
     rfl
    by_cases hb : bitOff w i = true
    ·obtain ⟨m2, e1, e2⟩ := note_eq N i2 hn hx (fun y => f46l4 N q w more ns (ns.length : Int) ((i + 1 : Nat) : Int) y)
     refine ⟨(i + 1, m2), ⟨hi, e2.congr fun t => ?_⟩, show ns.length - (i + 1) < ns.length - i by omega, ?_⟩
     ·constructor
      ·rintro ⟨⟨a, b⟩, c⟩
       refine ⟨a, fun j hj => ?_⟩
       rcases Nat.lt_or_ge j i with h | h
       ·exact b j h
       ·have : j = i := by omega
        subst this; exact fun _ => c
      ·rintro ⟨a, b⟩
       exact ⟨⟨a, fun j hj => b j (by omega)⟩, b i (by omega) hb⟩
     ·show f46l4B N (f46l4 N q) w more ns (ns.length : Int) (i : Int) m1 = _
      rw [hstep, if_pos hb, e1]
    ·refine ⟨(i + 1, m1), ⟨hi, i2.congr fun t => ?_⟩, show ns.length - (i + 1) < ns.length - i by omega, ?_⟩
     ·constructor
      ·rintro ⟨a, b⟩
       refine ⟨a, fun j hj => ?_⟩
       rcases Nat.lt_or_ge j i with h | h
       ·exact b j h
       ·have : j = i := by omega
        subst this; exact fun h => absurd h hb
      ·rintro ⟨a, b⟩
       exact ⟨a, fun j hj => b j (by omega)⟩
     ·show f46l4B N (f46l4 N q) w more ns (ns.length : Int) (i : Int) m1 = _
      rw [hstep, if_neg hb]
   ·left
    have : i = ns.length := by omega
    subst this
    refine ⟨_, ?_, m1, rfl, i2⟩
    show f46l4B N (f46l4 N q) w more ns (ns.length : Int) (ns.length : Int) m1 = _
    unfold f46l4B
    rw [if_neg (by simp)]) N (0, m) ⟨Nat.zero_le _, hm.congr fun t => ⟨fun h => ⟨h, fun p hp => absurd hp (Nat.not_lt_zero _)⟩, fun h => h.1⟩⟩ (by simpa using hN)
 rw [h2] at h1
 exact ⟨m', h1, h3⟩
theorem f46l5_eq (N : Nat) (ns : List Nt) (n : Nat) (hn : n ≤ 5) (hN : ns.length < N) (hl : ns.length < 1000000) (hok : ∀ x ∈ ns, okNt n x) {m : List Int} {R : (Nat → Int) → Prop} (hm : Tells m R) :
  ∃ m', f46l5 N N ns (ns.length : Int) 0 m = some m' ∧ Tells m' fun t => R t ∧ ∀ i, i < ns.length → NoteT (nt ns i) (t (plc (nt ns i)).toNat - t 5) := by
 obtain ⟨r, h1, m', h2, h3⟩ := loop_run (fun q (s : Nat × List Int) => f46l5 N q ns (ns.length : Int) (s.1 : Int) s.2)
  (fun s => s.1 ≤ ns.length ∧ Tells s.2 fun t => R t ∧ ∀ i, i < s.1 → NoteT (nt ns i) (t (plc (nt ns i)).toNat - t 5)) (fun s => ns.length - s.1)
  (fun r => ∃ m', r = m' ∧ Tells m' fun t => R t ∧ ∀ i, i < ns.length → NoteT (nt ns i) (t (plc (nt ns i)).toNat - t 5)) (by
   rintro q ⟨i, m1⟩ ⟨i1, i2⟩
   simp only at i1 i2 ⊢
   by_cases hi : i < ns.length
   ·right
    have hx : okNt n (nt ns i) := hok _ (by unfold nt; rw [List.getD_eq_getElem?_getD, List.getElem?_eq_getElem hi]; exact List.getElem_mem hi)
    obtain ⟨m2, e1, e2⟩ := note_eq N i2 hn hx (fun y => f46l5 N q ns (ns.length : Int) ((i + 1 : Nat) : Int) y)
    refine ⟨(i + 1, m2), ⟨hi, e2.congr fun t => ?_⟩, show ns.length - (i + 1) < ns.length - i by omega, ?_⟩
    ·constructor
     ·rintro ⟨⟨a, b⟩, c⟩
      refine ⟨a, fun j hj => ?_⟩
      rcases Nat.lt_or_ge j i with h | h
      ·exact b j h
      ·have : j = i := by omega
       subst this; exact c
     ·rintro ⟨a, b⟩
      exact ⟨⟨a, fun j hj => b j (by omega)⟩, b i (by omega)⟩
    ·show f46l5B N (f46l5 N q) ns (ns.length : Int) (i : Int) m1 = _
     unfold f46l5B
     simp only [show ((i : Int) < (ns.length : Int)) by omega, Int.natCast_nonneg, decide_true, Bool.and_true, if_true, Int.toNat_natCast, w_succ (show i < 4611686018427387904 by omega)]
     exact e1
   ·left
    have : i = ns.length := by omega
    subst this
    refine ⟨_, ?_, m1, rfl, i2⟩
    show f46l5B N (f46l5 N q) ns (ns.length : Int) (ns.length : Int) m1 = _
    unfold f46l5B
    rw [if_neg (by simp)]) N (0, m) ⟨Nat.zero_le _, hm.congr fun t => ⟨fun h => ⟨h, fun p hp => absurd hp (Nat.not_lt_zero _)⟩, fun h => h.1⟩⟩ (by simpa using hN)
 rw [h2] at h1
 exact ⟨m', h1, h3⟩
def Truth (hs : List Span) (ps : List Pr) (K : Nt → Prop) (t : Nat → Int) : Prop := Box hs t ∧ Prs ps t ∧ ∀ x, K x → NoteOk x t
def zt (t : Nat → Int) (a : Nat) : Int := if a = 5 then 0 else t a
structure Tight (n : Nat) (m : List Int) (T : (Nat → Int) → Prop) : Prop where
 len : m.length = 36
 up : ∀ t, T t → ∀ a b, (a < n ∨ a = 5) → (b < n ∨ b = 5) → zt t b - zt t a ≤ ent m a b
 att : ∀ a b, (a < n ∨ a = 5) → (b < n ∨ b = 5) → ∃ t, T t ∧ zt t b - zt t a = ent m a b
 all : ∀ a, (a < n ∨ a = 5) → ∃ t, T t ∧ ∀ b, (b < n ∨ b = 5) → zt t b - zt t a = ent m a b
 fine : Fine m
 to : ∀ t, T t → Sat m (fun a => if a < n then t a else 0)
 fro : ∀ t, Sat m t → T (fun a => t a - t 5)
theorem truth_shift {hs : List Span} {ps : List Pr} {K : Nt → Prop} {t t' : Nat → Int} {n : Nat} (hn : hs.length = n) (hp : ∀ q ∈ ps, okPr n q) (hK : ∀ x, K x → okNt n x) (h : ∀ p, p < n → t' p = t p) (ht : Truth hs ps K t) : Truth hs ps K t' := by
 refine ⟨fun p hp' => by rw [h p (by omega)]; exact ht.1 p hp', fun q hq => ?_, fun x hx => ?_⟩
 ·obtain ⟨o1, o2, o3, o4, _⟩ := hp q hq
  rw [h q.1.toNat (by omega), h q.2.1.toNat (by omega)]
  exact ht.2.1 q hq
 ·have : (plc x).toNat < n := by
   have := hK x hx
   cases x with
   | inl c => obtain ⟨o1, o2, _⟩ := this; show c.1.toNat < n; omega
   | inr s => obtain ⟨o1, o2, _⟩ := this; show s.1.toNat < n; omega
  unfold NoteOk
  rw [h _ this]
  exact ht.2.2 x hx
theorem gaps_spec (N : Nat) (w : Int) (hs : List Span) (ps : List Pr) (cs : List Cn) (ss : List Sg) (ns more : List Nt) (hN : 1000 ≤ N) (hn : 1 ≤ hs.length) (hn5 : hs.length ≤ 5) (hok : ∀ s ∈ hs, okSp s) (hp : ∀ q ∈ ps, okPr hs.length q)
  (hpl : ps.length ≤ 12) (hns : ∀ x ∈ ns, okNt hs.length x) (hnl : ns.length ≤ 24) (hmo : ∀ x ∈ more, okNt hs.length x) (hml : more.length ≤ 24) :
  ∃ m ok, f46 N hs ps cs ss ns w more = some (m, ok) ∧ (ok = true ↔ ∃ t, Truth hs ps (fun x => (∃ i, i < ns.length ∧ bitOff w i = true ∧ x = nt ns i) ∨ x ∈ more) t) ∧
   (ok = true → Tight hs.length m (Truth hs ps (fun x => (∃ i, i < ns.length ∧ bitOff w i = true ∧ x = nt ns i) ∨ x ∈ more))) := by
 have hKok : ∀ x, ((∃ i, i < ns.length ∧ bitOff w i = true ∧ x = nt ns i) ∨ x ∈ more) → okNt hs.length x := fun x hx => by
  rcases hx with ⟨i, hi, _, rfl⟩ | hx
  ·exact hns _ (by unfold nt; rw [List.getD_eq_getElem?_getD, List.getElem?_eq_getElem hi]; exact List.getElem_mem hi)
  ·exact hmo x hx
 generalize hT : Truth hs ps (fun x => (∃ i, i < ns.length ∧ bitOff w i = true ∧ x = nt ns i) ∨ x ∈ more) = T
 have hTd : ∀ t, T t ↔ Box hs t ∧ Prs ps t ∧ (∀ i, i < ns.length → bitOff w i = true → NoteOk (nt ns i) t) ∧ ∀ x ∈ more, NoteOk x t := fun t => by
  rw [← hT]
  constructor
  ·rintro ⟨a, b, c⟩
   exact ⟨a, b, fun i hi hb => c _ (.inl ⟨i, hi, hb, rfl⟩), fun x hx => c x (.inr hx)⟩
  ·rintro ⟨a, b, c, d⟩
   refine ⟨a, b, fun x hx => ?_⟩
   rcases hx with ⟨i, hi, hb, rfl⟩ | hx
   ·exact c i hi hb
   ·exact d x hx
 have hsh : ∀ t t' : Nat → Int, (∀ p, p < hs.length → t' p = t p) → T t → T t' := fun t t' h ht => by rw [← hT] at ht ⊢; exact truth_shift rfl hp hKok h ht
 obtain ⟨k, rfl⟩ : ∃ k, N = k + 10 := ⟨N - 10, by omega⟩
 obtain ⟨m1, e1, t1⟩ := f46l2_eq (k + 10) w more hs ps cs ss ns (by omega) hn5 hok init_tells
 obtain ⟨m2, e2, t2⟩ := f46l3_eq (k + 10) w more hs ps cs ss ns hs.length hn5 (by omega) (by omega) hp t1
 obtain ⟨m3, e3, t3⟩ := f46l4_eq (k + 10) w more ns hs.length hn5 (by omega) (by omega) hns t2
 obtain ⟨m4, e4, t4⟩ := f46l5_eq (k + 10) more hs.length hn5 (by omega) (by omega) hmo t3
 obtain ⟨ok, e5, h5⟩ := f71_eq (k + 10) m4 (by omega)
 obtain ⟨s1, s2, s3, s4⟩ := fw_spec t4.1.1 t4.1.2.1 t4.1.2.2
 -- what the matrix says is what the furnace says
 have to : ∀ t, T t → Sat m4 (fun a => if a < hs.length then t a else 0) := fun t ht => by
  rw [t4.2]
  obtain ⟨a, b, c, d⟩ := (hTd t).1 ht
  have hbx : ∀ p, p < hs.length → 0 ≤ t p ∧ t p ≤ 1000 := fun p hp' => by
   have h1 := a p hp'
   have h2 : okSp (sp hs p) := hok _ (by unfold sp; rw [List.getD_eq_getElem?_getD, List.getElem?_eq_getElem hp']; exact List.getElem_mem hp')
   obtain ⟨o1, o2, o3⟩ := h2
   omega
  have h50 : ¬ 5 < hs.length := by omega
  have hpl : ∀ x, okNt hs.length x → (plc x).toNat < hs.length := fun x hx => by
   cases x with
   | inl c => obtain ⟨o1, o2, _⟩ := hx; show c.1.toNat < hs.length; omega
   | inr s => obtain ⟨o1, o2, _⟩ := hx; show s.1.toNat < hs.length; omega
  refine ⟨⟨⟨⟨fun x y hx hy => ?_, fun p hp' => ?_⟩, fun q hq => ?_⟩, fun i hi hb => ?_⟩, fun i hi => ?_⟩
  ·have h1 := hbx x
   have h2 := hbx y
   show (if y < hs.length then t y else 0) - (if x < hs.length then t x else 0) ≤ 1048576
   split <;> split <;> omega
  ·simp only [if_pos hp', if_neg h50]
   have := a p hp'
   omega
  ·obtain ⟨o1, o2, o3, o4, _⟩ := hp q hq
   simp only [if_pos (show q.1.toNat < hs.length by omega), if_pos (show q.2.1.toNat < hs.length by omega)]
   exact b q hq
  ·have hx := hKok _ (.inl ⟨i, hi, hb, rfl⟩)
   simp only [if_pos (hpl _ hx), if_neg h50, Int.sub_zero]
   exact c i hi hb
  ·have hm : nt more i ∈ more := by unfold nt; rw [List.getD_eq_getElem?_getD, List.getElem?_eq_getElem hi]; exact List.getElem_mem hi
   simp only [if_pos (hpl _ (hmo _ hm)), if_neg h50, Int.sub_zero]
   exact d _ hm
 have fro : ∀ t, Sat m4 t → T (fun a => t a - t 5) := fun t ht => by
  rw [t4.2] at ht
  obtain ⟨⟨⟨⟨_, b⟩, c⟩, d⟩, e⟩ := ht
  refine (hTd _).2 ⟨b, fun q hq => ?_, d, fun x hx => ?_⟩
  ·have := c q hq
   show (t q.1.toNat - t 5) - (t q.2.1.toNat - t 5) ≤ q.2.2 ∧ (t q.2.1.toNat - t 5) - (t q.1.toNat - t 5) ≤ q.2.2
   omega
  ·obtain ⟨i, hi, e'⟩ := List.getElem_of_mem hx
   have := e i hi
   unfold nt at this
   rw [List.getD_eq_getElem?_getD, List.getElem?_eq_getElem hi] at this
   simp only [Option.getD_some, e'] at this
   exact this
 refine ⟨fw 6 m4, ok, ?_, ?_, fun hk => ?_⟩
 ·unfold f46
  have e0 := f46l0_eq k w more hs ps cs ss ns
  unfold zero6 at e0
  rw [e0, andThen_some]
  simp only [e1, e2, e3, e4, e5, andThen_some]
 ·rw [h5, s2]
  exact ⟨fun ⟨t, ht⟩ => ⟨_, fro t ht⟩, fun ⟨t, ht⟩ => ⟨_, to t ht⟩⟩
 ·have hd := h5.1 hk
  have hup : ∀ t, T t → ∀ a b, (a < hs.length ∨ a = 5) → (b < hs.length ∨ b = 5) → zt t b - zt t a ≤ ent (fw 6 m4) a b := fun t ht a b ha hb => by
   have := s3 _ (to t ht) a b (by omega) (by omega)
   have ez : ∀ x, (x < hs.length ∨ x = 5) → (if x < hs.length then t x else 0) = zt t x := fun x hx => by
    unfold zt
    by_cases h5 : x = 5
    ·rw [if_pos h5, if_neg (by omega)]
    ·rw [if_neg h5, if_pos (by omega)]
   simp only [ez a ha, ez b hb] at this
   exact this
  have hall : ∀ a, (a < hs.length ∨ a = 5) → ∃ t, T t ∧ ∀ b, (b < hs.length ∨ b = 5) → zt t b - zt t a = ent (fw 6 m4) a b := fun a ha => by
   obtain ⟨c1, c2⟩ := s4 hd a (by omega)
   refine ⟨_, fro _ c1, fun b hb => ?_⟩
   unfold zt
   by_cases hb5 : b = 5 <;> by_cases ha5 : a = 5
   ·subst hb5; subst ha5; simp [c2]
   ·subst hb5; simp [ha5, c2]
   ·subst ha5; simp [hb5, c2]
   ·simp [ha5, hb5, c2]
  have hle := fw_le t4.1.1 6 (Nat.le_refl _) 0 (by omega)
  refine ⟨s1, hup, fun a b ha hb => by obtain ⟨t, h1, h2⟩ := hall a ha; exact ⟨t, h1, h2 b hb⟩, hall, ⟨s1, fun a b ha hb => ?_, fun a ha => ?_⟩, fun t ht => s3 _ (to t ht), fun t ht => fro t fun a b ha hb => Int.le_trans (ht a b ha hb) (hle.2 a b ha hb)⟩
  ·obtain ⟨t, ht, _⟩ := hall 5 (.inr rfl)
   have h1 := s3 _ (to t ht) a b ha hb
   have h2 := hle.2 a b ha hb
   have h3 : ent (fw 0 m4) a b = ent m4 a b := rfl
   have h4 := (t4.1.2.1 a b ha hb).2
   have hbx : ∀ p, p < hs.length → 0 ≤ t p ∧ t p ≤ 1000 := fun p hp' => by
    have h1 := ((hTd t).1 ht).1 p hp'
    have h2 : okSp (sp hs p) := hok _ (by unfold sp; rw [List.getD_eq_getElem?_getD, List.getElem?_eq_getElem hp']; exact List.getElem_mem hp')
    obtain ⟨o1, o2, o3⟩ := h2
    omega
   have g1 := hbx a
   have g2 := hbx b
   have h1 : (if b < hs.length then t b else 0) - (if a < hs.length then t a else 0) ≤ ent (fw 6 m4) a b := h1
   split at h1 <;> split at h1 <;> omega
  ·exact Int.le_of_eq (s4 hd a ha).2
end Go.Pl


namespace Go.Pl
open Go.Al Go.Proofs
theorem search {R : Type} (L : Nat → Nat → Option R) (n : Nat) (p : Nat → Bool) (hit : Nat → R) (miss : R) (step : ∀ q i, i < n → L (q + 1) i = if p i = true then some (hit i) else L q (i + 1)) (stop : ∀ q, L (q + 1) n = some miss)
  (N : Nat) (hN : n < N) : (∃ i, i < n ∧ p i = true ∧ (∀ j, j < i → p j = false) ∧ L N 0 = some (hit i)) ∨ ((∀ i, i < n → p i = false) ∧ L N 0 = some miss) := by
 obtain ⟨r, h1, h2⟩ := loop_run L (fun i => i ≤ n ∧ ∀ j, j < i → p j = false) (fun i => n - i) (fun r => (∃ i, i < n ∧ p i = true ∧ (∀ j, j < i → p j = false) ∧ r = hit i) ∨ ((∀ i, i < n → p i = false) ∧ r = miss)) (fun q i hi => by
  by_cases h : i < n
  ·by_cases hp : p i = true
   ·left; exact ⟨hit i, by rw [step q i h, if_pos hp], .inl ⟨i, h, hp, hi.2, rfl⟩⟩
   ·right
    refine ⟨i + 1, ⟨h, fun j hj => ?_⟩, by omega, by rw [step q i h, if_neg hp]⟩
    rcases Nat.lt_or_ge j i with h' | h'
    ·exact hi.2 j h'
    ·have : j = i := by omega
     subst this; simpa using hp
  ·left
   have : i = n := by omega
   subst this
   exact ⟨miss, stop q, .inr ⟨hi.2, rfl⟩⟩) N 0 ⟨by omega, fun j hj => absurd hj (Nat.not_lt_zero _)⟩ (by simpa using hN)
 rcases h2 with ⟨i, a, b, c, rfl⟩ | ⟨a, rfl⟩
 ·exact .inl ⟨i, a, b, c, h1⟩
 ·exact .inr ⟨a, h1⟩
theorem getD_mem {α : Type} {l : List α} {d : α} {i : Nat} (hi : i < l.length) : l.getD i d ∈ l := by
 rw [List.getD_eq_getElem?_getD, List.getElem?_eq_getElem hi]; exact List.getElem_mem hi
theorem getD_of_mem {α : Type} {l : List α} {x : α} (d : α) (hx : x ∈ l) : ∃ i, i < l.length ∧ l.getD i d = x := by
 obtain ⟨i, hi, e⟩ := List.getElem_of_mem hx
 exact ⟨i, hi, by rw [List.getD_eq_getElem?_getD, List.getElem?_eq_getElem hi]; exact e⟩
theorem searchL {α R : Type} (l : List α) (d : α) (P : α → Bool) (L : Nat → Nat → Option R) (hit : Nat → R) (miss : R) (step : ∀ q i, i < l.length → L (q + 1) i = if P (l.getD i d) = true then some (hit i) else L q (i + 1)) (stop : ∀ q, L (q + 1) l.length = some miss)
  (N : Nat) (hN : l.length < N) : (∃ i, i < l.length ∧ l.any P = true ∧ L N 0 = some (hit i)) ∨ (l.any P = false ∧ L N 0 = some miss) := by
 rcases search L l.length (fun i => P (l.getD i d)) hit miss step stop N hN with ⟨i, h1, h2, _, h4⟩ | ⟨h1, h2⟩
 ·exact .inl ⟨i, h1, List.any_eq_true.2 ⟨_, getD_mem h1, h2⟩, h4⟩
 ·refine .inr ⟨?_, h2⟩
  rw [List.any_eq_false]
  intro x hx
  obtain ⟨i, hi, e⟩ := getD_of_mem d hx
  have := h1 i hi
  simp only [e] at this
  simp [this]
def inB (lo hi n : Int) : Bool := decide (lo ≤ n) && decide (n ≤ hi)
theorem f47_eq (N : Nat) (x lo hi : Int) : f47 N x lo hi = some (!inB lo hi x, lo, hi) := by
 unfold f47 inB
 by_cases h : x < lo
 ·have : ¬ lo ≤ x := by omega
  simp [h, this]
 ·have h' : lo ≤ x := by omega
  have e : decide (x > hi) = !decide (x ≤ hi) := by rw [← decide_not, decide_eq_decide]; omega
  simp [h, h', e]
theorem f58a_eq (N : Nat) (l : List Int) (lo hi : Int) (hN : l.length < N) (hl : l.length < 1000000) : ∃ r, f58a N l lo hi = some (r, lo, hi) ∧ decide (r ≥ 0) = l.any fun n => !inB lo hi n := by
 unfold f58a
 rcases searchL l (0 : Int) (fun n => !inB lo hi n) (fun q i => f58al0 N q l (l.length : Int) (i : Int) lo hi) (fun i => .inl ((i : Int), lo, hi)) (.inr (lo, hi)) (fun q i hi' => by
  show f58al0B N (f58al0 N q) l (l.length : Int) (i : Int) lo hi = _
  unfold f58al0B
  simp only [show ((i : Int) < (l.length : Int)) by omega, Int.natCast_nonneg, decide_true, Bool.and_true, if_true, Int.toNat_natCast, w_succ (show i < 4611686018427387904 by omega), f47_eq, andThen_some]) (fun q => by
  show f58al0B N (f58al0 N q) l (l.length : Int) (l.length : Int) lo hi = _
  unfold f58al0B
  rw [if_neg (by simp)]) N hN with ⟨i, hi', ha, hr⟩ | ⟨ha, hr⟩
 ·have hr : f58al0 N N l (l.length : Int) 0 lo hi = some (.inl ((i : Int), lo, hi)) := hr
  exact ⟨i, by rw [hr]; rfl, by rw [ha]; simp⟩
 ·have hr : f58al0 N N l (l.length : Int) 0 lo hi = some (.inr (lo, hi)) := hr
  exact ⟨-1, by rw [hr]; rfl, by rw [ha]; rfl⟩
theorem f24_eq (N : Nat) (l : List Int) (lo hi : Int) (hN : l.length < N) (hl : l.length < 1000000) : f24 N lo hi l = some (l.all (inB lo hi)) := by
 obtain ⟨r, h1, h2⟩ := f58a_eq N l lo hi hN hl
 unfold f24 f42a
 rw [h1, andThen_some, andThen_some, h2]
 simp [List.all_eq_not_any_not]
instance (s : Span) : Decidable (okSp s) := by unfold okSp; infer_instance
instance (n : Nat) (q : Pr) : Decidable (okPr n q) := by unfold okPr; infer_instance
instance (n : Nat) (q : Cn) : Decidable (okCn n q) := by unfold okCn; infer_instance
instance (s : Span) : Decidable (okWr s) := by unfold okWr; infer_instance
instance (n : Nat) (q : Sg) : Decidable (okSg n q) := by unfold okSg; infer_instance
theorem f59_eq (N : Nat) (s : Span) (hN : 100 ≤ N) : f59 N s.1 s.2 = some (!decide (okSp s)) := by
 unfold f59
 rw [f24_eq N _ _ _ (by simp; omega) (by simp)]
 simp only [andThen_some, List.all_cons, List.all_nil, inB, Bool.and_true]
 by_cases h1 : 0 ≤ s.1 <;> by_cases h2 : s.1 ≤ 1000 <;> by_cases h3 : 0 ≤ s.2 <;> by_cases h4 : s.2 ≤ 1000 <;> by_cases h5 : s.1 ≤ s.2 <;> simp [okSp, h1, h2, h3, h4, h5] <;> omega
theorem f60_eq (N : Nat) (l : List Int) (hs : List Span) (ps : List Pr) (cs : List Cn) (ss : List Sg) (hN : 100 ≤ N) (hl : l.length < 100) (hn : hs.length < 1000000) : f60 N l hs ps cs ss = some (l.all (inB 0 ((hs.length : Int) - 1)), hs, ps, cs, ss) := by
 unfold f60
 rw [w64_id (by omega) (by omega), f24_eq N _ _ _ (by omega) (by omega)]
 rfl
theorem f61_eq (N : Nat) (q : Pr) (hs : List Span) (ps : List Pr) (cs : List Cn) (ss : List Sg) (hN : 100 ≤ N) (hn : hs.length < 1000000) : f61 N q.1 q.2.1 q.2.2 hs ps cs ss = some (!decide (okPr hs.length q), hs, ps, cs, ss) := by
 unfold f61
 rw [f60_eq N _ _ _ _ _ hN (by simp) hn, f24_eq N _ _ _ (by simp; omega) (by simp)]
 simp only [andThen_some, List.all_cons, List.all_nil, inB, Bool.and_true]
 have e : ∀ x : Int, decide (x ≤ (hs.length : Int) - 1) = decide (x < (hs.length : Int)) := fun x => by rw [decide_eq_decide]; omega
 simp only [e, okPr]
 by_cases h1 : 0 ≤ q.1 <;> by_cases h2 : q.1 < hs.length <;> by_cases h3 : 0 ≤ q.2.1 <;> by_cases h4 : q.2.1 < hs.length <;> by_cases h5 : q.1 = q.2.1 <;> simp [h1, h2, h3, h4, h5]
theorem f62_eq (N : Nat) (q : Cn) (hs : List Span) (ps : List Pr) (cs : List Cn) (ss : List Sg) (hN : 100 ≤ N) (hn : hs.length < 1000000) : f62 N q.1 q.2.1 q.2.2 hs ps cs ss = some (!decide (okCn hs.length q), hs, ps, cs, ss) := by
 unfold f62
 rw [f60_eq N _ _ _ _ _ hN (by simp) hn, f24_eq N _ _ _ (by simp; omega) (by simp)]
 simp only [andThen_some, List.all_cons, List.all_nil, inB, Bool.and_true]
 have e : ∀ x : Int, decide (x ≤ (hs.length : Int) - 1) = decide (x < (hs.length : Int)) := fun x => by rw [decide_eq_decide]; omega
 simp only [e, okCn]
 by_cases h1 : 0 ≤ q.1 <;> by_cases h2 : q.1 < hs.length <;> simp [*]
theorem f25_eq (N : Nat) (w : Span) (hN : 100 ≤ N) : f25 N w.1 w.2 = some (decide (okWr w)) := by
 unfold f25
 rw [f24_eq N _ _ _ (by simp; omega) (by simp)]
 simp only [andThen_some, List.all_cons, List.all_nil, inB, Bool.and_true]
 by_cases h1 : 0 ≤ w.1 <;> by_cases h2 : w.1 ≤ 1000 <;> by_cases h3 : 0 ≤ w.2 <;> by_cases h4 : w.2 ≤ 1000 <;> by_cases h5 : w.1 < w.2 <;> simp [okWr, h1, h2, h3, h4, h5] <;> omega
theorem f63_eq (N : Nat) (q : Sg) (hs : List Span) (ps : List Pr) (cs : List Cn) (ss : List Sg) (hN : 100 ≤ N) (hn : hs.length < 1000000) : f63 N q.1 q.2.1.1 q.2.1.2 q.2.2 hs ps cs ss = some (!decide (okSg hs.length q), hs, ps, cs, ss) := by
 unfold f63
 rw [f60_eq N _ _ _ _ _ hN (by simp) hn, f25_eq N _ hN]
 simp only [andThen_some, List.all_cons, List.all_nil, inB, Bool.and_true]
 have e : ∀ x : Int, decide (x ≤ (hs.length : Int) - 1) = decide (x < (hs.length : Int)) := fun x => by rw [decide_eq_decide]; omega
 simp only [e, okSg]
 by_cases h1 : 0 ≤ q.1 <;> by_cases h2 : q.1 < hs.length <;> by_cases h3 : okWr q.2.1 <;> by_cases h4 : q.2.2 < 1 <;> by_cases h5 : q.2.2 > 3 <;> simp [h1, h2, h3, h4, h5] <;> omega
theorem any_all {α : Type} (l : List α) (P : α → Prop) [DecidablePred P] : (l.any fun x => !decide (P x)) = !decide (∀ x ∈ l, P x) := by
 rw [Bool.eq_iff_iff]
 simp
theorem f64_eq (N : Nat) (hs : List Span) (hN : 100 ≤ N) (hn : hs.length < 100) : f64 N hs = some (!decide (∀ s ∈ hs, okSp s)) := by
 unfold f64 f77
 rcases searchL hs ((0 : Int), (0 : Int)) (fun s => !decide (okSp s)) (fun q i => f77l0 N q hs (hs.length : Int) (i : Int)) (fun i => .inl (i : Int)) (.inr ()) (fun q i hi => by
  show f77l0B N (f77l0 N q) hs (hs.length : Int) (i : Int) = _
  unfold f77l0B
  simp only [show ((i : Int) < (hs.length : Int)) by omega, Int.natCast_nonneg, decide_true, Bool.and_true, if_true, Int.toNat_natCast, w_succ (show i < 4611686018427387904 by omega), f59_eq N _ hN, andThen_some]) (fun q => by
  show f77l0B N (f77l0 N q) hs (hs.length : Int) (hs.length : Int) = _
  unfold f77l0B
  rw [if_neg (by simp)]) N (by omega) with ⟨i, hi', ha, hr⟩ | ⟨ha, hr⟩
 ·have hr : f77l0 N N hs (hs.length : Int) 0 = some (.inl (i : Int)) := hr
  rw [hr, ← any_all, ha]; simp
 ·have hr : f77l0 N N hs (hs.length : Int) 0 = some (.inr ()) := hr
  rw [hr, ← any_all, ha]; rfl
theorem f65_eq (N : Nat) (l : List Pr) (hs : List Span) (ps : List Pr) (cs : List Cn) (ss : List Sg) (hN : 100 ≤ N) (hn : hs.length < 100) (hl : l.length < 100) : f65 N l hs ps cs ss = some (!decide (∀ q ∈ l, okPr hs.length q), hs, ps, cs, ss) := by
 unfold f65 f78
 rcases searchL l ((0 : Int), ((0 : Int), (0 : Int))) (fun s => !decide (okPr hs.length s)) (fun q i => f78l0 N q l (l.length : Int) (i : Int) hs ps cs ss) (fun i => .inl ((i : Int), hs, ps, cs, ss)) (.inr (hs, ps, cs, ss)) (fun q i hi => by
  show f78l0B N (f78l0 N q) l (l.length : Int) (i : Int) hs ps cs ss = _
  unfold f78l0B
  simp only [show ((i : Int) < (l.length : Int)) by omega, Int.natCast_nonneg, decide_true, Bool.and_true, if_true, Int.toNat_natCast, w_succ (show i < 4611686018427387904 by omega), f61_eq N _ _ _ _ _ hN (show hs.length < 1000000 by omega), andThen_some]) (fun q => by
  show f78l0B N (f78l0 N q) l (l.length : Int) (l.length : Int) hs ps cs ss = _
  unfold f78l0B
  rw [if_neg (by simp)]) N (by omega) with ⟨i, hi', ha, hr⟩ | ⟨ha, hr⟩
 ·have hr : f78l0 N N l (l.length : Int) 0 hs ps cs ss = some (.inl ((i : Int), hs, ps, cs, ss)) := hr
  rw [hr, ← any_all, ha]; simp
 ·have hr : f78l0 N N l (l.length : Int) 0 hs ps cs ss = some (.inr (hs, ps, cs, ss)) := hr
  rw [hr, ← any_all, ha]; rfl
theorem f66_eq (N : Nat) (l : List Cn) (hs : List Span) (ps : List Pr) (cs : List Cn) (ss : List Sg) (hN : 100 ≤ N) (hn : hs.length < 100) (hl : l.length < 100) : f66 N l hs ps cs ss = some (!decide (∀ q ∈ l, okCn hs.length q), hs, ps, cs, ss) := by
 unfold f66 f79
 rcases searchL l ((0 : Int), ((0 : Int), false)) (fun s => !decide (okCn hs.length s)) (fun q i => f79l0 N q l (l.length : Int) (i : Int) hs ps cs ss) (fun i => .inl ((i : Int), hs, ps, cs, ss)) (.inr (hs, ps, cs, ss)) (fun q i hi => by
  show f79l0B N (f79l0 N q) l (l.length : Int) (i : Int) hs ps cs ss = _
  unfold f79l0B
  simp only [show ((i : Int) < (l.length : Int)) by omega, Int.natCast_nonneg, decide_true, Bool.and_true, if_true, Int.toNat_natCast, w_succ (show i < 4611686018427387904 by omega), f62_eq N _ _ _ _ _ hN (show hs.length < 1000000 by omega), andThen_some]) (fun q => by
  show f79l0B N (f79l0 N q) l (l.length : Int) (l.length : Int) hs ps cs ss = _
  unfold f79l0B
  rw [if_neg (by simp)]) N (by omega) with ⟨i, hi', ha, hr⟩ | ⟨ha, hr⟩
 ·have hr : f79l0 N N l (l.length : Int) 0 hs ps cs ss = some (.inl ((i : Int), hs, ps, cs, ss)) := hr
  rw [hr, ← any_all, ha]; simp
 ·have hr : f79l0 N N l (l.length : Int) 0 hs ps cs ss = some (.inr (hs, ps, cs, ss)) := hr
  rw [hr, ← any_all, ha]; rfl
theorem f67_eq (N : Nat) (l : List Sg) (hs : List Span) (ps : List Pr) (cs : List Cn) (ss : List Sg) (hN : 100 ≤ N) (hn : hs.length < 100) (hl : l.length < 100) : f67 N l hs ps cs ss = some (!decide (∀ q ∈ l, okSg hs.length q), hs, ps, cs, ss) := by
 unfold f67 f80
 rcases searchL l ((0 : Int), (((0 : Int), (0 : Int)), (0 : Int))) (fun s => !decide (okSg hs.length s)) (fun q i => f80l0 N q l (l.length : Int) (i : Int) hs ps cs ss) (fun i => .inl ((i : Int), hs, ps, cs, ss)) (.inr (hs, ps, cs, ss)) (fun q i hi => by
  show f80l0B N (f80l0 N q) l (l.length : Int) (i : Int) hs ps cs ss = _
  unfold f80l0B
  simp only [show ((i : Int) < (l.length : Int)) by omega, Int.natCast_nonneg, decide_true, Bool.and_true, if_true, Int.toNat_natCast, w_succ (show i < 4611686018427387904 by omega), f63_eq N _ _ _ _ _ hN (show hs.length < 1000000 by omega), andThen_some]) (fun q => by
  show f80l0B N (f80l0 N q) l (l.length : Int) (l.length : Int) hs ps cs ss = _
  unfold f80l0B
  rw [if_neg (by simp)]) N (by omega) with ⟨i, hi', ha, hr⟩ | ⟨ha, hr⟩
 ·have hr : f80l0 N N l (l.length : Int) 0 hs ps cs ss = some (.inl ((i : Int), hs, ps, cs, ss)) := hr
  rw [hr, ← any_all, ha]; simp
 ·have hr : f80l0 N N l (l.length : Int) 0 hs ps cs ss = some (.inr (hs, ps, cs, ss)) := hr
  rw [hr, ← any_all, ha]; rfl
def chk (hs : List Span) (ps : List Pr) (cs : List Cn) (ss : List Sg) : Int :=
 if ¬ (1 ≤ hs.length ∧ hs.length ≤ 5) then 4 else if ¬ (∀ s ∈ hs, okSp s) then 4
 else if ¬ (ps.length ≤ 8) then 5 else if ¬ (cs.length ≤ 6) then 5 else if ¬ (ss.length ≤ 4) then 5
 else if ¬ (∀ q ∈ ps, okPr hs.length q) then 2 else if ¬ (∀ c ∈ cs, okCn hs.length c) then 2 else if ¬ (∀ s ∈ ss, okSg hs.length s) then 2 else 0
theorem f44_eq (N : Nat) (hs : List Span) (ps : List Pr) (cs : List Cn) (ss : List Sg) (hN : 100 ≤ N) (h1 : hs.length < 100) (h2 : ps.length < 100) (h3 : cs.length < 100) (h4 : ss.length < 100) : f44 N hs ps cs ss = some (chk hs ps cs ss) := by
 unfold f44 chk
 rw [f24_eq N _ _ _ (by simp; omega) (by simp), f64_eq N hs hN h1, f65_eq N ps hs ps cs ss hN h1 h2]
 simp only [andThen_some, f66_eq N cs hs ps cs ss hN h1 h3, f67_eq N ss hs ps cs ss hN h1 h4, List.all_cons, List.all_nil, inB, Bool.and_true]
 have d1 : decide ((ps.length : Int) > 8) = !decide (ps.length ≤ 8) := by rw [← decide_not, decide_eq_decide]; omega
 have d2 : decide ((cs.length : Int) > 6) = !decide (cs.length ≤ 6) := by rw [← decide_not, decide_eq_decide]; omega
 have d3 : decide ((ss.length : Int) > 4) = !decide (ss.length ≤ 4) := by rw [← decide_not, decide_eq_decide]; omega
 have d4 : (decide ((1 : Int) ≤ (hs.length : Int)) && decide ((hs.length : Int) ≤ 5)) = decide (1 ≤ hs.length ∧ hs.length ≤ 5) := by rw [← Bool.decide_and, decide_eq_decide]; omega
 rw [d1, d2, d3, d4]
 have ifn : ∀ (P : Prop) [Decidable P] (a b : Int), (if ¬ P then a else b) = (if (!decide P) = true then a else b) := fun P _ a b => by by_cases h : P <;> simp [h]
 simp only [ifn]
 generalize decide (1 ≤ hs.length ∧ hs.length ≤ 5) = b1
 generalize decide (∀ s ∈ hs, okSp s) = b2
 generalize decide (ps.length ≤ 8) = b3
 generalize decide (cs.length ≤ 6) = b4
 generalize decide (ss.length ≤ 4) = b5
 generalize decide (∀ q ∈ ps, okPr hs.length q) = b6
 generalize decide (∀ q ∈ cs, okCn hs.length q) = b7
 generalize decide (∀ q ∈ ss, okSg hs.length q) = b8
 cases b1 <;> cases b2 <;> cases b3 <;> cases b4 <;> cases b5 <;> cases b6 <;> cases b7 <;> cases b8 <;> rfl
theorem badSp_eq {R : Type} (s : Span) (a b : R) : (if (!inB 0 s.2 s.1) = false then (if decide (s.2 > 1000) = true then a else b) else a) = if (!decide (okSp s)) = true then a else b := by
 by_cases h1 : 0 ≤ s.1 ∧ s.1 ≤ s.2
 ·have e : inB 0 s.2 s.1 = true := by simp [inB, h1]
  rw [e, if_pos (show (!true) = false from rfl)]
  by_cases h3 : s.2 > 1000
  ·rw [if_pos (decide_eq_true h3), if_pos (by rw [decide_eq_false (by unfold okSp; omega)]; rfl)]
  ·rw [if_neg (fun h => h3 (of_decide_eq_true h)), if_neg (by rw [decide_eq_true (by unfold okSp; omega)]; decide)]
 ·have e : inB 0 s.2 s.1 = false := by
   rw [inB, ← Bool.decide_and]; exact decide_eq_false h1
  rw [e, if_neg (show ¬ (!false) = false by decide), if_pos (by rw [decide_eq_false (by unfold okSp; omega)]; rfl)]
structure Valid (hs : List Span) (ps : List Pr) (cs : List Cn) (ss : List Sg) : Prop where
 n1 : 1 ≤ hs.length
 n5 : hs.length ≤ 5
 h : ∀ s ∈ hs, okSp s
 p8 : ps.length ≤ 8
 c6 : cs.length ≤ 6
 s4 : ss.length ≤ 4
 p : ∀ q ∈ ps, okPr hs.length q
 c : ∀ c ∈ cs, okCn hs.length c
 s : ∀ s ∈ ss, okSg hs.length s
theorem chk_valid {hs : List Span} {ps : List Pr} {cs : List Cn} {ss : List Sg} : chk hs ps cs ss = 0 ↔ Valid hs ps cs ss := by
 unfold chk
 constructor
 ·intro h
  split at h; cases h
  split at h; cases h
  split at h; cases h
  split at h; cases h
  split at h; cases h
  split at h; cases h
  split at h; cases h
  split at h; cases h
  rename_i a b c d e f g i
  have a := Classical.not_not.1 a
  exact ⟨a.1, a.2, Classical.not_not.1 b, Classical.not_not.1 c, Classical.not_not.1 d, Classical.not_not.1 e, Classical.not_not.1 f, Classical.not_not.1 g, Classical.not_not.1 i⟩
 ·intro h
  rw [if_neg (not_not_intro ⟨h.n1, h.n5⟩), if_neg (not_not_intro h.h), if_neg (not_not_intro h.p8), if_neg (not_not_intro h.c6), if_neg (not_not_intro h.s4), if_neg (not_not_intro h.p), if_neg (not_not_intro h.c), if_neg (not_not_intro h.s)]
end Go.Pl


namespace Go.Pl
open Go.Al Go.Proofs
theorem loop_all {R : Type} (L : Nat → Nat → Option R) (n : Nat) (r : R) (step : ∀ q i, i < n → L (q + 1) i = L q (i + 1)) (stop : ∀ q, L (q + 1) n = some r) (N : Nat) (hN : n < N) : L N 0 = some r := by
 obtain ⟨r', h1, h2⟩ := loop_run L (fun i => i ≤ n) (fun i => n - i) (fun x => x = r) (fun q i hi => by
  by_cases h : i < n
  ·right; exact ⟨i + 1, h, by omega, step q i h⟩
  ·left
   have : i = n := by omega
   subst this
   exact ⟨r, stop q, rfl⟩) N 0 (Nat.zero_le _) (by simpa using hN)
 rw [h2] at h1; exact h1
end Go.Pl


namespace Go.Pl
open Go.Al Go.Proofs
theorem dd {p q : Prop} [Decidable p] [Decidable q] (hp : p) (hq : q) : (decide p && decide q) = true := by simp [hp, hq]
theorem d1 {p : Prop} [Decidable p] (hp : p) : decide p = true := decide_eq_true hp
theorem dn {p : Prop} [Decidable p] (hp : ¬ p) : ¬ decide p = true := by simp [hp]
theorem take_getL {α : Type} (l : List α) (d : α) {i : Nat} (hi : i < l.length) : l.take (i + 1) = l.take i ++ [l.getD i d] := by
 rw [List.getD_eq_getElem?_getD, List.getElem?_eq_getElem hi, Option.getD_some, List.take_append_getElem]
theorem ble_b {a b : Nat} (h : a + b ≤ 1000000) : Nat.ble (a + b) boundLen = true := by rw [Nat.ble_eq]; unfold boundLen; omega
theorem acc_run {S R : Type} (L : Nat → Nat → S → Option R) (n : Nat) (a : Nat → S) (r : R) (step : ∀ q i, i < n → L (q + 1) i (a i) = L q (i + 1) (a (i + 1))) (stop : ∀ q, L (q + 1) n (a n) = some r) (N : Nat) (hN : n < N) : L N 0 (a 0) = some r := by
 obtain ⟨r', h1, h2⟩ := loop_run (fun q i => L q i (a i)) (fun i => i ≤ n) (fun i => n - i) (fun x => x = r) (fun q i hi => by
  by_cases h : i < n
  ·right; exact ⟨i + 1, h, by omega, step q i h⟩
  ·left
   have : i = n := by omega
   subst this
   exact ⟨r, stop q, rfl⟩) N 0 (Nat.zero_le _) (by simpa using hN)
 rw [h2] at h1; exact h1
abbrev LP := Int × (Int × Int)
abbrev Mp := List ((Int × Int) × Int)
theorem f43_eq (N : Nat) (x lo hi : Int) : f43 N x lo hi = some (!inB lo hi x, lo, hi) := by
 unfold f43 inB
 by_cases h : x < lo
 ·have : ¬ lo ≤ x := by omega
  simp [h, this]
 ·have h' : lo ≤ x := by omega
  have e : decide (x > hi) = !decide (x ≤ hi) := by rw [← decide_not, decide_eq_decide]; omega
  simp [h, h', e]
theorem f58_eq (N : Nat) (l : List Int) (lo hi : Int) (hN : l.length < N) (hl : l.length < 1000000) : ∃ r, f58 N l lo hi = some (r, lo, hi) ∧ decide (r ≥ 0) = l.any fun n => !inB lo hi n := by
 unfold f58
 rcases searchL l (0 : Int) (fun n => !inB lo hi n) (fun q i => f58l0 N q l (l.length : Int) (i : Int) lo hi) (fun i => .inl ((i : Int), lo, hi)) (.inr (lo, hi)) (fun q i hi' => by
  show f58l0B N (f58l0 N q) l (l.length : Int) (i : Int) lo hi = _
  unfold f58l0B
  simp only [show ((i : Int) < (l.length : Int)) by omega, Int.natCast_nonneg, decide_true, Bool.and_true, if_true, Int.toNat_natCast, w_succ (show i < 4611686018427387904 by omega), f43_eq, andThen_some]) (fun q => by
  show f58l0B N (f58l0 N q) l (l.length : Int) (l.length : Int) lo hi = _
  unfold f58l0B
  rw [if_neg (by simp)]) N hN with ⟨i, hi', ha, hr⟩ | ⟨ha, hr⟩
 ·have hr : f58l0 N N l (l.length : Int) 0 lo hi = some (.inl ((i : Int), lo, hi)) := hr
  exact ⟨i, by rw [hr]; rfl, by rw [ha]; simp⟩
 ·have hr : f58l0 N N l (l.length : Int) 0 lo hi = some (.inr (lo, hi)) := hr
  exact ⟨-1, by rw [hr]; rfl, by rw [ha]; rfl⟩
theorem f20_eq (N : Nat) (l : List Int) (lo hi : Int) (hN : l.length < N) (hl : l.length < 1000000) : f20 N lo hi l = some (l.all (inB lo hi)) := by
 obtain ⟨r, h1, h2⟩ := f58_eq N l lo hi hN hl
 unfold f20 f42
 rw [h1, andThen_some, andThen_some, h2]
 simp [List.all_eq_not_any_not]
theorem inB_iff {lo hi x : Int} : inB lo hi x = true ↔ lo ≤ x ∧ x ≤ hi := by unfold inB; simp
theorem eqK_T0 (a b : Int × Int) : eqK T0 a b = (a.1 == b.1 && a.2 == b.2) := rfl
def mi (ps : List LP) (i : Nat) : Mp := (ps.take i).foldl (fun m p => mput T0 (p.1, p.2.1) p.2.2 m) []
def mmap (ps : List LP) : Mp := mi ps ps.length
theorem mi_succ {ps : List LP} {i : Nat} (hi : i < ps.length) : mi ps (i + 1) = mput T0 ((ps.getD i (0, (0, 0))).1, (ps.getD i (0, (0, 0))).2.1) (ps.getD i (0, (0, 0))).2.2 (mi ps i) := by
 unfold mi
 rw [take_getL ps (0, (0, 0)) hi, List.foldl_append]; rfl
theorem f38_eq (N : Nat) (ws : List Int) (ps : List LP) (a b c : Int) (hN : 100 ≤ N) (hl : ps.length < 100) : f38 N ws ps a b c = some (mmap ps) := by
 have h := acc_run (fun q i (m : Mp) => f38l0 N q ps (ps.length : Int) (i : Int) m) ps.length (mi ps) (mmap ps) (fun q i hi => by
  show f38l0B N (f38l0 N q) ps (ps.length : Int) (i : Int) (mi ps i) = _
  unfold f38l0B
  rw [if_pos (d1 (by omega)), if_pos (dd (by omega) (by omega)), w_succ (by omega)]
  simp only [Int.toNat_natCast]
  rw [mi_succ hi]; rfl) (fun q => by
  show f38l0B N (f38l0 N q) ps (ps.length : Int) (ps.length : Int) (mi ps ps.length) = _
  unfold f38l0B
  rw [if_neg (by simp)]; rfl) N (by omega)
 have h : f38l0 N N ps (ps.length : Int) 0 [] = some (mmap ps) := h
 unfold f38
 rw [h]; rfl
theorem mem_mput {k : Int × Int} {v : Int} : ∀ {m : Mp} {e : (Int × Int) × Int}, e ∈ mput T0 k v m → e ∈ m ∨ e = (k, v)
 | [], e, h => by simp [mput] at h; exact .inr h
 | x :: r, e, h => by
  unfold mput at h
  cases hb : eqK T0 k x.1 with
  | true =>
   rw [hb] at h
   rcases List.mem_cons.1 h with h | h
   ·right
    have : k = x.1 := eqK_eq hb
    rw [h, this]
   ·exact .inl (List.mem_cons_of_mem _ h)
  | false =>
   rw [hb] at h
   rcases List.mem_cons.1 h with h | h
   ·exact .inl (by rw [h]; exact List.mem_cons_self)
   ·rcases mem_mput h with h | h
    ·exact .inl (List.mem_cons_of_mem _ h)
    ·exact .inr h
theorem mi_mem {ps : List LP} : ∀ {i : Nat}, i ≤ ps.length → ∀ e ∈ mi ps i, ∃ p ∈ ps, e = ((p.1, p.2.1), p.2.2)
 | 0, _, e, h => by simp [mi] at h
 | i + 1, hi, e, h => by
  rw [mi_succ (by omega)] at h
  rcases mem_mput h with h | h
  ·exact mi_mem (by omega) e h
  ·exact ⟨_, getD_mem (d := (0, (0, 0))) (by omega), h⟩
theorem mget_or {k : Int × Int} : ∀ {m : Mp}, mget T0 k 0 m = 0 ∨ ∃ e ∈ m, e.1 = k ∧ mget T0 k 0 m = e.2
 | [] => .inl rfl
 | x :: r => by
  unfold mget
  cases hb : eqK T0 k x.1 with
  | true => exact .inr ⟨x, List.mem_cons_self, (eqK_eq hb).symm, rfl⟩
  | false =>
   rcases mget_or (k := k) (m := r) with h | ⟨e, h1, h2, h3⟩
   ·exact .inl h
   ·exact .inr ⟨e, List.mem_cons_of_mem _ h1, h2, h3⟩
theorem len_mput {k : Int × Int} {v : Int} : ∀ {m : Mp}, (∀ e ∈ m, e.1 ≠ k) → (mput T0 k v m).length = m.length + 1
 | [], _ => rfl
 | x :: r, h => by
  unfold mput
  cases hb : eqK T0 k x.1 with
  | true => exact absurd (eqK_eq hb).symm (h x List.mem_cons_self)
  | false =>
   show (x :: mput T0 k v r).length = _
   rw [List.length_cons, List.length_cons, len_mput fun e he => h e (List.mem_cons_of_mem _ he)]
def NoTwice (ps : List LP) : Prop := ∀ i j, i < j → j < ps.length → ¬ ((ps.getD i (0, (0, 0))).1 = (ps.getD j (0, (0, 0))).1 ∧ (ps.getD i (0, (0, 0))).2.1 = (ps.getD j (0, (0, 0))).2.1)
theorem mi_keys {ps : List LP} : ∀ {i : Nat}, i ≤ ps.length → ∀ e ∈ mi ps i, ∃ j, j < i ∧ e.1 = ((ps.getD j (0, (0, 0))).1, (ps.getD j (0, (0, 0))).2.1)
 | 0, _, e, h => by simp [mi] at h
 | i + 1, hi, e, h => by
  rw [mi_succ (by omega)] at h
  rcases mem_mput h with h | h
  ·obtain ⟨j, h1, h2⟩ := mi_keys (by omega) e h
   exact ⟨j, by omega, h2⟩
  ·exact ⟨i, by omega, by rw [h]⟩
theorem mi_len {ps : List LP} (h : NoTwice ps) : ∀ {i : Nat}, i ≤ ps.length → (mi ps i).length = i
 | 0, _ => by simp [mi]
 | i + 1, hi => by
  rw [mi_succ (by omega), len_mput, mi_len h (by omega)]
  intro e he e2
  obtain ⟨j, h1, h2⟩ := mi_keys (by omega) e he
  rw [h2] at e2
  simp only [Prod.mk.injEq] at e2
  exact h j i h1 (by omega) e2
structure LV (ws : List Int) (ps : List LP) (rim least blank : Int) : Prop where
 n1 : 1 ≤ ws.length
 n8 : ws.length ≤ 8
 w : ∀ x ∈ ws, 1 ≤ x ∧ x ≤ 30
 r : 0 ≤ rim ∧ rim ≤ 20
 l : 0 ≤ least ∧ least ≤ 10
 b : 0 ≤ blank ∧ blank ≤ 30
 pl : ps.length ≤ 10
 p : ∀ q ∈ ps, 0 ≤ q.1 ∧ q.1 < ws.length ∧ 0 ≤ q.2.1 ∧ q.2.1 < ws.length ∧ -5 ≤ q.2.2 ∧ q.2.2 ≤ 5
 nt : NoTwice ps
theorem allB {l : List Int} {lo hi : Int} (h : ∀ x ∈ l, lo ≤ x ∧ x ≤ hi) : l.all (inB lo hi) = true := by
 rw [List.all_eq_true]; intro x hx; exact inB_iff.2 (h x hx)
theorem f56_ok (N : Nat) {ws : List Int} {ps : List LP} {rim least blank : Int} (hN : 100 ≤ N) (v : LV ws ps rim least blank) : f56 N ps ws ps rim least blank = some (false, ws, ps, rim, least, blank) := by
 have n8 := v.n8; have n1 := v.n1; have hpl := v.pl
 have h : f76l0 N N ps (ps.length : Int) 0 ws ps rim least blank = some (.inr (ws, ps, rim, least, blank)) :=
  loop_all (fun q i => f76l0 N q ps (ps.length : Int) (i : Int) ws ps rim least blank) ps.length _ (fun q i hi => by
   show f76l0B N (f76l0 N q) ps (ps.length : Int) (i : Int) ws ps rim least blank = _
   unfold f76l0B
   have hp := v.p _ (getD_mem (d := (0, (0, 0))) hi)
   simp only [Int.toNat_natCast]
   generalize List.getD ps i ((0 : Int), ((0 : Int), (0 : Int))) = z at *
   rw [if_pos (d1 (by omega)), if_pos (dd (by omega) (by omega))]
   unfold f55
   rw [w64_id (by omega) (by omega), f20_eq N _ _ _ (by simp; omega) (by simp), andThen_some, allB (by simp; omega), if_pos (by rfl), f20_eq N _ _ _ (by simp; omega) (by simp), andThen_some, allB (by simp; omega), andThen_some]
   simp only
   rw [if_neg (by simp), w_succ (by omega)]) (fun q => by
   show f76l0B N (f76l0 N q) ps (ps.length : Int) (ps.length : Int) ws ps rim least blank = _
   unfold f76l0B
   rw [if_neg (by simp)]) N (by omega)
 unfold f56 f76
 rw [h, andThen_some, either_inr, andThen_some]
 rfl
theorem f37_ok (N : Nat) {ws : List Int} {ps : List LP} {rim least blank : Int} (hN : 100 ≤ N) (v : LV ws ps rim least blank) : f37 N ws ps rim least blank = some 0 := by
 have n8 := v.n8; have n1 := v.n1; have hpl := v.pl; have hr := v.r; have hl := v.l; have hb := v.b
 unfold f37
 rw [f20_eq N _ _ _ (by simp; omega) (by simp), andThen_some, allB (by simp; omega), if_neg (by simp), f20_eq N _ _ _ (by omega) (by omega), andThen_some, allB v.w, if_neg (by simp), f20_eq N _ _ _ (by simp; omega) (by simp), andThen_some, allB (by simp; omega), if_neg (by simp),
  f20_eq N _ _ _ (by simp; omega) (by simp), andThen_some, allB (by simp; omega), if_neg (by simp), f20_eq N _ _ _ (by simp; omega) (by simp), andThen_some, allB (by simp; omega), if_neg (by simp), if_neg (by simp; omega), f56_ok N hN v, andThen_some]
 simp only
 rw [if_neg (by simp), f38_eq N _ _ _ _ _ hN (by omega), andThen_some, if_neg (by
  rw [mmap, mi_len v.nt (Nat.le_refl _)]; simp)]
structure WOk (n : Nat) (w : List Int) : Prop where
 l1 : 1 ≤ w.length
 l7 : w.length ≤ 7
 m : ∀ x ∈ w, 0 ≤ x ∧ x < n
theorem f41_ok (N : Nat) {ws : List Int} {ps : List LP} {rim least blank : Int} {w : List Int} {m : Mp} (hN : 100 ≤ N) (hn : ws.length ≤ 8) (h : WOk ws.length w) : f41 N ws ps rim least blank w 0 m = some (true, m) := by
 have h1 := h.l1; have h7 := h.l7
 unfold f41
 rw [f20_eq N _ _ _ (by simp; omega) (by simp), andThen_some, allB (by simp; omega), if_pos rfl, w64_id (by omega) (by omega), f20_eq N _ _ _ (by omega) (by omega), andThen_some, allB (fun x hx => by have := h.m x hx; omega)]
theorem f39_ok (N : Nat) {ws : List Int} {ps : List LP} {rim least blank : Int} {l : List (List Int)} {m : Mp} (hN : 100 ≤ N) (hn : ws.length ≤ 8) (hl : l.length < 50) (h : ∀ w ∈ l, WOk ws.length w) : f39 N l ws ps rim least blank m = some (false, ws, ps, rim, least, blank, m) := by
 have h : f57l0 N N l (l.length : Int) 0 ws ps rim least blank m = some (.inr (ws, ps, rim, least, blank, m)) :=
  loop_all (fun q i => f57l0 N q l (l.length : Int) (i : Int) ws ps rim least blank m) l.length _ (fun q i hi => by
   show f57l0B N (f57l0 N q) l (l.length : Int) (i : Int) ws ps rim least blank m = _
   unfold f57l0B f40
   simp only [Int.toNat_natCast]
   rw [if_pos (d1 (by omega)), if_pos (dd (by omega) (by omega)), f41_ok N hN hn (h _ (getD_mem hi)), andThen_some, andThen_some]
   simp only
   rw [if_neg (by simp), w_succ (by omega)]) (fun q => by
   show f57l0B N (f57l0 N q) l (l.length : Int) (l.length : Int) ws ps rim least blank m = _
   unfold f57l0B
   rw [if_neg (by simp)]) N (by omega)
 unfold f39 f57
 rw [h, andThen_some, either_inr, andThen_some]
 rfl
theorem f18_ok (N : Nat) {ws : List Int} {ps : List LP} {rim least blank : Int} {l : List (List Int)} (hN : 100 ≤ N) (v : LV ws ps rim least blank) (hl : l.length < 50) (h : ∀ w ∈ l, WOk ws.length w) : f18 N ws ps rim least blank l = some (.inr (ws, ps, rim, least, blank, 0, mmap ps)) := by
 unfold f18
 rw [f37_ok N hN v, andThen_some, if_neg (by simp), f38_eq N _ _ _ _ _ hN (by have := v.pl; omega), andThen_some, f39_ok N hN v.n8 hl h, andThen_some]
 simp only
 rw [if_neg (by simp)]
def lk (m : Mp) (a b : Int) : Int := mget T0 (a, b) 0 m
def loose (m : Mp) (w : List Int) (i : Nat) : List Int := (List.range i).map fun j => lk m (w.getD j 0) (w.getD (j + 1) 0)
def wsum (ws w : List Int) (i : Nat) : Int := ((w.take i).map fun x => ws.getD x.toNat 0).sum
def gsum (least : Int) (l : List Int) (i : Nat) : Int := ((l.take i).map fun x => if least - x > 0 then least - x else 0).sum
def MOk (m : Mp) : Prop := ∀ e ∈ m, -5 ≤ e.2 ∧ e.2 ≤ 5
theorem lk_bd {m : Mp} (h : MOk m) (a b : Int) : -5 ≤ lk m a b ∧ lk m a b ≤ 5 := by
 unfold lk
 rcases mget_or (k := (a, b)) (m := m) with e | ⟨x, h1, _, h3⟩
 ·rw [e]; omega
 ·rw [h3]; exact h x h1
theorem LV.mok {ws : List Int} {ps : List LP} {rim least blank : Int} (v : LV ws ps rim least blank) : MOk (mmap ps) := fun e he => by
 obtain ⟨p, h1, h2⟩ := mi_mem (Nat.le_refl _) e he
 have := v.p p h1
 rw [h2]; simp only; omega
theorem f34a_eq (N : Nat) (ws : List Int) (ps : List LP) (a b c : Int) (w : List Int) (m : Mp) (hN : 100 ≤ N) (h1 : 1 ≤ w.length) (hl : w.length ≤ 20) : f34a N ws ps a b c w m = some (loose m w (w.length - 1), m) := by
 have hW : Go.IntKind.wrap .i64 ((w.length : Int) - 1) = ((w.length - 1 : Nat) : Int) := by rw [w64_id (by omega) (by omega)]; omega
 have h := acc_run (fun q i (l : List Int) => f34al0 N q w l ((w.length - 1 : Nat) : Int) (i : Int) ws ps a b c m) (w.length - 1) (loose m w) (loose m w (w.length - 1), m) (fun q i hi => by
  show f34al0B N (f34al0 N q) w (loose m w i) ((w.length - 1 : Nat) : Int) (i : Int) ws ps a b c m = _
  unfold f34al0B
  have h2 : Go.IntKind.wrap .i64 ((i : Int) + 2) = ((i + 2 : Nat) : Int) := by rw [w64_id (by omega) (by omega)]; omega
  have hcut : cut w i (i + 2) = [w.getD i 0, w.getD (i + 1) 0] := by
   unfold cut
   have e1 : i < w.length := by omega
   have e2 : i + 1 < w.length := by omega
   rw [List.drop_eq_getElem_cons e1, List.drop_eq_getElem_cons e2, show i + 2 - i = 2 by omega, List.getD_eq_getElem?_getD, List.getD_eq_getElem?_getD, List.getElem?_eq_getElem e1, List.getElem?_eq_getElem e2]
   rfl
  simp only [h2, Int.toNat_natCast, hcut]
  rw [if_pos (d1 (by omega)), if_pos (by simp; omega), if_pos (by rfl), if_pos (ble_b (by simp [loose]; omega)), w_succ (by omega)]
  show f34al0 N q w (loose m w i ++ [lk m (w.getD i 0) (w.getD (i + 1) 0)]) _ _ ws ps a b c m = _
  have : loose m w (i + 1) = loose m w i ++ [lk m (w.getD i 0) (w.getD (i + 1) 0)] := by unfold loose; rw [List.range_succ, List.map_append]; rfl
  rw [this]) (fun q => by
  show f34al0B N (f34al0 N q) w (loose m w (w.length - 1)) ((w.length - 1 : Nat) : Int) ((w.length - 1 : Nat) : Int) ws ps a b c m = _
  unfold f34al0B
  rw [if_neg (by simp)]) N (by omega)
 have h : f34al0 N N w [] ((w.length - 1 : Nat) : Int) 0 ws ps a b c m = some (loose m w (w.length - 1), m) := h
 unfold f34a
 rw [hW, h]; rfl
theorem wsum_succ {ws w : List Int} {i : Nat} (hi : i < w.length) : wsum ws w (i + 1) = wsum ws w i + ws.getD (w.getD i 0).toNat 0 := by
 unfold wsum; rw [take_getL w 0 hi]; simp
theorem gsum_succ {least : Int} {l : List Int} {i : Nat} (hi : i < l.length) : gsum least l (i + 1) = gsum least l i + (if least - l.getD i 0 > 0 then least - l.getD i 0 else 0) := by
 unfold gsum; rw [take_getL l 0 hi]; simp
theorem wsum_bd {ws w : List Int} (h : ∀ x ∈ ws, 1 ≤ x ∧ x ≤ 30) (hw : ∀ x ∈ w, 0 ≤ x ∧ x < ws.length) : ∀ {i : Nat}, i ≤ w.length → (i : Int) ≤ wsum ws w i ∧ wsum ws w i ≤ 30 * (i : Int)
 | 0, _ => by simp [wsum]
 | i + 1, hi => by
  have ih := wsum_bd h hw (i := i) (by omega)
  rw [wsum_succ (by omega)]
  have h1 := hw _ (getD_mem (d := 0) (show i < w.length by omega))
  have h2 := h _ (getD_mem (d := 0) (show (w.getD i 0).toNat < ws.length by omega))
  omega
theorem f30a_eq (N : Nat) (ws : List Int) (ps : List LP) (rim b c : Int) (w : List Int) (m : Mp) (hN : 100 ≤ N) (hr : 0 ≤ rim ∧ rim ≤ 20) (hl : w.length ≤ 20) (hws : ∀ x ∈ ws, 1 ≤ x ∧ x ≤ 30) (hw : ∀ x ∈ w, 0 ≤ x ∧ x < ws.length) : f30a N ws ps rim b c w m = some (2 * rim + wsum ws w w.length, m) := by
 have h := acc_run (fun q i (s : Int) => f30al0 N q s w (w.length : Int) (i : Int) ws ps rim b c m) w.length (fun i => 2 * rim + wsum ws w i) (2 * rim + wsum ws w w.length, m) (fun q i hi => by
  show f30al0B N (f30al0 N q) (2 * rim + wsum ws w i) w (w.length : Int) (i : Int) ws ps rim b c m = _
  unfold f30al0B
  have h1 := hw _ (getD_mem (d := 0) hi)
  have h2 := hws _ (getD_mem (d := 0) (show (w.getD i 0).toNat < ws.length by omega))
  have h3 := wsum_bd hws hw (i := i) (by omega)
  simp only [Int.toNat_natCast]
  rw [wsum_succ hi]
  generalize ws.getD (w.getD i 0).toNat 0 = z at *
  rw [if_pos (d1 (by omega)), if_pos (dd (by omega) (by omega)), if_pos (dd (by omega) (by omega)), w_succ (by omega), w64_id (by omega) (by omega)]
  show f30al0 N q (2 * rim + wsum ws w i + z) _ _ _ _ _ _ _ _ _ = _
  rw [Int.add_assoc]) (fun q => by
  show f30al0B N (f30al0 N q) (2 * rim + wsum ws w w.length) w (w.length : Int) (w.length : Int) ws ps rim b c m = _
  unfold f30al0B
  rw [if_neg (by simp)]) N (by omega)
 have h : f30al0 N N (2 * rim + wsum ws w 0) w (w.length : Int) 0 ws ps rim b c m = some (2 * rim + wsum ws w w.length, m) := h
 have h0 : wsum ws w 0 = 0 := by simp [wsum]
 rw [h0, Int.add_zero] at h
 unfold f30a
 rw [w64_id (by omega) (by omega), h]; rfl
theorem gsum_bd {least : Int} {l : List Int} (h0 : 0 ≤ least ∧ least ≤ 10) (hl : ∀ x ∈ l, -5 ≤ x ∧ x ≤ 5) : ∀ {i : Nat}, i ≤ l.length → 0 ≤ gsum least l i ∧ gsum least l i ≤ 15 * (i : Int)
 | 0, _ => by simp [gsum]
 | i + 1, hi => by
  have ih := gsum_bd h0 hl (i := i) (by omega)
  rw [gsum_succ (by omega)]
  have h1 := hl _ (getD_mem (d := 0) (show i < l.length by omega))
  split <;> omega
theorem loose_mem {m : Mp} (h : MOk m) {w : List Int} {i : Nat} : ∀ x ∈ loose m w i, -5 ≤ x ∧ x ≤ 5 := fun x hx => by
 unfold loose at hx
 obtain ⟨j, _, rfl⟩ := List.mem_map.1 hx
 exact lk_bd h _ _
def needN (ws : List Int) (rim least : Int) (m : Mp) (w : List Int) : Int := 2 * rim + wsum ws w w.length + gsum least (loose m w (w.length - 1)) (w.length - 1)
theorem loose_len (m : Mp) (w : List Int) (i : Nat) : (loose m w i).length = i := by unfold loose; simp
theorem f19a_eq (N : Nat) (ws : List Int) (ps : List LP) (rim least c : Int) (w : List Int) (m : Mp) (hN : 100 ≤ N) (hr : 0 ≤ rim ∧ rim ≤ 20) (h0 : 0 ≤ least ∧ least ≤ 10) (hm : MOk m) (h1 : 1 ≤ w.length) (hl : w.length ≤ 20) (hws : ∀ x ∈ ws, 1 ≤ x ∧ x ≤ 30) (hw : ∀ x ∈ w, 0 ≤ x ∧ x < ws.length) :
  f19a N ws ps rim least c w m = some (needN ws rim least m w, m) := by
 have hb := wsum_bd hws hw (Nat.le_refl w.length)
 have h := acc_run (fun q i (s : Int) => f19al0 N q s (loose m w (w.length - 1)) ((w.length - 1 : Nat) : Int) (i : Int) ws ps rim least c m) (w.length - 1) (fun i => 2 * rim + wsum ws w w.length + gsum least (loose m w (w.length - 1)) i) (needN ws rim least m w, m) (fun q i hi => by
  show f19al0B N (f19al0 N q) _ (loose m w (w.length - 1)) ((w.length - 1 : Nat) : Int) (i : Int) ws ps rim least c m = _
  unfold f19al0B
  have hll := loose_len m w (w.length - 1)
  have h2 := loose_mem hm (w := w) (i := w.length - 1) _ (getD_mem (d := 0) (show i < (loose m w (w.length - 1)).length by omega))
  have h3 := gsum_bd h0 (loose_mem hm (w := w) (i := w.length - 1)) (i := i) (by omega)
  simp only [Int.toNat_natCast]
  rw [gsum_succ (by omega)]
  generalize List.getD (loose m w (w.length - 1)) i 0 = z at *
  rw [if_pos (d1 (by omega)), if_pos (dd (by omega) (by rw [hll]; omega)), w_succ (by omega), w64_id (z := least - z) (by omega) (by omega)]
  rw [w64_id (by split <;> omega) (by split <;> omega), Int.add_assoc]) (fun q => by
  show f19al0B N (f19al0 N q) _ (loose m w (w.length - 1)) ((w.length - 1 : Nat) : Int) ((w.length - 1 : Nat) : Int) ws ps rim least c m = _
  unfold f19al0B
  rw [if_neg (by simp)]; rfl) N (by omega)
 have h : f19al0 N N (2 * rim + wsum ws w w.length + gsum least (loose m w (w.length - 1)) 0) (loose m w (w.length - 1)) ((w.length - 1 : Nat) : Int) 0 ws ps rim least c m = some (needN ws rim least m w, m) := h
 have hz : gsum least (loose m w (w.length - 1)) 0 = 0 := by simp [gsum]
 rw [hz, Int.add_zero] at h
 unfold f19a
 rw [f30a_eq N ws ps rim least c w m hN hr hl hws hw, andThen_some]
 simp only
 rw [f34a_eq N ws ps rim least c w m hN h1 hl, andThen_some]
 simp only
 rw [loose_len, h, andThen_some]
theorem needN_bd {ws : List Int} {ps : List LP} {rim least blank : Int} {w : List Int} (v : LV ws ps rim least blank) (h : WOk ws.length w) : 1 ≤ needN ws rim least (mmap ps) w ∧ needN ws rim least (mmap ps) w ≤ 340 := by
 have h1 := wsum_bd v.w h.m (Nat.le_refl w.length)
 have h2 := gsum_bd v.l (loose_mem v.mok (w := w) (i := w.length - 1)) (i := w.length - 1) (by rw [loose_len]; omega)
 have := v.r; have := h.l1; have := h.l7
 unfold needN
 omega
theorem f9_ok (N : Nat) {ws : List Int} {ps : List LP} {rim least blank : Int} {w : List Int} (hN : 100 ≤ N) (v : LV ws ps rim least blank) (h : WOk ws.length w) : f9 N ws ps rim least blank w = some (needN ws rim least (mmap ps) w, 0) := by
 unfold f9
 rw [f18_ok N hN v (by simp) (by simpa using h), andThen_some, either_inr]
 simp only
 rw [if_neg (by simp), f19a_eq N ws ps rim least blank w _ hN v.r v.l v.mok h.l1 (by have := h.l7; omega) v.w h.m, andThen_some]
end Go.Pl


namespace Go.Pl
open Go.Al Go.Proofs
theorem f8_eq (N : Nat) (l : List Int) (h1 : l.length < 1000) : f8 N l = some l := by
 unfold f8
 rw [if_pos (ble_b (by simp; omega))]
 rfl
theorem f7_eq (N : Nat) (ws : List Int) (ps : List LP) (a b c : Int) (h1 : ws.length < 1000) (h2 : ps.length < 1000) : f7 N ws ps a b c = some (ws, ps, a, b, c) := by
 unfold f7
 rw [f8_eq N ws h1, andThen_some, if_pos (ble_b (by simp; omega))]
 rfl
def byte (x : Int) : Prop := 0 ≤ x ∧ x ≤ 255
theorem w_byte {x : Int} (h : byte x) : Go.IntKind.wrap .i64 x = x := by unfold byte at h; exact w64_id (by omega) (by omega)
theorem tmod_pos {x : Int} (h : 0 ≤ x) (k : Int) : Int.tmod x k = x % k := Int.tmod_eq_emod_of_nonneg h
def wd (x : Int) : Int := Go.IntKind.wrap .i64 (1 + Int.tmod (Go.IntKind.wrap .i64 x) 18)
theorem wd_bd {x : Int} (h : byte x) : 1 ≤ wd x ∧ wd x ≤ 18 := by
 unfold wd
 have := h
 unfold byte at this
 rw [w_byte h, tmod_pos (by omega), w64_id (by omega) (by omega)]
 omega
theorem f5l0_eq (a0 a1 a2 a3 a4 a5 : Int) (l : List (Int × Int)) (b0 b1 b2 : Int) (r le bl : Int) : f5l0 50000 50000 0 a0 a1 a2 a3 a4 a5 l b0 b1 b2 ([] : List Int) ([] : List LP) 0 0 0 ([] : List Int) ([] : List LP) r le bl =
  some (a0, a1, a2, a3, a4, a5, l, b0, b1, b2, [], [], 0, 0, 0, [wd a0, wd a1, wd a2, wd a3, wd a4, wd a5], [], r, le, bl) := by kernel_rfl
def pr (x : Int × Int) : LP := (Int.tmod (Go.IntKind.wrap .i64 x.1) 6, (Int.tmod (Go.IntKind.wrap .i64 (Int.tdiv (Go.IntKind.wrap .i64 x.1) 6)) 6, Go.IntKind.wrap .i64 (Int.tmod (Go.IntKind.wrap .i64 x.2) 9 - 4)))
theorem pr_bd {x : Int × Int} (h1 : byte x.1) (h2 : byte x.2) : 0 ≤ (pr x).1 ∧ (pr x).1 < 6 ∧ 0 ≤ (pr x).2.1 ∧ (pr x).2.1 < 6 ∧ -4 ≤ (pr x).2.2 ∧ (pr x).2.2 ≤ 4 := by
 unfold pr
 have e1 := h1
 have e2 := h2
 unfold byte at e1 e2
 have ed : Int.tdiv x.1 6 = x.1 / 6 := Int.tdiv_eq_ediv_of_nonneg (by omega)
 simp only
 rw [w_byte h1, w_byte h2, ed, w64_id (z := x.1 / 6) (by omega) (by omega), tmod_pos (x := x.1) (by omega), tmod_pos (x := x.1 / 6) (by omega), tmod_pos (x := x.2) (by omega), w64_id (by omega) (by omega)]
 omega
structure PsOk (ps : List LP) (i : Nat) : Prop where
 len : ps.length ≤ i
 i8 : i ≤ 8
 p : ∀ q ∈ ps, 0 ≤ q.1 ∧ q.1 < 6 ∧ 0 ≤ q.2.1 ∧ q.2.1 < 6 ∧ -4 ≤ q.2.2 ∧ q.2.2 ≤ 4
 nt : NoTwice ps
def tw (ps : List LP) (a b : Int) (k : Nat) : Bool := (ps.take k).any fun q => q.1 == a && q.2.1 == b
theorem tw_succ {ps : List LP} {a b : Int} {k : Nat} (hk : k < ps.length) : tw ps a b (k + 1) = (tw ps a b k || ((ps.getD k (0, (0, 0))).1 == a && (ps.getD k (0, (0, 0))).2.1 == b)) := by
 unfold tw
 rw [take_getL ps (0, (0, 0)) hk, List.any_append]; simp
theorem f5l2_eq (N : Nat) (x0 a0 a1 a2 a3 a4 a5 : Int) (l : List (Int × Int)) (b0 b1 b2 : Int) (ws0 : List Int) (ps0 : List LP) (r0 l0 bl0 : Int) (ws : List Int) (ps : List LP) (r le bl a b c : Int) (hN : ps.length < N) (hl : ps.length < 100) :
  f5l2 N N x0 false 0 a0 a1 a2 a3 a4 a5 l b0 b1 b2 ws0 ps0 r0 l0 bl0 ws ps r le bl a b c = some (x0, tw ps a b ps.length, a0, a1, a2, a3, a4, a5, l, b0, b1, b2, ws0, ps0, r0, l0, bl0, ws, ps, r, le, bl, a, b, c) := by
 have h := acc_run (fun q i (t : Bool) => f5l2 N q x0 t (i : Int) a0 a1 a2 a3 a4 a5 l b0 b1 b2 ws0 ps0 r0 l0 bl0 ws ps r le bl a b c) ps.length (tw ps a b) (x0, tw ps a b ps.length, a0, a1, a2, a3, a4, a5, l, b0, b1, b2, ws0, ps0, r0, l0, bl0, ws, ps, r, le, bl, a, b, c) (fun q i hi => by
  show f5l2B N (f5l2 N q) x0 (tw ps a b i) (i : Int) a0 a1 a2 a3 a4 a5 l b0 b1 b2 ws0 ps0 r0 l0 bl0 ws ps r le bl a b c = _
  unfold f5l2B
  simp only [Int.toNat_natCast]
  rw [if_pos (d1 (by omega)), w_succ (by omega), tw_succ hi]
  have hc : (decide ((0 : Int) ≤ (i : Int)) && decide ((i : Int) < (ps.length : Int))) = true := dd (by omega) (by omega)
  cases ht : tw ps a b i with
  | true => rw [if_neg (by simp), Bool.true_or]
  | false =>
   rw [if_pos rfl, if_pos hc, Bool.false_or]
   cases h1 : ((List.getD ps i ((0 : Int), ((0 : Int), (0 : Int)))).1 == a) with
   | true => rw [if_pos rfl, if_pos hc, Bool.true_and]
   | false => rw [if_neg (by simp), Bool.false_and]) (fun q => by
  show f5l2B N (f5l2 N q) x0 (tw ps a b ps.length) (ps.length : Int) a0 a1 a2 a3 a4 a5 l b0 b1 b2 ws0 ps0 r0 l0 bl0 ws ps r le bl a b c = _
  unfold f5l2B
  rw [if_neg (by simp)]) N hN
 exact h
theorem PsOk.app {ps : List LP} {i : Nat} {x : Int × Int} (h : PsOk ps i) (hi : i < 8) (h1 : byte x.1) (h2 : byte x.2) (ht : tw ps (pr x).1 (pr x).2.1 ps.length = false) : PsOk (ps ++ [pr x]) (i + 1) := by
 have hl := h.len
 refine ⟨by simp; omega, hi, fun q hq => ?_, fun j k hjk hk => ?_⟩
 ·rcases List.mem_append.1 hq with hq | hq
  ·exact h.p q hq
  ·simp at hq; subst hq; exact pr_bd h1 h2
 ·have hg : ∀ j, j < ps.length → (ps ++ [pr x]).getD j (0, (0, 0)) = ps.getD j (0, (0, 0)) := fun j hj => by simp [List.getD_eq_getElem?_getD, List.getElem?_append_left hj]
  simp at hk
  by_cases e : k < ps.length
  ·rw [hg j (by omega), hg k e]; exact h.nt j k hjk e
  ·have : k = ps.length := by omega
   subst this
   rw [hg j hjk]
   have e2 : (ps ++ [pr x]).getD ps.length (0, (0, 0)) = pr x := by simp [List.getD_eq_getElem?_getD]
   rw [e2]
   rintro ⟨c1, c2⟩
   unfold tw at ht
   rw [List.take_length, List.any_eq_false] at ht
   exact ht _ (getD_mem hjk) (by rw [c1, c2]; simp)
theorem PsOk.mono {ps : List LP} {i : Nat} (h : PsOk ps i) (hi : i < 8) : PsOk ps (i + 1) := ⟨by have := h.len; omega, hi, h.p, h.nt⟩
theorem f5_ok (a0 a1 a2 a3 a4 a5 : Int) (l : List (Int × Int)) (b0 b1 b2 : Int) (h0 : byte a0) (h1 : byte a1) (h2 : byte a2) (h3 : byte a3) (h4 : byte a4) (h5 : byte a5) (hl : ∀ x ∈ l, byte x.1 ∧ byte x.2) (hb0 : byte b0) (hb1 : byte b1) (hb2 : byte b2) :
  ∃ ws ps rim least blank, f5 50000 a0 a1 a2 a3 a4 a5 l b0 b1 b2 = some (ws, ps, rim, least, blank) ∧ ws.length = 6 ∧ (∀ x ∈ ws, 1 ≤ x ∧ x ≤ 18) ∧ PsOk ps 8 ∧ 0 ≤ rim ∧ rim ≤ 7 ∧ 0 ≤ least ∧ least ≤ 4 ∧ 0 ≤ blank ∧ blank ≤ 14 := by
 have k0 := hb0; have k1 := hb1; have k2 := hb2
 unfold byte at k0 k1 k2
 have hr : ∃ res, f5l1 50000 50000 0 a0 a1 a2 a3 a4 a5 l b0 b1 b2 ([] : List Int) ([] : List LP) 0 0 0 [wd a0, wd a1, wd a2, wd a3, wd a4, wd a5] ([] : List LP) (b0 % 8) (b1 % 5) (b2 % 15) = some res ∧ ∃ ps, res = (([] : List Int), ([] : List LP), (0 : Int), (0 : Int), (0 : Int), [wd a0, wd a1, wd a2, wd a3, wd a4, wd a5], ps, b0 % 8, b1 % 5, b2 % 15) ∧ PsOk ps 8 := by
  refine loop_run (fun q (s : Nat × List LP) => f5l1 50000 q (s.1 : Int) a0 a1 a2 a3 a4 a5 l b0 b1 b2 ([] : List Int) ([] : List LP) 0 0 0 [wd a0, wd a1, wd a2, wd a3, wd a4, wd a5] s.2 (b0 % 8) (b1 % 5) (b2 % 15)) (fun s => s.1 ≤ l.length ∧ PsOk s.2 s.1) (fun s => 8 - s.1) _ (fun q s hs => ?_) 50000 (0, []) ⟨Nat.zero_le _, ⟨by simp, by simp, by simp, fun i j _ hj => by simp at hj⟩⟩ (by simp)
  obtain ⟨i, ps⟩ := s
  obtain ⟨hi, hp⟩ := hs
  simp only at hi hp ⊢
  have hl8 := hp.len; have h8 := hp.i8
  by_cases hlt : i < l.length
  ·by_cases hlt8 : i < 8
   ·right
    have hx := hl _ (getD_mem (d := ((0 : Int), (0 : Int))) hlt)
    have hpl := pr_bd hx.1 hx.2
    have hcond : (decide ((0 : Int) ≤ (i : Int)) && decide ((i : Int) < (l.length : Int))) = true := dd (by omega) (by omega)
    have hstep : f5l1 50000 (q + 1) (i : Int) a0 a1 a2 a3 a4 a5 l b0 b1 b2 ([] : List Int) ([] : List LP) 0 0 0 [wd a0, wd a1, wd a2, wd a3, wd a4, wd a5] ps (b0 % 8) (b1 % 5) (b2 % 15) =
      if (!tw ps (pr (l.getD i (0, 0))).1 (pr (l.getD i (0, 0))).2.1 ps.length) = true then f5l1 50000 q ((i + 1 : Nat) : Int) a0 a1 a2 a3 a4 a5 l b0 b1 b2 ([] : List Int) ([] : List LP) 0 0 0 [wd a0, wd a1, wd a2, wd a3, wd a4, wd a5] (ps ++ [pr (l.getD i (0, 0))]) (b0 % 8) (b1 % 5) (b2 % 15)
      else f5l1 50000 q ((i + 1 : Nat) : Int) a0 a1 a2 a3 a4 a5 l b0 b1 b2 ([] : List Int) ([] : List LP) 0 0 0 [wd a0, wd a1, wd a2, wd a3, wd a4, wd a5] ps (b0 % 8) (b1 % 5) (b2 % 15) := by
     show f5l1B 50000 (f5l1 50000 q) (i : Int) a0 a1 a2 a3 a4 a5 l b0 b1 b2 ([] : List Int) ([] : List LP) 0 0 0 [wd a0, wd a1, wd a2, wd a3, wd a4, wd a5] ps (b0 % 8) (b1 % 5) (b2 % 15) = _
     unfold f5l1B
     simp only [Int.toNat_natCast]
     rw [if_pos (d1 (by omega)), if_pos (d1 (by omega)), if_pos hcond, if_pos (by decide), if_pos (by decide), if_pos hcond, if_pos (by decide), if_pos (by decide), if_pos (by decide), if_pos hcond, if_pos (by decide), if_pos (by decide)]
     rw [f5l2_eq 50000 _ _ _ _ _ _ _ _ _ _ _ _ _ _ _ _ _ _ _ _ _ _ _ _ (by omega) (by omega), andThen_some]
     simp only
     rw [w_succ (by omega)]
     show (if (!tw ps (pr (l.getD i (0, 0))).1 (pr (l.getD i (0, 0))).2.1 ps.length) = true then _ else _) = _
     cases tw ps (pr (l.getD i (0, 0))).1 (pr (l.getD i (0, 0))).2.1 ps.length with
     | true => rfl
     | false =>
      rw [if_pos (by decide), if_pos (ble_b (by simp; omega))]; rfl
    cases ht : tw ps (pr (l.getD i (0, 0))).1 (pr (l.getD i (0, 0))).2.1 ps.length with
    | true => exact ⟨(i + 1, ps), ⟨hlt, hp.mono hlt8⟩, by simp only; omega, by rw [hstep, ht]; rfl⟩
    | false => exact ⟨(i + 1, _), ⟨hlt, hp.app hlt8 hx.1 hx.2 ht⟩, by simp only; omega, by rw [hstep, ht]; rfl⟩
   ·left
    have : i = 8 := by omega
    subst this
    refine ⟨_, ?_, ps, rfl, hp⟩
    show f5l1B 50000 (f5l1 50000 q) ((8 : Nat) : Int) a0 a1 a2 a3 a4 a5 l b0 b1 b2 ([] : List Int) ([] : List LP) 0 0 0 [wd a0, wd a1, wd a2, wd a3, wd a4, wd a5] ps (b0 % 8) (b1 % 5) (b2 % 15) = _
    unfold f5l1B
    rw [if_pos (d1 (by omega)), if_neg (by decide)]
  ·left
   have : i = l.length := by omega
   subst this
   refine ⟨_, ?_, ps, rfl, ⟨by omega, Nat.le_refl _, hp.p, hp.nt⟩⟩
   show f5l1B 50000 (f5l1 50000 q) (l.length : Int) a0 a1 a2 a3 a4 a5 l b0 b1 b2 ([] : List Int) ([] : List LP) 0 0 0 [wd a0, wd a1, wd a2, wd a3, wd a4, wd a5] ps (b0 % 8) (b1 % 5) (b2 % 15) = _
   unfold f5l1B
   rw [if_neg (by simp)]
 obtain ⟨res, e1, ps, rfl, hp⟩ := hr
 refine ⟨[wd a0, wd a1, wd a2, wd a3, wd a4, wd a5], ps, b0 % 8, b1 % 5, b2 % 15, ?_, rfl, ?_, hp, by omega, by omega, by omega, by omega, by omega, by omega⟩
 ·unfold f5
  rw [if_pos (by decide), if_pos (by decide), if_pos (by decide), if_pos (by decide), if_pos (by decide), if_pos (by decide), f5l0_eq, andThen_some]
  simp only
  rw [w_byte hb0, w_byte hb1, w_byte hb2, tmod_pos (by omega), tmod_pos (by omega), tmod_pos (by omega), e1, andThen_some]
 ·intro x hx
  simp only [List.mem_cons, List.not_mem_nil, or_false] at hx
  rcases hx with rfl | rfl | rfl | rfl | rfl | rfl <;> exact wd_bd ‹_›
theorem f6_ok (N : Nat) (l : List Int) (most : Nat) (hN : 100 ≤ N) (hm : most ≤ 7) (h1 : 1 ≤ most) (hl : ∀ x ∈ l, byte x) : ∃ w, f6 N l (most : Int) = some w ∧ 1 ≤ w.length ∧ w.length ≤ most ∧ ∀ x ∈ w, 0 ≤ x ∧ x < 6 := by
 obtain ⟨res, e1, e2, e3⟩ := loop_run (fun q (s : Nat × List Int) => f6l0 N q l (most : Int) s.2 (s.1 : Int)) (fun s => s.1 ≤ l.length ∧ s.1 ≤ most ∧ s.2.length = s.1 ∧ ∀ x ∈ s.2, 0 ≤ x ∧ x < 6) (fun s => most - s.1) (fun res => res.length ≤ most ∧ ∀ x ∈ res, 0 ≤ x ∧ x < 6) (fun q s hs => by
  obtain ⟨i, w⟩ := s
  obtain ⟨a1, a2, a3, a4⟩ := hs
  simp only at a1 a2 a3 a4 ⊢
  by_cases hi : i < l.length
  ·by_cases hi2 : i < most
   ·right
    have hx := hl _ (getD_mem (d := 0) hi)
    have hx' := hx
    unfold byte at hx'
    refine ⟨(i + 1, w ++ [l.getD i 0 % 6]), ⟨hi, hi2, by simp [a3], fun x hx2 => ?_⟩, by simp only; omega, ?_⟩
    ·rcases List.mem_append.1 hx2 with h | h
     ·exact a4 x h
     ·simp at h; subst h
      have : List.getD l i 0 = l[i]?.getD 0 := rfl
      omega
    ·show f6l0B N (f6l0 N q) l (most : Int) w (i : Int) = _
     unfold f6l0B
     simp only [Int.toNat_natCast]
     rw [if_pos (d1 (by omega)), if_pos (d1 (by omega)), if_pos (dd (by omega) (by omega)), if_pos (by decide), if_pos (ble_b (by simp; omega)), w_succ (by omega), w_byte hx, tmod_pos (by omega)]
   ·left
    refine ⟨w, ?_, by omega, a4⟩
    show f6l0B N (f6l0 N q) l (most : Int) w (i : Int) = _
    unfold f6l0B
    rw [if_pos (d1 (by omega)), if_neg (dn (by omega))]
  ·left
   refine ⟨w, ?_, by omega, a4⟩
   show f6l0B N (f6l0 N q) l (most : Int) w (i : Int) = _
   unfold f6l0B
   rw [if_neg (dn (by omega))]) N (0, []) ⟨Nat.zero_le _, Nat.zero_le _, rfl, by simp⟩ (by simp only; omega)
 have e1 : f6l0 N N l (most : Int) [] 0 = some res := e1
 unfold f6
 rw [e1, andThen_some]
 by_cases hz : res.length = 0
 ·exact ⟨[0], by rw [if_pos (by simp [hz])], by simp, by simpa using h1, by simp⟩
 ·exact ⟨res, by rw [if_neg (by simpa using hz)], by omega, e2, e3⟩
end Go.Pl


namespace Go.Pl
open Go.Al Go.Proofs
theorem f21_eq (N : Nat) (n : Int) (hN : 100 ≤ N) : f21 N [n] = some (decide (1 ≤ n) && decide (n ≤ 400)) := by
 unfold f21
 rw [f20_eq N _ _ _ (by simp; omega) (by simp), andThen_some]
 simp [inB]
theorem cut0 (w : List Int) (a : Nat) : cut w 0 a = w.take a := by unfold cut; simp
theorem cut1 (w : List Int) (a : Nat) : cut w a w.length = w.drop a := by unfold cut; rw [List.take_of_length_le]; simp
def beside (ws : List Int) (rim least : Int) (m : Mp) (w : List Int) (at_ : Nat) : Int :=
 2 * rim + (if 0 < at_ then needN ws rim least m (w.take at_) - 2 * rim + least else 0) + (if at_ + 1 < w.length then needN ws rim least m (w.drop (at_ + 1)) - 2 * rim + least else 0)
theorem WOk.take {n : Nat} {w : List Int} (h : WOk n w) {k : Nat} (h0 : 0 < k) (h1 : k < w.length) : WOk n (w.take k) := ⟨by simp; omega, by have := h.l7; simp; omega, fun x hx => h.m x (List.mem_of_mem_take hx)⟩
theorem WOk.drop {n : Nat} {w : List Int} (h : WOk n w) {k : Nat} (h1 : k < w.length) : WOk n (w.drop k) := ⟨by simp; omega, by have := h.l7; simp; omega, fun x hx => h.m x (List.mem_of_mem_drop hx)⟩
theorem f10_ok (N : Nat) {ws : List Int} {ps : List LP} {rim least blank : Int} {w : List Int} {k : Nat} {n : Int} (hN : 100 ≤ N) (v : LV ws ps rim least blank) (h : WOk ws.length w) (hk : k < w.length) (hn : 1 ≤ n ∧ n ≤ 400) :
  f10 N ws ps rim least blank w (k : Int) n = some (if beside ws rim least (mmap ps) w k ≥ n then (0, 8) else (if n - beside ws rim least (mmap ps) w k < 30 then n - beside ws rim least (mmap ps) w k else 30, 0)) := by
 have hl := h.l7; have h1 := h.l1; have hr := v.r; have hle := v.l
 have hW : Go.IntKind.wrap .i64 ((w.length : Int) - 1) = (w.length : Int) - 1 := w64_id (by omega) (by omega)
 have hR : Go.IntKind.wrap .i64 (2 * rim) = 2 * rim := w64_id (by omega) (by omega)
 have hS : Go.IntKind.wrap .i64 ((k : Int) + 1) = ((k + 1 : Nat) : Int) := w_succ (by omega)
 have hc : ∀ l : List Int, WOk ws.length l → f19a N ws ps rim least blank l (mmap ps) = some (needN ws rim least (mmap ps) l, mmap ps) := fun l hl => f19a_eq N ws ps rim least blank l _ hN v.r v.l v.mok hl.l1 (by have := hl.l7; omega) v.w hl.m
 have hb : ∀ l : List Int, WOk ws.length l → 1 ≤ needN ws rim least (mmap ps) l ∧ needN ws rim least (mmap ps) l ≤ 340 := fun l hl => needN_bd v hl
 unfold f10
 rw [f18_ok N hN v (by simp) (by simpa using h), andThen_some, either_inr]
 simp only
 rw [if_neg (by simp), hW, f20_eq N _ _ _ (by simp; omega) (by simp), andThen_some, allB (by simp; omega), if_neg (by simp), f21_eq N n hN, andThen_some, dd hn.1 hn.2, if_neg (by simp)]
 simp only [hS, Int.toNat_natCast, hR]
 have t0 : Int.toNat 0 = 0 := rfl
 rw [t0, cut0, cut1]
 unfold beside
 by_cases ha : 0 < k
 ·have w1 := h.take ha hk
  rw [if_pos (d1 (show (k : Int) > 0 by omega)), if_pos (by simp; omega), hc _ w1, andThen_some]
  have b1 := hb _ w1
  generalize needN ws rim least (mmap ps) (w.take k) = z1 at *
  simp only
  rw [w64_id (z := z1 - 2 * rim) (by omega) (by omega), w64_id (z := z1 - 2 * rim + least) (by omega) (by omega), w64_id (z := 2 * rim + (z1 - 2 * rim + least)) (by omega) (by omega)]
  by_cases hb2 : k + 1 < w.length
  ·have w2 := h.drop hb2
   rw [if_pos (d1 (show (k : Int) < (w.length : Int) - 1 by omega)), if_pos (by simp; omega), hc _ w2, andThen_some]
   have b2 := hb _ w2
   generalize needN ws rim least (mmap ps) (w.drop (k + 1)) = z2 at *
   simp only
   rw [w64_id (z := z2 - 2 * rim) (by omega) (by omega), w64_id (z := z2 - 2 * rim + least) (by omega) (by omega), w64_id (z := 2 * rim + (z1 - 2 * rim + least) + (z2 - 2 * rim + least)) (by omega) (by omega), if_pos ha, if_pos hb2]
   generalize hB : 2 * rim + (z1 - 2 * rim + least) + (z2 - 2 * rim + least) = B at *
   rw [w64_id (z := n - B) (by omega) (by omega)]
   by_cases hg : B ≥ n
   ·rw [if_pos (d1 hg), if_pos hg]
   ·rw [if_neg (dn hg), if_neg hg]
  ·rw [if_neg (dn (show ¬ (k : Int) < (w.length : Int) - 1 by omega)), if_pos ha, if_neg hb2, Int.add_zero]
   generalize hB : 2 * rim + (z1 - 2 * rim + least) = B at *
   rw [w64_id (z := n - B) (by omega) (by omega)]
   by_cases hg : B ≥ n
   ·rw [if_pos (d1 hg), if_pos hg]
   ·rw [if_neg (dn hg), if_neg hg]
 ·rw [if_neg (dn (show ¬ (k : Int) > 0 by omega))]
  by_cases hb2 : k + 1 < w.length
  ·have w2 := h.drop hb2
   rw [if_pos (d1 (show (k : Int) < (w.length : Int) - 1 by omega)), if_pos (by simp; omega), hc _ w2, andThen_some]
   have b2 := hb _ w2
   generalize needN ws rim least (mmap ps) (w.drop (k + 1)) = z2 at *
   simp only
   rw [w64_id (z := z2 - 2 * rim) (by omega) (by omega), w64_id (z := z2 - 2 * rim + least) (by omega) (by omega), w64_id (z := 2 * rim + (z2 - 2 * rim + least)) (by omega) (by omega), if_neg ha, if_pos hb2, Int.add_zero]
   generalize hB : 2 * rim + (z2 - 2 * rim + least) = B at *
   rw [w64_id (z := n - B) (by omega) (by omega)]
   by_cases hg : B ≥ n
   ·rw [if_pos (d1 hg), if_pos hg]
   ·rw [if_neg (dn hg), if_neg hg]
  ·rw [if_neg (dn (show ¬ (k : Int) < (w.length : Int) - 1 by omega)), if_neg ha, if_neg hb2, Int.add_zero, Int.add_zero]
   generalize hB : 2 * rim = B at *
   rw [w64_id (z := n - B) (by omega) (by omega)]
   by_cases hg : B ≥ n
   ·rw [if_pos (d1 hg), if_pos hg]
   ·rw [if_neg (dn hg), if_neg hg]
theorem lk6 {ps : List LP} (h : ∀ q ∈ ps, q.1 < 6 ∧ q.2.1 < 6) (a : Int) : lk (mmap ps) 6 a = 0 ∧ lk (mmap ps) a 6 = 0 := by
 have key : ∀ k : Int × Int, (6 ≤ k.1 ∨ 6 ≤ k.2) → mget T0 k 0 (mmap ps) = 0 := fun k hk => by
  rcases mget_or (k := k) (m := mmap ps) with e | ⟨x, h1, h2, _⟩
  ·exact e
  ·obtain ⟨p, p1, p2⟩ := mi_mem (Nat.le_refl _) x h1
   have := h p p1
   rw [← h2, p2] at hk
   simp only at hk
   omega
 exact ⟨key _ (.inl (Int.le_refl _)), key _ (.inr (Int.le_refl _))⟩
theorem need_more {ws : List Int} {rim least : Int} {m : Mp} {w : List Int} {k : Nat} (hw : ws.length = 6) (hl : 0 ≤ least) (h1 : w.length ≤ 5) (hk : k < w.length) (hx : ∀ x ∈ w, 0 ≤ x ∧ x < 6) (h6 : ∀ a, lk m 6 a = 0 ∧ lk m a 6 = 0) :
  needN (ws ++ [1]) rim least m (w.set k 6) = beside ws rim least m w k + 1 := by
 have g : ∀ x : Int, 0 ≤ x ∧ x < 6 → (ws ++ [1])[x.toNat]?.getD 0 = ws[x.toNat]?.getD 0 := fun x h => by
  rw [List.getElem?_append_left (by omega)]
 have g6 : (ws ++ [1])[6]?.getD 0 = 1 := by
  rw [List.getElem?_append_right (by rw [hw]; decide), hw]; rfl
 have c6 : ∀ a, lk m 6 a = 0 := fun a => (h6 a).1
 have d6 : ∀ a, lk m a 6 = 0 := fun a => (h6 a).2
 have hls : (if 0 < least then least else 0) = least := by split <;> omega
 have rg : List.range 1 = [0] ∧ List.range 2 = [0, 1] ∧ List.range 3 = [0, 1, 2] ∧ List.range 4 = [0, 1, 2, 3] := ⟨rfl, rfl, rfl, rfl⟩
 obtain ⟨r1, r2, r3, r4⟩ := rg
 match w, h1, hk, hx with
 | [], _, hk, _ => simp at hk
 | [a], _, hk, hx =>
  have ha := hx a (by simp)
  have : k = 0 := by simpa using hk
  subst this
  simp [needN, beside, wsum, gsum, loose, g6]
 | [a, b], _, hk, hx =>
  have ga := g a (hx a (by simp)); have gb := g b (hx b (by simp))
  simp at hk
  have hk : k = 0 ∨ k = 1 := by omega
  rcases hk with rfl | rfl <;> simp [needN, beside, wsum, gsum, loose, r1, r2, r3, r4, g6, ga, gb, c6, d6, hls] <;> omega
 | [a, b, c], _, hk, hx =>
  have ga := g a (hx a (by simp)); have gb := g b (hx b (by simp)); have gc := g c (hx c (by simp))
  simp at hk
  have hk : k = 0 ∨ k = 1 ∨ k = 2 := by omega
  rcases hk with rfl | rfl | rfl <;> simp [needN, beside, wsum, gsum, loose, r1, r2, r3, r4, g6, ga, gb, gc, c6, d6, hls] <;> omega
 | [a, b, c, d], _, hk, hx =>
  have ga := g a (hx a (by simp)); have gb := g b (hx b (by simp)); have gc := g c (hx c (by simp)); have gd := g d (hx d (by simp))
  simp at hk
  have hk : k = 0 ∨ k = 1 ∨ k = 2 ∨ k = 3 := by omega
  rcases hk with rfl | rfl | rfl | rfl <;> simp [needN, beside, wsum, gsum, loose, r1, r2, r3, r4, g6, ga, gb, gc, gd, c6, d6, hls] <;> omega
 | [a, b, c, d, e], _, hk, hx =>
  have ga := g a (hx a (by simp)); have gb := g b (hx b (by simp)); have gc := g c (hx c (by simp)); have gd := g d (hx d (by simp)); have ge := g e (hx e (by simp))
  simp at hk
  have hk : k = 0 ∨ k = 1 ∨ k = 2 ∨ k = 3 ∨ k = 4 := by omega
  rcases hk with rfl | rfl | rfl | rfl | rfl <;> simp [needN, beside, wsum, gsum, loose, r1, r2, r3, r4, g6, ga, gb, gc, gd, ge, c6, d6, hls] <;> omega
 | _ :: _ :: _ :: _ :: _ :: _ :: _, h1, _, _ => simp at h1
end Go.Pl


namespace Go.Pl
open Go.Al Go.Proofs
def nts (cs : List Cn) (ss : List Sg) : List Nt := cs.map Sum.inl ++ ss.map Sum.inr
theorem take_get {α : Type} (l : List α) (d : α) {i : Nat} (hi : i < l.length) : l.take (i + 1) = l.take i ++ [l.getD i d] := by
 rw [List.getD_eq_getElem?_getD, List.getElem?_eq_getElem hi, List.take_succ_eq_append_getElem hi]; rfl
theorem f45l0_eq (N : Nat) (l : List Cn) (a1 : List Span) (a2 : List Pr) (a3 : List Cn) (a4 : List Sg) (b1 : List Span) (b2 : List Pr) (b3 : List Cn) (b4 : List Sg) (b5 : List Nt) (c1 : List Span) (c2 : List Pr) (c3 : List Cn) (c4 : List Sg) (hN : l.length < N) (hl : l.length < 1000) :
  f45l0 N N l (l.length : Int) 0 a1 a2 a3 a4 b1 b2 b3 b4 b5 c1 c2 c3 c4 [] = some (a1, a2, a3, a4, b1, b2, b3, b4, b5, c1, c2, c3, c4, l.map Sum.inl) := by
 obtain ⟨r, h1, h2⟩ := loop_run (fun q (i : Nat) => f45l0 N q l (l.length : Int) (i : Int) a1 a2 a3 a4 b1 b2 b3 b4 b5 c1 c2 c3 c4 ((l.take i).map Sum.inl)) (fun i => i ≤ l.length) (fun i => l.length - i)
  (fun r => r = (a1, a2, a3, a4, b1, b2, b3, b4, b5, c1, c2, c3, c4, l.map Sum.inl)) (fun q i hi => by
   by_cases h : i < l.length
   ·right
    refine ⟨i + 1, h, by omega, ?_⟩
    show f45l0B N (f45l0 N q) l (l.length : Int) (i : Int) a1 a2 a3 a4 b1 b2 b3 b4 b5 c1 c2 c3 c4 ((l.take i).map Sum.inl) = _
    unfold f45l0B
    simp only [show ((i : Int) < (l.length : Int)) by omega, Int.natCast_nonneg, decide_true, Bool.and_true, if_true, Int.toNat_natCast, w_succ (show i < 4611686018427387904 by omega)]
    rw [if_pos (by simp [boundLen]; omega), take_get l ((0 : Int), ((0 : Int), false)) h, List.map_append]
    rfl
   ·left
    have : i = l.length := by omega
    subst this
    refine ⟨_, ?_, rfl⟩
    show f45l0B N (f45l0 N q) l (l.length : Int) (l.length : Int) a1 a2 a3 a4 b1 b2 b3 b4 b5 c1 c2 c3 c4 ((l.take l.length).map Sum.inl) = _
    unfold f45l0B
    rw [if_neg (by simp), List.take_length]) N 0 (Nat.zero_le _) (by simpa using hN)
 rw [h2] at h1
 exact h1
theorem f45l1_eq (N : Nat) (l : List Sg) (b1 : List Span) (b2 : List Pr) (b3 : List Cn) (b4 : List Sg) (b5 : List Nt) (c1 : List Span) (c2 : List Pr) (c3 : List Cn) (c4 : List Sg) (z : List Nt) (hN : l.length < N) (hl : l.length < 1000) (hz : z.length < 1000) :
  f45l1 N N l (l.length : Int) 0 b1 b2 b3 b4 b5 c1 c2 c3 c4 z = some (b1, b2, b3, b4, b5, c1, c2, c3, c4, z ++ l.map Sum.inr) := by
 obtain ⟨r, h1, h2⟩ := loop_run (fun q (i : Nat) => f45l1 N q l (l.length : Int) (i : Int) b1 b2 b3 b4 b5 c1 c2 c3 c4 (z ++ (l.take i).map Sum.inr)) (fun i => i ≤ l.length) (fun i => l.length - i)
  (fun r => r = (b1, b2, b3, b4, b5, c1, c2, c3, c4, z ++ l.map Sum.inr)) (fun q i hi => by
   by_cases h : i < l.length
   ·right
    refine ⟨i + 1, h, by omega, ?_⟩
    show f45l1B N (f45l1 N q) l (l.length : Int) (i : Int) b1 b2 b3 b4 b5 c1 c2 c3 c4 (z ++ (l.take i).map Sum.inr) = _
    unfold f45l1B
    simp only [show ((i : Int) < (l.length : Int)) by omega, Int.natCast_nonneg, decide_true, Bool.and_true, if_true, Int.toNat_natCast, w_succ (show i < 4611686018427387904 by omega)]
    rw [if_pos (by simp [boundLen]; omega), take_get l ((0 : Int), (((0 : Int), (0 : Int)), (0 : Int))) h, List.map_append, ← List.append_assoc]
    rfl
   ·left
    have : i = l.length := by omega
    subst this
    refine ⟨_, ?_, rfl⟩
    show f45l1B N (f45l1 N q) l (l.length : Int) (l.length : Int) b1 b2 b3 b4 b5 c1 c2 c3 c4 (z ++ (l.take l.length).map Sum.inr) = _
    unfold f45l1B
    rw [if_neg (by simp), List.take_length]) N 0 (Nat.zero_le _) (by simpa using hN)
 rw [h2] at h1
 simpa using h1
theorem f45_eq (N : Nat) (hs : List Span) (ps : List Pr) (cs : List Cn) (ss : List Sg) (hN : 100 ≤ N) (h3 : cs.length < 100) (h4 : ss.length < 100) : f45 N hs ps cs ss = some (hs, ps, cs, ss, nts cs ss) := by
 unfold f45
 rw [f45l0_eq N cs _ _ _ _ _ _ _ _ _ _ _ _ _ (by omega) (by omega), andThen_some]
 simp only
 rw [f45l1_eq N ss _ _ _ _ _ _ _ _ _ _ (by omega) (by omega) (by simp; omega), andThen_some]
 rfl
theorem nt_mem {ns : List Nt} {i : Nat} (hi : i < ns.length) : nt ns i ∈ ns := getD_mem hi
theorem nts_ok {hs : List Span} {ps : List Pr} {cs : List Cn} {ss : List Sg} (v : Valid hs ps cs ss) : ∀ x ∈ nts cs ss, okNt hs.length x := fun x hx => by
 rcases List.mem_append.1 hx with h | h
 ·obtain ⟨c, hc, rfl⟩ := List.mem_map.1 h; exact v.c c hc
 ·obtain ⟨c, hc, rfl⟩ := List.mem_map.1 h; exact v.s c hc
theorem nts_len (cs : List Cn) (ss : List Sg) : (nts cs ss).length = cs.length + ss.length := by simp [nts]
abbrev TruthO (hs : List Span) (ps : List Pr) (cs : List Cn) (ss : List Sg) : (Nat → Int) → Prop := Truth hs ps fun x => x ∈ nts cs ss
theorem Truth.congr {hs : List Span} {ps : List Pr} {K K' : Nt → Prop} (h : ∀ x, K x ↔ K' x) : Truth hs ps K = Truth hs ps K' := by
 have : K = K' := funext fun x => propext (h x)
 rw [this]
theorem f22_bad (N : Nat) (hs : List Span) (ps : List Pr) (cs : List Cn) (ss : List Sg) (hN : 100 ≤ N) (h1 : hs.length < 100) (h2 : ps.length < 100) (h3 : cs.length < 100) (h4 : ss.length < 100) (hc : chk hs ps cs ss ≠ 0) :
  f22 N hs ps cs ss = some ([], [], [], [], [], zero6, chk hs ps cs ss) := by
 unfold f22
 rw [f44_eq N hs ps cs ss hN h1 h2 h3 h4, andThen_some, if_pos (by simpa using hc)]
 rfl
theorem f22_eq (N : Nat) (hs : List Span) (ps : List Pr) (cs : List Cn) (ss : List Sg) (hN : 1000 ≤ N) (v : Valid hs ps cs ss) :
  ∃ m ok, f22 N hs ps cs ss = some (hs, ps, cs, ss, nts cs ss, m, if ok = true then 0 else 9) ∧ (ok = true ↔ ∃ t, TruthO hs ps cs ss t) ∧ (ok = true → Tight hs.length m (TruthO hs ps cs ss)) := by
 have n5 := v.n5
 have p8 := v.p8
 have c6 := v.c6
 have s4 := v.s4
 obtain ⟨m, ok, e1, e2, e3⟩ := gaps_spec N 0 hs ps cs ss (nts cs ss) [] hN v.n1 v.n5 v.h v.p (by omega) (nts_ok v) (by rw [nts_len]; omega) (fun x hx => by cases hx) (Nat.zero_le _)
 rw [Truth.congr (K' := fun x => x ∈ nts cs ss) fun x => by
  constructor
  ·rintro (⟨i, hi, _, rfl⟩ | h)
   ·exact nt_mem hi
   ·cases h
  ·intro h
   obtain ⟨i, hi, e⟩ := getD_of_mem (Sum.inl ((0 : Int), ((0 : Int), false))) h
   exact .inl ⟨i, hi, bitOff_zero i, e.symm⟩] at e2 e3
 refine ⟨m, ok, ?_, e2, e3⟩
 unfold f22
 rw [f44_eq N hs ps cs ss (by omega) (by omega) (by omega) (by omega) (by omega), andThen_some, chk_valid.2 v, if_neg (by decide), f45_eq N hs ps cs ss (by omega) (by omega) (by omega), andThen_some]
 simp only
 rw [e1, andThen_some]
 cases ok <;> rfl
def cz (n p : Nat) (v : Int) : Int := if p < n then v else 0
def hts (n : Nat) (m : List Int) : List Int := [cz n 0 (-ent m 0 5), cz n 0 (ent m 5 0), cz n 1 (-ent m 1 5), cz n 1 (ent m 5 1), cz n 2 (-ent m 2 5), cz n 2 (ent m 5 2), cz n 3 (-ent m 3 5), cz n 3 (ent m 5 3), cz n 4 (-ent m 4 5), cz n 4 (ent m 5 4)]
theorem hts_succ {m : List Int} {i : Nat} (hi : i < 5) : setRow (hts i m) (0 + i * 2) [-ent m i 5, ent m 5 i] = hts (i + 1) m := by
 have : i = 0 ∨ i = 1 ∨ i = 2 ∨ i = 3 ∨ i = 4 := by omega
 rcases this with rfl | rfl | rfl | rfl | rfl <;> rfl
theorem f27_eq (N : Nat) (hs : List Span) (ps : List Pr) (cs : List Cn) (ss : List Sg) (ns : List Nt) (m : List Int) (hN : 100 ≤ N) (hn : hs.length ≤ 5) (hb : ∀ p, p < hs.length → -10000 ≤ ent m p 5 ∧ ent m p 5 ≤ 10000) :
  f27 N hs ps cs ss ns m = some (hts hs.length m) := by
 obtain ⟨r, h1, h2⟩ := loop_run (fun q (i : Nat) => f27l0 N q (hs.length : Int) (i : Int) m (hts i m)) (fun i => i ≤ hs.length) (fun i => hs.length - i) (fun r => r = hts hs.length m) (fun q i hi => by
   by_cases h : i < hs.length
   ·right
    refine ⟨i + 1, h, by omega, ?_⟩
    show f27l0B N (f27l0 N q) (hs.length : Int) (i : Int) m (hts i m) = _
    unfold f27l0B
    have hb := hb i h
    have e : Go.IntKind.wrap .i64 (0 - List.getD m (0 + i * 6 + 5) 0) = -ent m i 5 := by
     have e2 : List.getD m (0 + i * 6 + 5) 0 = ent m i 5 := by unfold ent; rw [Nat.zero_add]
     rw [e2, w64_id (by omega) (by omega)]; omega
    have e3 : List.getD m (30 + i * 1) 0 = ent m 5 i := by unfold ent; rw [Nat.mul_one]
    simp only [show ((i : Int) < (hs.length : Int)) by omega, show ((i : Int) < 6) by omega, show ((i : Int) < 5) by omega, Int.natCast_nonneg, decide_true, Bool.and_true, if_true, Int.toNat_natCast, w_succ (show i < 4611686018427387904 by omega)]
    rw [e, e3, hts_succ (by omega)]
    rfl
   ·left
    have : i = hs.length := by omega
    subst this
    refine ⟨_, ?_, rfl⟩
    show f27l0B N (f27l0 N q) (hs.length : Int) (hs.length : Int) m (hts hs.length m) = _
    unfold f27l0B
    rw [if_neg (by simp)]) N 0 (Nat.zero_le _) (by simp; omega)
 rw [h2] at h1
 unfold f27
 have h1 : f27l0 N N (hs.length : Int) 0 m [0, 0, 0, 0, 0, 0, 0, 0, 0, 0] = some (hts hs.length m) := h1
 rw [h1]; rfl
def spn (n : Nat) (m : List Int) : List Span := (List.range n).map fun p => (-ent m p 5, ent m 5 p)
@[simp] theorem spn_len (n : Nat) (m : List Int) : (spn n m).length = n := by simp [spn]
theorem sp_spn {n p : Nat} {m : List Int} (hp : p < n) : sp (spn n m) p = (-ent m p 5, ent m 5 p) := by
 unfold sp spn
 rw [List.getD_eq_getElem?_getD]
 simp [hp]
theorem cut_hts {n : Nat} {m : List Int} (h1 : 1 ≤ n) (h5 : n ≤ 5) :
  cut [((hts n m).getD 0 0, (hts n m).getD 1 0), ((hts n m).getD 2 0, (hts n m).getD 3 0), ((hts n m).getD 4 0, (hts n m).getD 5 0), ((hts n m).getD 6 0, (hts n m).getD 7 0), ((hts n m).getD 8 0, (hts n m).getD 9 0)] 0 n = spn n m := by
 have : n = 1 ∨ n = 2 ∨ n = 3 ∨ n = 4 ∨ n = 5 := by omega
 rcases this with rfl | rfl | rfl | rfl | rfl <;> rfl
theorem tight_bd {n : Nat} {m : List Int} {hs : List Span} {ps : List Pr} {K : Nt → Prop} (h : Tight n m (Truth hs ps K)) (hn : hs.length = n) (hn5 : n ≤ 5) (hok : ∀ s ∈ hs, okSp s) : ∀ a b, (a < n ∨ a = 5) → (b < n ∨ b = 5) → -1000 ≤ ent m a b ∧ ent m a b ≤ 1000 := fun a b ha hb => by
 obtain ⟨t, ht, e⟩ := h.att a b ha hb
 have hz : ∀ x, (x < n ∨ x = 5) → 0 ≤ zt t x ∧ zt t x ≤ 1000 := fun x hx => by
  unfold zt
  by_cases h5 : x = 5
  ·rw [if_pos h5]; omega
  ·rw [if_neg h5]
   have h1 := ht.1 x (by omega)
   have h2 : okSp (sp hs x) := hok _ (getD_mem (by omega))
   obtain ⟨o1, o2, o3⟩ := h2
   omega
 have := hz a ha
 have := hz b hb
 omega
theorem f17_bad (N : Nat) (hs : List Span) (ps : List Pr) (cs : List Cn) (ss : List Sg) (hN : 100 ≤ N) (h1 : hs.length < 100) (h2 : ps.length < 100) (h3 : cs.length < 100) (h4 : ss.length < 100) (hc : chk hs ps cs ss ≠ 0) :
  f17 N hs ps cs ss = some ([], chk hs ps cs ss) := by
 unfold f17
 rw [f22_bad N hs ps cs ss hN h1 h2 h3 h4 hc, andThen_some]
 simp only
 rw [if_pos (by simpa using hc)]
theorem f17_no (N : Nat) (hs : List Span) (ps : List Pr) (cs : List Cn) (ss : List Sg) (hN : 1000 ≤ N) (v : Valid hs ps cs ss) (ht : ¬ ∃ t, TruthO hs ps cs ss t) : f17 N hs ps cs ss = some ([], 9) := by
 obtain ⟨m, ok, e1, e2, e3⟩ := f22_eq N hs ps cs ss hN v
 have : ok = false := by
  cases ok with
  | false => rfl
  | true => exact absurd (e2.1 rfl) ht
 subst this
 unfold f17
 rw [e1, andThen_some]
 rfl
theorem f17_yes (N : Nat) (hs : List Span) (ps : List Pr) (cs : List Cn) (ss : List Sg) (hN : 1000 ≤ N) (v : Valid hs ps cs ss) (ht : ∃ t, TruthO hs ps cs ss t) :
  ∃ m, f22 N hs ps cs ss = some (hs, ps, cs, ss, nts cs ss, m, 0) ∧ Tight hs.length m (TruthO hs ps cs ss) ∧ f27 N hs ps cs ss (nts cs ss) m = some (hts hs.length m) ∧ f17 N hs ps cs ss = some (spn hs.length m, 0) := by
 obtain ⟨m, ok, e1, e2, e3⟩ := f22_eq N hs ps cs ss hN v
 have := e2.2 ht
 subst this
 have ht := e3 rfl
 have n1 := v.n1
 have n5 := v.n5
 have e4 := f27_eq N hs ps cs ss (nts cs ss) m (by omega) n5 fun p hp => by have := tight_bd ht rfl n5 v.h p 5 (.inl hp) (.inr rfl); omega
 refine ⟨m, e1, ht, e4, ?_⟩
 unfold f17
 rw [e1, andThen_some]
 simp only
 rw [if_neg (by decide), e4, andThen_some]
 simp only [Int.natCast_nonneg, show ((hs.length : Int) ≤ 5) by omega, Int.le_refl, decide_true, Bool.and_true, if_true, Int.toNat_natCast, show Int.toNat (0 : Int) = 0 from rfl]
 rw [cut_hts n1 n5]
 unfold f36
 rw [if_neg (by simp), if_pos (by simp [boundLen]; omega), andThen_some]
 rfl
end Go.Pl


namespace Go.Pl
open Go.Al Go.Proofs
def filt (P : Nat → Bool) (n : Nat) : List Int := ((List.range n).filter P).map fun i : Nat => (i : Int)
theorem filt_succ (P : Nat → Bool) (n : Nat) : filt P (n + 1) = if P n = true then filt P n ++ [(n : Int)] else filt P n := by
 unfold filt
 rw [List.range_succ, List.filter_append, List.map_append]
 by_cases h : P n = true <;> simp [h]
theorem filt_len (P : Nat → Bool) (n : Nat) : (filt P n).length ≤ n := by
 unfold filt
 rw [List.length_map]
 have := List.length_filter_le P (List.range n)
 simpa using this
theorem filt_congr {P P' : Nat → Bool} (n : Nat) (h : ∀ i, i < n → P i = P' i) : filt P n = filt P' n := by
 unfold filt
 congr 1
 refine List.filter_congr fun i hi => h i (by simpa using hi)
def goodS (w s : Span) : Bool := decide (w.1 ≤ s.1) && decide (s.2 < w.2)
def goodP (w s : Span) : Bool := decide (w.1 ≤ s.2) && decide (s.1 < w.2)
theorem hts_get {n i : Nat} {m : List Int} (hi : i < n) (hn : n ≤ 5) : (hts n m).getD (0 + i * 2 + 0) 0 = -ent m i 5 ∧ (hts n m).getD (0 + i * 2 + 1) 0 = ent m 5 i := by
 have : i = 0 ∨ i = 1 ∨ i = 2 ∨ i = 3 ∨ i = 4 := by omega
 rcases this with rfl | rfl | rfl | rfl | rfl <;> simp [hts, cz, hi]
end Go.Pl


namespace Go.Pl
open Go.Al Go.Proofs
theorem Tight.span {hs : List Span} {ps : List Pr} {cs : List Cn} {ss : List Sg} {m : List Int} (ht : Tight hs.length m (TruthO hs ps cs ss)) {p : Nat} (hp : p < hs.length) {lo hi : Int}
  (h1 : ∀ t, TruthO hs ps cs ss t → lo ≤ t p ∧ t p ≤ hi) (h2 : ∃ t, TruthO hs ps cs ss t ∧ t p = lo) (h3 : ∃ t, TruthO hs ps cs ss t ∧ t p = hi) (hn : hs.length ≤ 5) : sp (spn hs.length m) p = (lo, hi) := by
 rw [sp_spn hp]
 have hz : ∀ t : Nat → Int, zt t p = t p ∧ zt t 5 = 0 := fun t => ⟨by unfold zt; rw [if_neg (by omega)], by unfold zt; rw [if_pos rfl]⟩
 obtain ⟨t1, a1, a2⟩ := h2
 obtain ⟨t2, b1, b2⟩ := h3
 have u1 := ht.up t1 a1 p 5 (.inl hp) (.inr rfl)
 have u2 := ht.up t2 b1 5 p (.inr rfl) (.inl hp)
 obtain ⟨s1, c1, c2⟩ := ht.att p 5 (.inl hp) (.inr rfl)
 obtain ⟨s2, e1, e2⟩ := ht.att 5 p (.inr rfl) (.inl hp)
 have q1 := h1 s1 c1
 have q2 := h1 s2 e1
 rw [(hz _).1, (hz _).2] at u1 u2 c2 e2
 have : -ent m p 5 = lo ∧ ent m 5 p = hi := by omega
 rw [this.1, this.2]
end Go.Pl


namespace Go.Pl
open Go.Al Go.Proofs
abbrev Set' := Int × (Int × Int)
def okSet (n : Nat) (s : Set') : Prop := 0 ≤ s.1 ∧ s.1 < n ∧ okWr s.2
instance (n : Nat) (s : Set') : Decidable (okSet n s) := by unfold okSet; infer_instance
def st (l : List Set') (i : Nat) : Set' := l.getD i ((0 : Int), ((0 : Int), (0 : Int)))
def okAt (h : List Span) (s : Set') (d : Int) : Prop := s.2.1 ≤ (sp h s.1.toNat).1 + d ∧ (sp h s.1.toNat).2 + d < s.2.2
instance (h : List Span) (s : Set') (d : Int) : Decidable (okAt h s d) := by unfold okAt; infer_instance
theorem f23_eq (N : Nat) (s : Set') (hs : List Span) (ps : List Pr) (cs : List Cn) (ss : List Sg) (ns : List Nt) (hN : 100 ≤ N) (hn : hs.length < 1000) : f23 N s.1 s.2.1 s.2.2 hs ps cs ss ns = some (!decide (okSet hs.length s), hs, ps, cs, ss, ns) := by
 unfold f23
 rw [w64_id (by omega) (by omega), f24_eq N _ _ _ (by simp; omega) (by simp), f25_eq N s.2 hN]
 simp only [andThen_some, List.all_cons, List.all_nil, inB, Bool.and_true]
 have e : ∀ x : Int, decide (x ≤ (hs.length : Int) - 1) = decide (x < (hs.length : Int)) := fun x => by rw [decide_eq_decide]; omega
 simp only [e, okSet]
 by_cases h1 : 0 ≤ s.1 <;> by_cases h2 : s.1 < hs.length <;> simp [h1, h2]
theorem f26_eq (N : Nat) (l : List Set') (hs : List Span) (ps : List Pr) (cs : List Cn) (ss : List Sg) (ns : List Nt) (hN : 100 ≤ N) (hn : hs.length < 100) (hl : l.length < 100) : f26 N l hs ps cs ss ns = some (!decide (∀ q ∈ l, okSet hs.length q), hs, ps, cs, ss, ns) := by
 unfold f26 f48
 rcases searchL l ((0 : Int), ((0 : Int), (0 : Int))) (fun s => !decide (okSet hs.length s)) (fun q i => f48l0 N q l (l.length : Int) (i : Int) hs ps cs ss ns) (fun i => .inl ((i : Int), hs, ps, cs, ss, ns)) (.inr (hs, ps, cs, ss, ns)) (fun q i hi => by
  show f48l0B N (f48l0 N q) l (l.length : Int) (i : Int) hs ps cs ss ns = _
  unfold f48l0B
  simp only [show ((i : Int) < (l.length : Int)) by omega, Int.natCast_nonneg, decide_true, Bool.and_true, if_true, Int.toNat_natCast, w_succ (show i < 4611686018427387904 by omega), f23_eq N _ _ _ _ _ _ hN (show hs.length < 1000 by omega), andThen_some]) (fun q => by
  show f48l0B N (f48l0 N q) l (l.length : Int) (l.length : Int) hs ps cs ss ns = _
  unfold f48l0B
  rw [if_neg (by simp)]) N (by omega) with ⟨i, hi', ha, hr⟩ | ⟨ha, hr⟩
 ·have hr : f48l0 N N l (l.length : Int) 0 hs ps cs ss ns = some (.inl ((i : Int), hs, ps, cs, ss, ns)) := hr
  rw [hr, ← any_all, ha]; simp
 ·have hr : f48l0 N N l (l.length : Int) 0 hs ps cs ss ns = some (.inr (hs, ps, cs, ss, ns)) := hr
  rw [hr, ← any_all, ha]; rfl
def Turns (h : List Span) (l : List Set') (lo hi : Int) : Prop := -300 ≤ lo ∧ lo ≤ 3000 ∧ -3000 ≤ hi ∧ hi ≤ 300 ∧ ∀ d, (lo ≤ d ∧ d ≤ hi) ↔ (-300 ≤ d ∧ d ≤ 300 ∧ ∀ j, j < l.length → okAt h (st l j) d)
theorem f11l0_eq (N : Nat) (l : List Set') (x3 x4 : Int) (n : Nat) (m : List Int) (hN : 100 ≤ N) (hl : l.length ≤ 12) (hn : n ≤ 5) (hok : ∀ s ∈ l, okSet n s) (hb : ∀ p, p < n → -1000 ≤ ent m p 5 ∧ ent m p 5 ≤ 1000 ∧ -1000 ≤ ent m 5 p ∧ ent m 5 p ≤ 1000) :
  ∃ lo hi, f11l0 N N l (l.length : Int) 0 x3 x4 (hts n m) (-300) 300 = some (x3, x4, lo, hi) ∧ Turns (spn n m) l lo hi := by
 obtain ⟨r, h1, lo, hi, h2, h3⟩ := loop_run (fun q (s : Nat × Int × Int) => f11l0 N q l (l.length : Int) (s.1 : Int) x3 x4 (hts n m) s.2.1 s.2.2)
  (fun s => s.1 ≤ l.length ∧ -300 ≤ s.2.1 ∧ s.2.1 ≤ 3000 ∧ -3000 ≤ s.2.2 ∧ s.2.2 ≤ 300 ∧ ∀ d, (s.2.1 ≤ d ∧ d ≤ s.2.2) ↔ (-300 ≤ d ∧ d ≤ 300 ∧ ∀ j, j < s.1 → okAt (spn n m) (st l j) d)) (fun s => l.length - s.1)
  (fun r => ∃ lo hi, r = (x3, x4, lo, hi) ∧ Turns (spn n m) l lo hi) (by
   rintro q ⟨i, a, b⟩ ⟨i1, i2, i3, i4, i5, i6⟩
   simp only at i1 i2 i3 i4 i5 i6 ⊢
   by_cases hi : i < l.length
   ·right
    have hs := hok (st l i) (getD_mem hi)
    obtain ⟨o1, o2, o3, o4, o5⟩ := hs
    have hp : (st l i).1.toNat < n := by omega
    have hbp := hb _ hp
    have hg := hts_get (m := m) hp hn
    have hsp := sp_spn (m := m) hp
    generalize hz : st l i = z at *
    refine ⟨(i + 1, if z.2.1 - (-ent m z.1.toNat 5) > a then z.2.1 - (-ent m z.1.toNat 5) else a, if z.2.2 - 1 - ent m 5 z.1.toNat < b then z.2.2 - 1 - ent m 5 z.1.toNat else b), ⟨hi, ?_, ?_, ?_, ?_, fun d => ?_⟩, show l.length - (i + 1) < l.length - i by omega, ?_⟩
    ·simp only; split <;> omega
    ·simp only; split <;> omega
    ·simp only; split <;> omega
    ·simp only; split <;> omega
    ·have e : (∀ j, j < i + 1 → okAt (spn n m) (st l j) d) ↔ (∀ j, j < i → okAt (spn n m) (st l j) d) ∧ okAt (spn n m) z d := by
      constructor
      ·intro h; exact ⟨fun j hj => h j (by omega), hz ▸ h i (by omega)⟩
      ·rintro ⟨p, q⟩ j hj
       rcases Nat.lt_or_ge j i with h | h
       ·exact p j h
       ·have : j = i := by omega
        subst this; rw [hz]; exact q
     rw [show (∀ j, j < (i + 1, (if z.2.1 - (-ent m z.1.toNat 5) > a then z.2.1 - (-ent m z.1.toNat 5) else a, if z.2.2 - 1 - ent m 5 z.1.toNat < b then z.2.2 - 1 - ent m 5 z.1.toNat else b)).1 → okAt (spn n m) (st l j) d) ↔ _ from e]
     have i6 := i6 d
     have eo : okAt (spn n m) z d ↔ z.2.1 ≤ -ent m z.1.toNat 5 + d ∧ ent m 5 z.1.toNat + d < z.2.2 := by unfold okAt; rw [hsp]
     rw [eo]
     generalize (∀ j, j < i → okAt (spn n m) (st l j) d) = A at *
     simp only
     constructor
     ·rintro ⟨p, q⟩
      have p1 : a ≤ d := by split at p <;> omega
      have q1 : d ≤ b := by split at q <;> omega
      have p2 : z.2.1 - (-ent m z.1.toNat 5) ≤ d := by split at p <;> omega
      have q2 : d ≤ z.2.2 - 1 - ent m 5 z.1.toNat := by split at q <;> omega
      obtain ⟨c1, c2, c3⟩ := i6.1 ⟨p1, q1⟩
      exact ⟨c1, c2, c3, by omega, by omega⟩
     ·rintro ⟨c1, c2, c3, c4, c5⟩
      have := i6.2 ⟨c1, c2, c3⟩
      constructor <;> (split <;> omega)
    ·show f11l0B N (f11l0 N q) l (l.length : Int) (i : Int) x3 x4 (hts n m) a b = _
     unfold f11l0B
     unfold st at hz
     simp only [show ((i : Int) < (l.length : Int)) by omega, Int.natCast_nonneg, decide_true, Bool.and_true, if_true, Int.toNat_natCast, hz, o1, show z.1 < 5 by omega, hg.1, hg.2, w_succ (show i < 4611686018427387904 by omega)]
     rw [w64_id (z := z.2.1 - (-ent m z.1.toNat 5)) (by omega) (by omega), w64_id (z := z.2.2 - 1) (by omega) (by omega), w64_id (z := z.2.2 - 1 - ent m 5 z.1.toNat) (by omega) (by omega)]
   ·left
    have : i = l.length := by omega
    subst this
    refine ⟨(x3, x4, a, b), ?_, a, b, rfl, i2, i3, i4, i5, i6⟩
    show f11l0B N (f11l0 N q) l (l.length : Int) (l.length : Int) x3 x4 (hts n m) a b = _
    unfold f11l0B
    rw [if_neg (by simp)]) N (0, -300, 300) ⟨Nat.zero_le _, by simp only; omega, by simp only; omega, by simp only; omega, by simp only; omega, fun d => by
     simp only
     exact ⟨fun ⟨a, b⟩ => ⟨a, b, fun j hj => absurd hj (Nat.not_lt_zero _)⟩, fun ⟨a, b, _⟩ => ⟨a, b⟩⟩⟩ (by simp; omega)
 rw [h2] at h1
 exact ⟨lo, hi, h1, h3⟩
end Go.Pl


namespace Go.Pl
open Go.Al Go.Proofs
theorem f11_bad (N : Nat) (hs : List Span) (ps : List Pr) (cs : List Cn) (ss : List Sg) (l : List Set') (hN : 100 ≤ N) (h1 : hs.length < 100) (h2 : ps.length < 100) (h3 : cs.length < 100) (h4 : ss.length < 100) (hc : chk hs ps cs ss ≠ 0) :
  f11 N hs ps cs ss l = some (0, 0, chk hs ps cs ss) := by
 unfold f11
 rw [f22_bad N hs ps cs ss hN h1 h2 h3 h4 hc, andThen_some]
 simp only
 rw [if_pos (by simpa using hc)]
theorem f11_no (N : Nat) (hs : List Span) (ps : List Pr) (cs : List Cn) (ss : List Sg) (l : List Set') (hN : 1000 ≤ N) (v : Valid hs ps cs ss) (ht : ¬ ∃ t, TruthO hs ps cs ss t) : f11 N hs ps cs ss l = some (0, 0, 9) := by
 obtain ⟨m, ok, e1, e2, e3⟩ := f22_eq N hs ps cs ss hN v
 have : ok = false := by
  cases ok with
  | false => rfl
  | true => exact absurd (e2.1 rfl) ht
 subst this
 unfold f11
 rw [e1, andThen_some]
 rfl
theorem f11_yes (N : Nat) (hs : List Span) (ps : List Pr) (cs : List Cn) (ss : List Sg) (l : List Set') (hN : 1000 ≤ N) (v : Valid hs ps cs ss) (hl : l.length ≤ 12) {m : List Int} (hm : f22 N hs ps cs ss = some (hs, ps, cs, ss, nts cs ss, m, 0)) (hh : f27 N hs ps cs ss (nts cs ss) m = some (hts hs.length m))
  (ht : Tight hs.length m (TruthO hs ps cs ss)) :
  (5 < l.length → f11 N hs ps cs ss l = some (0, 0, 5)) ∧ (l.length ≤ 5 → ¬ (∀ s ∈ l, okSet hs.length s) → f11 N hs ps cs ss l = some (0, 0, 2)) ∧
  (l.length ≤ 5 → (∀ s ∈ l, okSet hs.length s) → ∃ lo hi, Turns (spn hs.length m) l lo hi ∧ f11 N hs ps cs ss l = some (if lo ≤ hi then (lo, hi, 0) else (0, 0, 7))) := by
 have n5 := v.n5
 unfold f11
 rw [hm, andThen_some]
 simp only
 rw [if_neg (by decide), f26_eq N l hs ps cs ss (nts cs ss) (by omega) (by omega) (by omega), andThen_some]
 refine ⟨fun h => ?_, fun h hb => ?_, fun h hb => ?_⟩
 ·rw [if_pos (by simp; omega)]
 ·rw [if_neg (by simp; omega)]
  simp only
  rw [if_pos (by rw [decide_eq_false hb]; rfl)]
 ·rw [if_neg (by simp; omega)]
  simp only
  rw [if_neg (by rw [decide_eq_true hb]; decide), hh, andThen_some]
  obtain ⟨lo, hi, e1, e2⟩ := f11l0_eq N l 0 0 hs.length m (by omega) hl n5 hb fun p hp => by
   have a := tight_bd ht rfl n5 v.h p 5 (.inl hp) (.inr rfl)
   have b := tight_bd ht rfl n5 v.h 5 p (.inr rfl) (.inl hp)
   omega
  refine ⟨lo, hi, e2, ?_⟩
  rw [e1, andThen_some]
  simp only
  by_cases c : lo ≤ hi
  ·rw [if_neg (by simp; omega), if_pos c]
  ·rw [if_pos (by simp; omega), if_neg c]
end Go.Pl


namespace Go.Pl
open Go.Al Go.Proofs
theorem Turns.ends {h : List Span} {l : List Set'} {lo hi L H : Int} (ht : Turns h l lo hi) (hL : -300 ≤ L) (hLH : L ≤ H) (hH : H ≤ 300) (h : ∀ d, -300 ≤ d → d ≤ 300 → ((∀ j, j < l.length → okAt h (st l j) d) ↔ L ≤ d ∧ d ≤ H)) : lo = L ∧ hi = H := by
 obtain ⟨_, _, _, _, hd⟩ := ht
 have hiff : ∀ d, (lo ≤ d ∧ d ≤ hi) ↔ (L ≤ d ∧ d ≤ H) := fun d => by
  rw [hd]
  constructor
  ·rintro ⟨a, b, c⟩; exact (h d a b).1 c
  ·intro c; exact ⟨by omega, by omega, (h d (by omega) (by omega)).2 c⟩
 have a := (hiff L).2 ⟨Int.le_refl _, hLH⟩
 have b := (hiff H).2 ⟨hLH, Int.le_refl _⟩
 have c := (hiff lo).1 ⟨Int.le_refl _, by omega⟩
 have d := (hiff hi).1 ⟨by omega, Int.le_refl _⟩
 omega
theorem one_valid {hot : Int} (h0 : 0 ≤ hot) (h1 : hot ≤ 1000) : Valid [(hot, hot)] [] [] [] := by
 refine ⟨?_, ?_, ?_, ?_, ?_, ?_, ?_, ?_, ?_⟩ <;> simp [okSp] <;> omega
theorem turn_up (N : Nat) {hot runs : Int} (hN : 1000 ≤ N) (h0 : 300 ≤ hot) (h1 : hot ≤ 1000) (hw : okWr (0, runs)) (hL : -300 ≤ runs - 1 - hot) (hH : runs - 1 - hot ≤ 300) : f11 N [(hot, hot)] [] [] [] [((0 : Int), ((0 : Int), runs))] = some (-300, runs - 1 - hot, 0) := by
 have v := one_valid (hot := hot) (by omega) h1
 have htr : TruthO [(hot, hot)] [] [] [] (fun _ => hot) := ⟨(fun p hp => by
  simp at hp; subst hp; simp [sp]), (fun q hq => by cases hq), (fun x hx => by simp [nts] at hx)⟩
 have hall : ∀ t, TruthO [(hot, hot)] [] [] [] t → t 0 = hot := fun t ht => by
  have := ht.1 0 (by simp)
  simp [sp] at this
  omega
 obtain ⟨m, e1, e2, e3, _⟩ := f17_yes N _ _ _ _ hN v ⟨_, htr⟩
 have hspn : sp (spn [(hot, hot)].length m) 0 = (hot, hot) := Tight.span e2 (by simp) (fun t ht => by rw [hall t ht]; omega) ⟨_, htr, rfl⟩ ⟨_, htr, rfl⟩ (by simp)
 obtain ⟨_, _, h3⟩ := f11_yes N _ _ _ _ [((0 : Int), ((0 : Int), runs))] hN v (by simp) e1 e3 e2
 obtain ⟨lo, hi, ht, h4⟩ := h3 (by simp) (fun s hs => by
  simp at hs; subst hs
  exact ⟨by simp, by simp, hw⟩)
 obtain ⟨rfl, rfl⟩ := Turns.ends ht (L := -300) (H := runs - 1 - hot) (by omega) (by omega) hH (fun d hd1 hd2 => by
  constructor
  ·intro h
   have := h 0 (by simp)
   unfold okAt st at this
   simp only [List.getD_cons_zero, Int.toNat_zero, hspn] at this
   omega
  ·intro h j hj
   simp at hj; subst hj
   unfold okAt st
   simp only [List.getD_cons_zero, Int.toNat_zero, hspn]
   omega)
 rw [h4, if_pos (by omega)]
theorem f12_eq (N : Nat) (l : List Span) (hl : l.length < 1000) : f12 N l = some (l, [], [], []) := by
 unfold f12
 rw [if_pos (by rw [Nat.ble_eq]; simp; unfold boundLen; omega)]
 rfl
end Go.Pl


namespace Go.Pl
open Go.Al Go.Proofs
theorem known_ok : f14 50000 = some true := by kernel_rfl
end Go.Pl


namespace Go.Proofs.Ytgnkjceophhkpaa
open Go.ChangeShapes Go.WideShapes Go.ChangeAt Go.RowKit Go.Al
theorem own : ownKnob Try.prog.godebug = none := by kernel_rfl
theorem laidOut : laidOutB Try.prog = true := by kernel_rfl
abbrev Q0 : Ty := .pair (.int .u8) (.int .u8)
abbrev Q1 : Ty := .pair (.int .u8) Q0
abbrev Q2 : Ty := .pair (.int .u8) Q1
abbrev Q3 : Ty := .pair (.int .u8) Q2
abbrev Q4 : Ty := .pair (.int .u8) Q3
abbrev Q5 : Ty := .list Q0
abbrev Q6 : Ty := .pair Q5 Q1
abbrev Q7 : Ty := .pair Q4 Q6
end Go.Proofs.Ytgnkjceophhkpaa


namespace Go.Proofs.Ytgnkjceophhkpaa
open Go.ChangeShapes Go.WideShapes Go.ChangeAt Go.RowKit Go.Al
def Pure3 : Prop := ∀ (x0 : den Q7) (x1 : den (.list (.int .u8))) (x2 : den Q0), GoodD Q7 x0 → GoodD (.list (.int .u8)) x1 → GoodD Q0 x2 → ∃ N, f3 N x0.1.1 x0.1.2.1 x0.1.2.2.1 x0.1.2.2.2.1 x0.1.2.2.2.2.1 x0.1.2.2.2.2.2 x0.2.1 x0.2.2.1 x0.2.2.2.1 x0.2.2.2.2 x1 x2.1 x2.2 = some true
set_option maxRecDepth 100000 in
theorem lifted3 (pure : Pure3) (os : Os) (started : os.Started) (H : Type) (enc : TypeId × Value → H) :
  ReturnsInHanded {} Try.checked os 3 .any (Rows.topWidestTurnSpec.pre6 enc Try.prog Try.f3 Rows.topWidestTurnRow.domain false) (Rows.topWidestTurnSpec.post enc Try.prog Try.f3 false true false false) := by
 refine returnsInHanded_of_change (C := Try.checked) own started (by kernel_rfl) Try.func3
  (ChangeSpec.witness6 (enc := enc) (C := Try.checked) false ⟨#[], #[.agg #[.int .u8 0, .int .u8 0, .int .u8 0, .int .u8 0, .int .u8 0, .int .u8 0, .slice none 0 0, .int .u8 0, .int .u8 0, .int .u8 0], .slice none 0 0, .agg #[.int .u8 0, .int .u8 0]], []⟩ 8 (by kernel_rfl) (by kernel_rfl) (by kernel_rfl) (by kernel_rfl)) ?_
 intro W base args ds gs before hval0 hW hcnd _
 have hval : ∀ (j : Nat) t v, Try.f3.params[j]? = some t → args[j]? = some v → Value.okWide Try.prog W .any base t v := hval0
 have hW' := hW
 obtain ⟨p, q, hA0, hV, rfl, hfz, hnd⟩ := hW
 have hA : DataW.TrodAll enc Try.prog W 0 (fun _ => true) true Try.f3.params.toList args.toList ds p := hA0
 rw [show Try.f3.params.toList = [26, 27, 28] by kernel_rfl] at hA
 obtain ⟨v0, vs0, d0, ds0, p0, q0, hargs, rfl, rfl, h0, r0⟩ := trodAll_cons hA
 obtain ⟨v1, vs1, d1, ds1, p1, q1, rfl, rfl, rfl, h1, r1⟩ := trodAll_cons r0
 obtain ⟨v2, vs2, d2, ds2, p2, q2, rfl, rfl, rfl, h2, r2⟩ := trodAll_cons r1
 obtain ⟨rfl, rfl, rfl⟩ := trodAll_nil r2
 obtain rfl : args = #[v0, v1, v2] := by cases args; simp_all
 obtain ⟨rfl, rfl⟩ := trodVars_none hV
 obtain ⟨x0, g0, c0⟩ := arg_agg (ω := fun _ => 0) (γ := fun _ => 0) (κ := fun _ => 0) (by kernel_rfl) 20 Q7 (by kernel_rfl) (hval 0 26 v0 (by kernel_rfl) rfl) h0
 obtain ⟨x1, g1, c1⟩ := arg_slice (ω := fun _ => 0) (γ := fun _ => 0) (κ := fun _ => 0) (by kernel_rfl) 20 (.int .u8) (by kernel_rfl) (hval 1 27 v1 (by kernel_rfl) rfl) h1
 obtain ⟨x2, g2, c2⟩ := arg_agg (ω := fun _ => 0) (γ := fun _ => 0) (κ := fun _ => 0) (by kernel_rfl) 20 Q0 (by kernel_rfl) (hval 2 28 v2 (by kernel_rfl) rfl) h2
 obtain ⟨N, hN⟩ := pure x0 x1 x2 g0 g1 g2
 have key := law_calls (W := W) (f3ok N) (by kernel_rfl) (ins := [.agg (cellsT Q7 x0), .one (.sl (.int .u8) x1 none false), .agg (cellsT Q0 x2)]) (cargs := [v0, v1, v2]) (mres := [])
  (show andThen (f3 N x0.1.1 x0.1.2.1 x0.1.2.2.1 x0.1.2.2.2.1 x0.1.2.2.2.2.1 x0.1.2.2.2.2.2 x0.2.1 x0.2.2.1 x0.2.2.2.1 x0.2.2.2.2 x1 x2.1 x2.2) (fun y => some (AV.a (.one (.bool y)), ([] : Mem))) = _ by rw [hN]; rfl) (.cons c0 (.cons c1 (.cons c2 .nil)))
 refine key.mono fun e W' ⟨he, bel⟩ => ?_
 subst he
 exact ⟨_, rfl, _, _, _, [], _, [], hW', trodAll_mk1 (shut_bool (by kernel_rfl) _), (trodAll_cons_mk (bel.trod laidOut (by kernel_rfl) (of_decide_eq_true (by kernel_rfl)) h0) (trodAll_cons_mk (bel.trod laidOut (by kernel_rfl) (of_decide_eq_true (by kernel_rfl)) h1) (trodAll_cons_mk (bel.trod laidOut (by kernel_rfl) (of_decide_eq_true (by kernel_rfl)) h2) trodAll_mk0))), rfl, bel.frame _, fun h => by cases h⟩
theorem row3 (pure : Pure3) : Rows.TopWidestTurnSaid :=
 OpenClaim.holds_of_wide 3 Try.f3 rfl rfl rfl rfl rfl rfl rfl ⟨rfl, rfl, rfl, rfl, rfl⟩ rfl rfl rfl rfl rfl (by kernel_rfl) Try.func3 (by kernel_rfl)
  (of_decide_eq_true (by kernel_rfl)) (by unfold Func.isWrapper; first | (rw [if_pos (by decide +kernel)]; kernel_rfl) | (rw [if_neg (by decide +kernel)]; exact ⟨rfl, rfl⟩))
  (fun os started H enc _ => lifted3 pure os started H enc)
end Go.Proofs.Ytgnkjceophhkpaa


namespace Go.Pl
open Go.Al Go.Proofs
theorem lv_of {ws : List Int} {ps : List LP} {rim least blank : Int} (h6 : ws.length = 6) (hw : ∀ x ∈ ws, 1 ≤ x ∧ x ≤ 18) (hp : PsOk ps 8) (r0 : 0 ≤ rim) (r1 : rim ≤ 7) (l0 : 0 ≤ least) (l1 : least ≤ 4) (b0 : 0 ≤ blank) (b1 : blank ≤ 14) : LV ws ps rim least blank ∧ LV (ws ++ [1]) ps rim least blank := by
 have hl := hp.len
 refine ⟨⟨by omega, by omega, fun x hx => by have := hw x hx; omega, by omega, by omega, by omega, by omega, fun q hq => by have := hp.p q hq; omega, hp.nt⟩, ⟨by simp, by simp; omega, fun x hx => ?_, by omega, by omega, by omega, by omega, fun q hq => by have := hp.p q hq; simp; omega, hp.nt⟩⟩
 rcases List.mem_append.1 hx with h | h
 ·have := hw x h; omega
 ·simp at h; subst h; omega
theorem need_lo {ws : List Int} {ps : List LP} {rim least blank : Int} {w : List Int} (v : LV ws ps rim least blank) (h : WOk ws.length w) (h5 : w.length ≤ 5) (hb : ∀ x ∈ ws, x ≤ 18) (r : rim ≤ 7) (l : least ≤ 4) : needN ws rim least (mmap ps) w ≤ 250 := by
 have h1 := wsum_bd v.w h.m (Nat.le_refl w.length)
 have h2 := gsum_bd v.l (loose_mem v.mok (w := w) (i := w.length - 1)) (i := w.length - 1) (by rw [loose_len]; omega)
 have h3 := v.r
 have h4 : wsum ws w w.length ≤ 18 * (w.length : Int) := by
  have key : ∀ i, i ≤ w.length → wsum ws w i ≤ 18 * (i : Int) := fun i => by
   induction i with
   | zero => intro _; simp [wsum]
   | succ i ih =>
    intro hi
    rw [wsum_succ (by omega)]
    have h1 := h.m _ (getD_mem (d := 0) (show i < w.length by omega))
    have h2 := hb _ (getD_mem (d := 0) (show (w.getD i 0).toNat < ws.length by omega))
    have := ih (by omega)
    omega
  exact key _ (Nat.le_refl _)
 unfold needN
 omega
theorem law3 (a0 a1 a2 a3 a4 a5 : Int) (l : List (Int × Int)) (b0 b1 b2 : Int) (x : List Int) (v0 v1 : Int) (h0 : byte a0) (h1 : byte a1) (h2 : byte a2) (h3 : byte a3) (h4 : byte a4) (h5 : byte a5) (hl : ∀ x ∈ l, byte x.1 ∧ byte x.2) (hb0 : byte b0) (hb1 : byte b1) (hb2 : byte b2)
  (hx : ∀ y ∈ x, byte y) (hv0 : byte v0) (hv1 : byte v1) : f3 50000 a0 a1 a2 a3 a4 a5 l b0 b1 b2 x v0 v1 = some true := by
 obtain ⟨ws, ps, rim, least, blank, e1, e6, ew, ep, r0, r1, l0, l1, bl0, bl1⟩ := f5_ok a0 a1 a2 a3 a4 a5 l b0 b1 b2 h0 h1 h2 h3 h4 h5 hl hb0 hb1 hb2
 obtain ⟨w, e2, w1, w5, wm⟩ := f6_ok 50000 x 5 (by omega) (by omega) (by omega) hx
 obtain ⟨lv, lv2⟩ := lv_of e6 ew ep r0 r1 l0 l1 bl0 bl1
 have hpl := ep.len
 have wok : WOk ws.length w := ⟨w1, by omega, fun y hy => by have := wm y hy; omega⟩
 have k0 := hv0; have k1 := hv1
 unfold byte at k0 k1
 have hat : Int.tmod v0 (w.length : Int) = ((v0.toNat % w.length : Nat) : Int) := by
  rw [tmod_pos (by omega)]
  have : v0 = ((v0.toNat : Nat) : Int) := by omega
  generalize v0.toNat = n at *
  subst this
  rfl
 have hk : v0.toNat % w.length < w.length := Nat.mod_lt _ (by omega)
 generalize hkk : v0.toNat % w.length = k at *
 have wok2 : WOk (ws ++ [1]).length (w.set k 6) := ⟨by simp; omega, by simp; omega, fun y hy => by
  simp only [List.length_append, List.length_cons, List.length_nil, e6]
  rcases List.mem_or_eq_of_mem_set hy with h | h
  ·have := wm y h; omega
  ·omega⟩
 have g0 : List.getD [v0, v1] 0 0 = v0 := rfl
 have g1 : List.getD [v0, v1] 1 0 = v1 := rfl
 have hlen : Go.IntKind.wrap .i64 (1 + Go.IntKind.wrap .i64 v1) = 1 + v1 := by rw [w_byte hv1, w64_id (by omega) (by omega)]
 unfold f3
 have e2 : f6 50000 x 5 = some w := e2
 rw [e1, andThen_some]
 simp only
 rw [e2, andThen_some, if_pos (by decide), if_pos (show (((w.length : Nat) : Int) != 0) = true by rw [bne_iff_ne]; omega), if_pos (by decide), f7_eq _ _ _ _ _ _ (by omega) (by omega), andThen_some]
 simp only
 rw [f8_eq _ _ (by omega), andThen_some, if_pos (ble_b (by simp; omega)), g0, g1, w_byte hv0, hat, hlen, if_pos (dd (by omega) (by omega)), Int.toNat_natCast]
 rw [f9_ok _ (by omega) lv2 wok2, andThen_some]
 simp only
 have hn := need_more (rim := rim) (least := least) (m := mmap ps) e6 l0 w5 hk wm (lk6 fun q hq => by have := ep.p q hq; omega)
 have hb1 := (needN_bd lv2 wok2).1
 have hb2 := need_lo lv2 wok2 (by simpa using w5) (fun y hy => by
  rcases List.mem_append.1 hy with h | h
  ·exact (ew y h).2
  ·simp at h; subst h; omega) r1 l1
 generalize hB : beside ws rim least (mmap ps) w k = B at *
 generalize hD : needN (ws ++ [1]) rim least (mmap ps) (w.set k 6) = D at *
 rw [if_pos (by decide), if_pos (by rw [decide_eq_false (by omega)]), if_neg (dn (by omega)), andThen_some]
 simp only
 rw [andThen_some, f10_ok _ (by omega) lv wok hk (by omega), andThen_some, hB]
 have wD : Go.IntKind.wrap .i64 (400 + D) = 400 + D := w64_id (by omega) (by omega)
 have wL : Go.IntKind.wrap .i64 (401 + (1 + v1)) = 401 + (1 + v1) := w64_id (by omega) (by omega)
 have wM : Go.IntKind.wrap .i64 (1 + v1 - D) = 1 + v1 - D := w64_id (by omega) (by omega)
 rw [f13, andThen_some]
 simp only
 rw [f12_eq _ _ (by simp), andThen_some]
 simp only
 rw [wD, wL, turn_up 50000 (by omega) (by omega) (by omega) (by unfold okWr; simp only; omega) (by omega) (by omega), andThen_some]
 simp only
 have hT : 401 + (1 + v1) - 1 - (400 + D) = 1 + v1 - D := by omega
 rw [hT, wM, if_pos (by decide), if_pos (show 1 + v1 - D < 300 by omega), if_neg (by simp)]
 by_cases hneg : 1 + v1 - D < 0
 ·rw [if_pos (d1 hneg), if_pos (show B ≥ 1 + v1 by omega), if_pos (by decide), if_pos (by decide), known_ok]
  rfl
 ·have wE : Go.IntKind.wrap .i64 (1 + (1 + v1 - D)) = 1 + v1 - B := by rw [w64_id (by omega) (by omega)]; omega
  rw [if_neg (dn hneg), if_neg (show ¬ B ≥ 1 + v1 by omega), wE, if_pos (by rfl), if_pos (by simp), known_ok]
  rfl
end Go.Pl
namespace Go.Proofs.Ytgnkjceophhkpaa
theorem byte_of {n : Int} (h : (Go.Lit.int .u8 n).wf = true) : Go.Pl.byte n := by
 unfold Go.Lit.wf at h
 rw [Bool.and_eq_true, decide_eq_true_eq, decide_eq_true_eq] at h
 exact h
theorem pure3 : Pure3 := fun x0 x1 x2 g0 g1 g2 => ⟨50000, by
 obtain ⟨⟨a0, a1, a2, a3, a4, a5⟩, ⟨_, hl⟩, b0, b1, b2⟩ := g0
 exact Go.Pl.law3 _ _ _ _ _ _ _ _ _ _ _ _ _ (byte_of a0) (byte_of a1) (byte_of a2) (byte_of a3) (byte_of a4) (byte_of a5) (fun x hx => ⟨byte_of (hl x hx).1, byte_of (hl x hx).2⟩) (byte_of b0) (byte_of b1) (byte_of b2) (fun y hy => byte_of (g1.2 y hy)) (byte_of g2.1) (byte_of g2.2)⟩
theorem topWidestTurn_holds : Rows.TopWidestTurnSaid := row3 pure3
end Go.Proofs.Ytgnkjceophhkpaa

