/- The law. TopPairHeats. -/
import Derived.Test.YtnkopbhjflcbgaaAlUse
import Derived.KernelRfl
import Derived.Test.YtnkopbhjflcbgaaRows
import Derived.Test.YtnkopbhjflcbgaaAlRow
import Derived.Test.YtnkopbhjflcbgaaMx4F4
set_option linter.unusedVariables false
set_option linter.unusedSimpArgs false
namespace Go.Pl
abbrev w64 (z : Int) : Int := Go.IntKind.wrap .i64 z
theorem w64_id {z : Int} (h1 : -9223372036854775808 ≤ z) (h2 : z < 9223372036854775808) : Go.IntKind.wrap .i64 z = z := by
 simp [IntKind.wrap, IntKind.signed, IntKind.bits]
 split <;> omega
def ent (m : List Int) (a b : Nat) : Int := m.getD (a * 6 + b) 0
def lim (a b : Nat) (v : Int) (m : List Int) : List Int := m.set (a * 6 + b) (if v < ent m a b then v else ent m a b)
@[simp] theorem lim_len (a b : Nat) (v : Int) (m : List Int) : (lim a b v m).length = m.length := by simp [lim]
theorem ent_lim {a b c d : Nat} {v : Int} {m : List Int} (hl : m.length = 36) (ha : a < 6) (hb : b < 6) (hc : c < 6) (hd : d < 6) :
  ent (lim a b v m) c d = if c = a ∧ d = b then (if v < ent m a b then v else ent m a b) else ent m c d := by
 unfold ent lim
 by_cases h : c = a ∧ d = b
 ·obtain ⟨rfl, rfl⟩ := h
  rw [if_pos (show c = c ∧ d = d from ⟨rfl, rfl⟩), List.getD_eq_getElem?_getD, List.getElem?_set_self (by omega)]
  rfl
 ·rw [if_neg h, List.getD_eq_getElem?_getD, List.getElem?_set_ne (by omega), ← List.getD_eq_getElem?_getD]
def Sat (m : List Int) (t : Nat → Int) : Prop := ∀ a b, a < 6 → b < 6 → t b - t a ≤ ent m a b
theorem sat_lim {a b : Nat} {v : Int} {m : List Int} {t : Nat → Int} (hl : m.length = 36) (ha : a < 6) (hb : b < 6) : Sat (lim a b v m) t ↔ Sat m t ∧ t b - t a ≤ v := by
 constructor
 ·intro h
  refine ⟨fun c d hc hd => ?_, ?_⟩
  ·have := h c d hc hd
   rw [ent_lim hl ha hb hc hd] at this
   split at this
   ·rename_i e; obtain ⟨rfl, rfl⟩ := e; split at this <;> omega
   ·exact this
  ·have := h a b ha hb
   rw [ent_lim hl ha hb ha hb, if_pos ⟨rfl, rfl⟩] at this
   split at this <;> omega
 ·rintro ⟨h, hv⟩ c d hc hd
  rw [ent_lim hl ha hb hc hd]
  split
  ·rename_i e; obtain ⟨rfl, rfl⟩ := e
   have := h c d hc hd
   split <;> omega
  ·exact h c d hc hd
def relax (k a b : Nat) (m : List Int) : List Int := lim a b (w64 (ent m a k + ent m k b)) m
def row (k a n : Nat) (m : List Int) : List Int := (List.range n).foldl (fun m b => relax k a b m) m
def stage (k n : Nat) (m : List Int) : List Int := (List.range n).foldl (fun m a => row k a 6 m) m
def fw (n : Nat) (m : List Int) : List Int := (List.range n).foldl (fun m k => stage k 6 m) m
theorem row_succ (k a n : Nat) (m : List Int) : row k a (n + 1) m = relax k a n (row k a n m) := by simp [row, List.range_succ]
theorem stage_succ (k n : Nat) (m : List Int) : stage k (n + 1) m = row k n 6 (stage k n m) := by simp [stage, List.range_succ]
theorem fw_succ (n : Nat) (m : List Int) : fw (n + 1) m = stage n 6 (fw n m) := by simp [fw, List.range_succ]
theorem fw_inv {I : List Int → Prop} (h : ∀ k a b m, k < 6 → a < 6 → b < 6 → I m → I (relax k a b m)) : ∀ n, n ≤ 6 → ∀ m, I m → I (fw n m) := by
 have h1 : ∀ k a n m, k < 6 → a < 6 → n ≤ 6 → I m → I (row k a n m) := fun k a n m hk ha hn hm => by
  induction n with
  | zero => exact hm
  | succ n ih => rw [row_succ]; exact h k a n _ hk ha (by omega) (ih (by omega))
 have h2 : ∀ k n m, k < 6 → n ≤ 6 → I m → I (stage k n m) := fun k n m hk hn hm => by
  induction n with
  | zero => exact hm
  | succ n ih => rw [stage_succ]; exact h1 k n 6 _ hk (by omega) (Nat.le_refl _) (ih (by omega))
 intro n hn m hm
 induction n with
 | zero => exact hm
 | succ n ih => rw [fw_succ]; exact h2 n 6 _ (by omega) (Nat.le_refl _) (ih (by omega))
def LeM (m' m : List Int) : Prop := m'.length = 36 ∧ ∀ a b, a < 6 → b < 6 → ent m' a b ≤ ent m a b
theorem relax_le {k a b : Nat} {m m0 : List Int} (ha : a < 6) (hb : b < 6) (h : LeM m m0) : LeM (relax k a b m) m0 := by
 refine ⟨by simp [relax, h.1], fun c d hc hd => ?_⟩
 unfold relax
 rw [ent_lim h.1 ha hb hc hd]
 have h1 := h.2 c d hc hd
 split
 ·rename_i e; obtain ⟨rfl, rfl⟩ := e; split <;> omega
 ·exact h1
theorem row_le {k a n : Nat} {m m0 : List Int} (ha : a < 6) (hn : n ≤ 6) (h : LeM m m0) : LeM (row k a n m) m0 := by
 induction n with
 | zero => exact h
 | succ n ih => rw [row_succ]; exact relax_le ha (by omega) (ih (by omega))
theorem stage_le {k n : Nat} {m m0 : List Int} (hn : n ≤ 6) (h : LeM m m0) : LeM (stage k n m) m0 := by
 induction n with
 | zero => exact h
 | succ n ih => rw [stage_succ]; exact row_le (by omega) (Nat.le_refl _) (ih (by omega))
theorem fw_le {m : List Int} (hl : m.length = 36) : ∀ n, n ≤ 6 → ∀ k, k ≤ n → LeM (fw n m) (fw k m) := by
 intro n
 induction n with
 | zero => intro _ k hk; cases Nat.le_zero.1 hk; exact ⟨hl, fun _ _ _ _ => Int.le_refl _⟩
 | succ n ih =>
  intro hn k hk
  have hl' : LeM (fw n m) (fw n m) := ⟨(ih (by omega) 0 (by omega)).1, fun _ _ _ _ => Int.le_refl _⟩
  rcases Nat.lt_or_ge k (n + 1) with h | h
  ·rw [fw_succ]; exact stage_le (Nat.le_refl _) (ih (by omega) k (by omega))
  ·have : k = n + 1 := by omega
   subst this
   rw [fw_succ]
   exact ⟨(stage_le (Nat.le_refl _) hl').1, fun _ _ _ _ => Int.le_refl _⟩
theorem fw_sat {m : List Int} {t : Nat → Int} (hl : m.length = 36) (hb : ∀ a b, a < 6 → b < 6 → ent m a b ≤ 1048576) (ht : ∀ a b, a < 6 → b < 6 → -1048576 ≤ t b - t a) (hs : Sat m t) : Sat (fw 6 m) t := by
 have := fw_inv (I := fun m => m.length = 36 ∧ (∀ a b, a < 6 → b < 6 → ent m a b ≤ 1048576) ∧ Sat m t) (fun k a b m hk ha hb ⟨h1, h2, h3⟩ => by
  have e1 := h2 a k ha hk
  have e2 := h2 k b hk hb
  have f1 := h3 a k ha hk
  have f2 := h3 k b hk hb
  have g1 := ht a k ha hk
  have g2 := ht k b hk hb
  have ew : w64 (ent m a k + ent m k b) = ent m a k + ent m k b := w64_id (by omega) (by omega)
  refine ⟨by simp [relax, h1], fun c d hc hd => ?_, ?_⟩
  ·have := (relax_le (k := k) ha hb (m0 := m) ⟨h1, fun _ _ _ _ => Int.le_refl _⟩).2 c d hc hd
   have := h2 c d hc hd
   omega
  ·unfold relax
   rw [sat_lim h1 ha hb, ew]
   exact ⟨h3, by omega⟩) 6 (Nat.le_refl _) m ⟨hl, hb, hs⟩
 exact this.2.2
theorem row_eq {m D : List Int} {k a : Nat} (hk : k < 6) (ha : a < 6) (hl : m.length = 36) (hkk : 0 ≤ ent D k k) (hB : ∀ x y, x < 6 → y < 6 → -1099511627776 ≤ ent D x y ∧ ent D x y ≤ 1099511627776)
  (hm : ∀ x y, x < 6 → y < 6 → ent m x y = if x < a then min (ent D x y) (ent D x k + ent D k y) else ent D x y) : ∀ n, n ≤ 6 → (row k a n m).length = 36 ∧
  ∀ x y, x < 6 → y < 6 → ent (row k a n m) x y = if x < a ∨ (x = a ∧ y < n) then min (ent D x y) (ent D x k + ent D k y) else ent D x y := by
 intro n
 induction n with
 | zero => intro _; exact ⟨hl, fun x y hx hy => by show ent m x y = _; rw [hm x y hx hy]; simp⟩
 | succ n ih =>
  intro hn
  obtain ⟨i1, i2⟩ := ih (by omega)
  rw [row_succ]
  refine ⟨by simp [relax, i1], fun x y hx hy => ?_⟩
  unfold relax
  have r1 : ent (row k a n m) a k = ent D a k := by rw [i2 a k ha hk]; split <;> omega
  have r2 : ent (row k a n m) k n = ent D k n := by rw [i2 k n hk (by omega)]; split <;> omega
  have b1 := hB a k ha hk
  have b2 := hB k n hk (by omega)
  rw [ent_lim i1 ha (by omega) hx hy, r1, r2, show w64 (ent D a k + ent D k n) = ent D a k + ent D k n from w64_id (by omega) (by omega)]
  by_cases e : x = a ∧ y = n
  ·obtain ⟨rfl, rfl⟩ := e
   have e2 := i2 x y hx hy
   rw [if_neg (by omega)] at e2
   rw [if_pos (show x = x ∧ y = y from ⟨rfl, rfl⟩), if_pos (show x < x ∨ x = x ∧ y < y + 1 from .inr ⟨rfl, Nat.lt_succ_self _⟩), e2]
   split <;> omega
  ·rw [if_neg e, i2 x y hx hy]
   by_cases h : x < a ∨ x = a ∧ y < n
   ·rw [if_pos h, if_pos (by omega)]
   ·rw [if_neg h, if_neg (by omega)]
theorem stage_eq {D : List Int} {k : Nat} (hk : k < 6) (hl : D.length = 36) (hkk : 0 ≤ ent D k k) (hB : ∀ x y, x < 6 → y < 6 → -1099511627776 ≤ ent D x y ∧ ent D x y ≤ 1099511627776) : ∀ n, n ≤ 6 → (stage k n D).length = 36 ∧
  ∀ x y, x < 6 → y < 6 → ent (stage k n D) x y = if x < n then min (ent D x y) (ent D x k + ent D k y) else ent D x y := by
 intro n
 induction n with
 | zero => intro _; exact ⟨hl, fun x y hx hy => by simp [stage]⟩
 | succ n ih =>
  intro hn
  obtain ⟨i1, i2⟩ := ih (by omega)
  rw [stage_succ]
  obtain ⟨j1, j2⟩ := row_eq hk (by omega) i1 hkk hB i2 6 (Nat.le_refl _)
  refine ⟨j1, fun x y hx hy => ?_⟩
  rw [j2 x y hx hy]
  by_cases h : x < n + 1
  ·rw [if_pos h, if_pos (by omega)]
  ·rw [if_neg h, if_neg (by omega)]
def Closed (n : Nat) (m : List Int) : Prop := ∀ k a b, k < n → a < 6 → b < 6 → ent m a b ≤ ent m a k + ent m k b
theorem fw_closed {m : List Int} (hl : m.length = 36) (hb : ∀ a b, a < 6 → b < 6 → -1048576 ≤ ent m a b ∧ ent m a b ≤ 1048576) (hd : ∀ a, a < 6 → 0 ≤ ent (fw 6 m) a a) :
  ∀ n, n ≤ 6 → Closed n (fw n m) ∧ ∀ a b, a < 6 → b < 6 → -(1048576 * 2 ^ n) ≤ ent (fw n m) a b ∧ ent (fw n m) a b ≤ 1048576 := by
 intro n
 induction n with
 | zero => intro _; exact ⟨fun k _ _ h => absurd h (Nat.not_lt_zero _), fun a b ha hb' => by have := hb a b ha hb'; rw [show fw 0 m = m from rfl]; omega⟩
 | succ n ih =>
  intro hn
  obtain ⟨hc, hbd⟩ := ih (by omega)
  have hln : (fw n m).length = 36 := (fw_le hl n (by omega) 0 (by omega)).1
  have hkk : ∀ a, a < 6 → 0 ≤ ent (fw n m) a a := fun a ha => Int.le_trans (hd a ha) ((fw_le hl 6 (Nat.le_refl _) n (by omega)).2 a a ha ha)
  have hpow : (1048576 : Int) * 2 ^ n ≤ 1048576 * 64 ∧ 0 ≤ (1048576 : Int) * 2 ^ n := by
   have : n = 0 ∨ n = 1 ∨ n = 2 ∨ n = 3 ∨ n = 4 ∨ n = 5 := by omega
   rcases this with rfl | rfl | rfl | rfl | rfl | rfl <;> decide
  have hB : ∀ x y, x < 6 → y < 6 → -1099511627776 ≤ ent (fw n m) x y ∧ ent (fw n m) x y ≤ 1099511627776 := fun x y hx hy => by
   have := hbd x y hx hy
   omega
  obtain ⟨_, he⟩ := stage_eq (k := n) (by omega) hln (hkk n (by omega)) hB 6 (Nat.le_refl _)
  have he : ∀ x y, x < 6 → y < 6 → ent (fw (n + 1) m) x y = min (ent (fw n m) x y) (ent (fw n m) x n + ent (fw n m) n y) := fun x y hx hy => by
   rw [fw_succ, he x y hx hy, if_pos hx]
  have h0 := hkk n (by omega)
  refine ⟨fun k a b hk ha hb' => ?_, fun a b ha hb' => ?_⟩
  ·rw [he a b ha hb', he a k ha (by omega), he k b (by omega) hb']
   rcases Nat.lt_or_ge k n with h | h
   ·have c1 := hc k a b h ha hb'
    have c2 := hc k a n h ha (by omega)
    have c3 := hc k n b h (by omega) hb'
    have c4 := hc k n n h (by omega) (by omega)
    omega
   ·have : k = n := by omega
    subst this
    omega
  ·have p1 := hbd a b ha hb'
   have p2 := hbd a n ha (by omega)
   have p3 := hbd n b (by omega) hb'
   rw [he a b ha hb']
   have : (1048576 : Int) * 2 ^ (n + 1) = 1048576 * 2 ^ n * 2 := by rw [Int.pow_succ, Int.mul_assoc]
   rw [this]
   generalize (1048576 : Int) * 2 ^ n = q at *
   rcases Int.le_total (ent (fw n m) a b) (ent (fw n m) a n + ent (fw n m) n b) with h | h
   ·rw [Int.min_eq_left h]; omega
   ·rw [Int.min_eq_right h]; omega
theorem fw_spec {m : List Int} (hl : m.length = 36) (hb : ∀ a b, a < 6 → b < 6 → -1048576 ≤ ent m a b ∧ ent m a b ≤ 1048576) (hz : ∀ a, a < 6 → ent m a a ≤ 0) :
  (fw 6 m).length = 36 ∧ ((∀ a, a < 6 → 0 ≤ ent (fw 6 m) a a) ↔ ∃ t, Sat m t) ∧ (∀ t, Sat m t → Sat (fw 6 m) t) ∧
  ((∀ a, a < 6 → 0 ≤ ent (fw 6 m) a a) → ∀ c, c < 6 → Sat m (fun b => ent (fw 6 m) c b) ∧ ent (fw 6 m) c c = 0) := by
 have hle := fw_le hl 6 (Nat.le_refl _) 0 (by omega)
 have hs : ∀ t, Sat m t → Sat (fw 6 m) t := fun t ht => fw_sat hl (fun a b ha hb' => (hb a b ha hb').2) (fun a b ha hb' => by
  have := ht b a hb' ha
  have := (hb b a hb' ha).2
  omega) ht
 have hc : (∀ a, a < 6 → 0 ≤ ent (fw 6 m) a a) → ∀ c, c < 6 → Sat m (fun b => ent (fw 6 m) c b) ∧ ent (fw 6 m) c c = 0 := fun hd c hc => by
  obtain ⟨h1, _⟩ := fw_closed hl hb hd 6 (Nat.le_refl _)
  refine ⟨fun a b ha hb' => ?_, ?_⟩
  ·have := h1 a c b ha hc hb'
   have := hle.2 a b ha hb'
   have e : ent (fw 0 m) a b = ent m a b := rfl
   show ent (fw 6 m) c b - ent (fw 6 m) c a ≤ ent m a b
   omega
  ·have := hle.2 c c hc hc
   have := hz c hc
   have := hd c hc
   have e : ent (fw 0 m) c c = ent m c c := rfl
   omega
 refine ⟨hle.1, ⟨fun hd => ⟨_, (hc hd 0 (by omega)).1⟩, fun ⟨t, ht⟩ a ha => ?_⟩, hs, hc⟩
 have := hs t ht a a ha ha
 omega
end Go.Pl


namespace Go.Pl
open Go.Al
@[simp] theorem andThen_some {α R : Type} (x : α) (k : α → Option R) : andThen (some x) k = k x := rfl
@[simp] theorem either_inl {α β R : Type} (x : α) (f : α → R) (g : β → R) : either (.inl x) f g = f x := rfl
@[simp] theorem either_inr {α β R : Type} (x : β) (f : α → R) (g : β → R) : either (.inr x) f g = g x := rfl
theorem w_succ {i : Nat} (h : i < 4611686018427387904) : Go.IntKind.wrap .i64 ((i : Int) + 1) = ((i + 1 : Nat) : Int) := by
 rw [w64_id (by omega) (by omega)]; rfl
theorem loop_run {S R : Type} (L : Nat → S → Option R) (I : S → Prop) (m : S → Nat) (Q : R → Prop)
  (step : ∀ q s, I s → (∃ r, L (q + 1) s = some r ∧ Q r) ∨ (∃ s', I s' ∧ m s' < m s ∧ L (q + 1) s = L q s')) : ∀ q s, I s → m s < q → ∃ r, L q s = some r ∧ Q r := by
 intro q
 induction q with
 | zero => intro s _ h; exact absurd h (Nat.not_lt_zero _)
 | succ q ih =>
  intro s hs hm
  rcases step q s hs with h | ⟨s', h1, h2, h3⟩
  ·exact h
  ·rw [h3]; exact ih s' h1 (by omega)
theorem getD_set {α : Type} (l : List α) (a b : Nat) (x d : α) : (l.set a x).getD b d = if a = b ∧ a < l.length then x else l.getD b d := by
 by_cases h : a = b
 ·subst h
  by_cases hl : a < l.length
  ·simp [hl]
  ·simp [hl]
 ·simp [h, List.getD_eq_getElem?_getD, List.getElem?_set_ne h]
abbrev Span := Int × Int
abbrev Pr := Int × (Int × Int)
abbrev Cn := Int × (Int × Bool)
abbrev Sg := Int × ((Int × Int) × Int)
def sp (l : List Span) (p : Nat) : Span := l.getD p (0, 0)
def Box (l : List Span) (t : Nat → Int) : Prop := ∀ p, p < l.length → (sp l p).1 ≤ t p ∧ t p ≤ (sp l p).2
def Prs (ps : List Pr) (t : Nat → Int) : Prop := ∀ q ∈ ps, t q.1.toNat - t q.2.1.toNat ≤ q.2.2 ∧ t q.2.1.toNat - t q.1.toNat ≤ q.2.2
def okPr (n : Nat) (q : Pr) : Prop := 0 ≤ q.1 ∧ q.1 < n ∧ 0 ≤ q.2.1 ∧ q.2.1 < n ∧ q.1 ≠ q.2.1 ∧ 0 ≤ q.2.2 ∧ q.2.2 ≤ 1000
end Go.Pl


namespace Go.Pl
open Go.Al Go.Proofs
theorem f82_eq (N : Nat) {a b : Int} (v : Int) (m : List Int) (ha : 0 ≤ a) (ha' : a < 6) (hb : 0 ≤ b) (hb' : b < 6) : f82 N a b v m = some (lim a.toNat b.toNat v m) := by
 unfold f82
 simp only [ha, ha', hb, hb', decide_true, Bool.and_true, if_true, Nat.zero_add, Nat.mul_one]
 rfl
theorem f83l2_eq (N : Nat) (k a : Nat) (x2 x3 : Int) (m : List Int) (hk : k < 6) (ha : a < 6) (hN : 6 < N) : f83l2 N N k a x2 x3 0 m = some ((k : Int), x2, x3, row k a 6 m) := by
 obtain ⟨r, h1, rfl⟩ := loop_run (fun q (b : Nat) => f83l2 N q k a x2 x3 b (row k a b m)) (fun b => b ≤ 6) (fun b => 6 - b) (fun r => r = ((k : Int), x2, x3, row k a 6 m)) (fun q b hb => by
  by_cases h : b < 6
  ·right
   refine ⟨b + 1, h, by omega, ?_⟩
   show f83l2B N (f83l2 N q) k a x2 x3 b (row k a b m) = _
   unfold f83l2B
   simp only [show ((b : Int) < 6) by omega, show ((a : Int) < 6) by omega, show ((k : Int) < 6) by omega, Int.natCast_nonneg, decide_true, Bool.and_true, if_true, Nat.zero_add, Nat.mul_one, Int.toNat_natCast, w_succ (show b < 4611686018427387904 by omega)]
   rw [f82_eq N _ _ (by omega) (by omega) (by omega) (by omega), andThen_some, row_succ]
   rfl
  ·left
   have : b = 6 := by omega
   subst this
   exact ⟨_, rfl, rfl⟩) N 0 (by omega) (by omega)
 exact h1
theorem f83l1_eq (N : Nat) (k : Nat) (x1 : Int) (m : List Int) (hk : k < 6) (hN : 6 < N) : f83l1 N N k x1 0 m = some (x1, stage k 6 m) := by
 obtain ⟨r, h1, rfl⟩ := loop_run (fun q (a : Nat) => f83l1 N q k x1 a (stage k a m)) (fun b => b ≤ 6) (fun b => 6 - b) (fun r => r = (x1, stage k 6 m)) (fun q a hb => by
  by_cases h : a < 6
  ·right
   refine ⟨a + 1, h, by omega, ?_⟩
   show f83l1B N (f83l1 N q) k x1 a (stage k a m) = _
   unfold f83l1B
   simp only [show ((a : Int) < 6) by omega, decide_true, if_true]
   rw [f83l2_eq N k a x1 a _ hk h hN, andThen_some, stage_succ]
   simp only [w_succ (show a < 4611686018427387904 by omega)]
  ·left
   have : a = 6 := by omega
   subst this
   exact ⟨_, rfl, rfl⟩) N 0 (by omega) (by omega)
 exact h1
theorem f83l0_eq (N : Nat) (m : List Int) (hN : 6 < N) : f83l0 N N 0 m = some (fw 6 m) := by
 obtain ⟨r, h1, h3⟩ := loop_run (fun q (a : Nat) => f83l0 N q a (fw a m)) (fun b => b ≤ 6) (fun b => 6 - b) (fun r => r = fw 6 m) (fun q a hb => by
  by_cases h : a < 6
  ·right
   refine ⟨a + 1, h, by omega, ?_⟩
   show f83l0B N (f83l0 N q) a (fw a m) = _
   unfold f83l0B
   simp only [show ((a : Int) < 6) by omega, decide_true, if_true]
   rw [f83l1_eq N a a _ h hN, andThen_some, fw_succ]
   simp only [w_succ (show a < 4611686018427387904 by omega)]
  ·left
   have : a = 6 := by omega
   subst this
   refine ⟨_, ?_, rfl⟩
   show f83l0B N (f83l0 N q) ((6 : Nat) : Int) (fw 6 m) = _
   unfold f83l0B
   exact if_neg (by decide)) N 0 (by omega) (by omega)
 rw [h3] at h1
 exact h1
theorem f83_eq (N : Nat) (m : List Int) (hN : 6 < N) : ∃ ok, f83 N m = some (ok, fw 6 m) ∧ (ok = true ↔ ∀ a, a < 6 → 0 ≤ ent (fw 6 m) a a) := by
 generalize hf : fw 6 m = m'
 obtain ⟨r, h1, h2⟩ := loop_run (fun q (a : Nat) => f83l3 N q a m') (fun b => b ≤ 6 ∧ ∀ a, a < b → 0 ≤ ent m' a a) (fun b => 6 - b) (fun r => (r = .inl (false, m') ∧ ¬ ∀ a, a < 6 → 0 ≤ ent m' a a) ∨ (r = .inr m' ∧ ∀ a, a < 6 → 0 ≤ ent m' a a)) (fun q a hb => by
  obtain ⟨hb, hd⟩ := hb
  by_cases h : a < 6
  ·by_cases hn : ent m' a a < 0
   ·left
    refine ⟨.inl (false, m'), ?_, .inl ⟨rfl, fun h' => by have := h' a h; omega⟩⟩
    show f83l3B N (f83l3 N q) a m' = _
    unfold f83l3B
    simp only [show ((a : Int) < 6) by omega, Int.natCast_nonneg, decide_true, Bool.and_true, if_true, Nat.zero_add, Nat.mul_one, Int.toNat_natCast]
    exact if_pos (decide_eq_true hn)
   ·right
    refine ⟨a + 1, ⟨h, fun c hc => ?_⟩, by omega, ?_⟩
    ·rcases Nat.lt_or_ge c a with h' | h'
     ·exact hd c h'
     ·have : c = a := by omega
      subst this; omega
    ·show f83l3B N (f83l3 N q) a m' = _
     unfold f83l3B
     simp only [show ((a : Int) < 6) by omega, Int.natCast_nonneg, decide_true, Bool.and_true, if_true, Nat.zero_add, Nat.mul_one, Int.toNat_natCast, w_succ (show a < 4611686018427387904 by omega)]
     exact if_neg fun h => hn (of_decide_eq_true h)
  ·left
   have : a = 6 := by omega
   subst this
   exact ⟨_, rfl, .inr ⟨rfl, hd⟩⟩) N 0 ⟨by omega, fun a ha => absurd ha (Nat.not_lt_zero _)⟩ (by omega)
 unfold f83
 rw [f83l0_eq N m hN, andThen_some, hf]
 simp only [show f83l3 N N (0 : Int) m' = some r from h1, andThen_some]
 rcases h2 with ⟨rfl, h2⟩ | ⟨rfl, h2⟩
 ·exact ⟨false, rfl, by simpa using h2⟩
 ·exact ⟨true, rfl, by simpa using h2⟩
def Fine (m : List Int) : Prop := m.length = 36 ∧ (∀ a b, a < 6 → b < 6 → -1048576 ≤ ent m a b ∧ ent m a b ≤ 1048576) ∧ ∀ a, a < 6 → ent m a a ≤ 0
theorem fine_lim {m : List Int} {a b : Nat} {v : Int} (h : Fine m) (ha : a < 6) (hb : b < 6) (hv : -1048576 ≤ v) (hv' : v ≤ 1048576) : Fine (lim a b v m) := by
 refine ⟨by simp [h.1], fun c d hc hd => ?_, fun c hc => ?_⟩
 ·rw [ent_lim h.1 ha hb hc hd]
  have := h.2.1 c d hc hd
  have := h.2.1 a b ha hb
  split
  ·split <;> omega
  ·omega
 ·rw [ent_lim h.1 ha hb hc hc]
  have := h.2.2 c hc
  split
  ·rename_i e; obtain ⟨rfl, e⟩ := e; subst e; split <;> omega
  ·omega
abbrev Nt := Cn ⊕ Sg
def NoteT : Nt → Int → Prop
 | .inl c, u => if c.2.2 = true then c.2.1 ≤ u else u ≤ c.2.1 - 1
 | .inr s, u => if s.2.2 = 3 then s.2.1.2 ≤ u else if s.2.2 = 2 then s.2.1.1 ≤ u ∧ u ≤ s.2.1.2 - 1 else u ≤ s.2.1.1 - 1
def plc : Nt → Int
 | .inl c => c.1
 | .inr s => s.1
def okCn (n : Nat) (c : Cn) : Prop := 0 ≤ c.1 ∧ c.1 < n ∧ 1 ≤ c.2.1 ∧ c.2.1 ≤ 1000
def okWr (w : Span) : Prop := 0 ≤ w.1 ∧ w.1 < w.2 ∧ w.2 ≤ 1000
def okSg (n : Nat) (s : Sg) : Prop := 0 ≤ s.1 ∧ s.1 < n ∧ okWr s.2.1 ∧ 1 ≤ s.2.2 ∧ s.2.2 ≤ 3
def okNt (n : Nat) : Nt → Prop
 | .inl c => okCn n c
 | .inr s => okSg n s
def Tells (m : List Int) (R : (Nat → Int) → Prop) : Prop := Fine m ∧ ∀ t, Sat m t ↔ R t
theorem above_eq (N : Nat) {p : Int} {v : Int} {m : List Int} {R : (Nat → Int) → Prop} (h : Tells m R) (hp : 0 ≤ p) (hp' : p < 5) (hv : -100000 ≤ v) (hv' : v ≤ 100000) :
  ∃ m', f80 N p v m = some m' ∧ Tells m' fun t => R t ∧ v ≤ t p.toNat - t 5 := by
 unfold f80
 rw [w64_id (by omega) (by omega), f82_eq N _ _ hp (by omega) (by omega) (by omega)]
 refine ⟨_, rfl, fine_lim h.1 (by omega) (by decide) (by omega) (by omega), fun t => ?_⟩
 rw [sat_lim h.1.1 (by omega) (by decide), h.2]
 show R t ∧ t 5 - t p.toNat ≤ 0 - v ↔ _
 constructor <;> rintro ⟨h1, h2⟩ <;> exact ⟨h1, by omega⟩
theorem below_eq (N : Nat) {p : Int} {v : Int} {m : List Int} {R : (Nat → Int) → Prop} (h : Tells m R) (hp : 0 ≤ p) (hp' : p < 5) (hv : -100000 ≤ v) (hv' : v ≤ 100000) :
  ∃ m', f81 N p v m = some m' ∧ Tells m' fun t => R t ∧ t p.toNat - t 5 ≤ v := by
 unfold f81
 rw [f82_eq N _ _ (by omega) (by omega) hp (by omega)]
 refine ⟨_, rfl, fine_lim h.1 (by decide) (by omega) (by omega) (by omega), fun t => ?_⟩
 rw [sat_lim h.1.1 (by decide) (by omega), h.2]
 exact Iff.rfl
theorem Tells.congr {m : List Int} {R R' : (Nat → Int) → Prop} (h : Tells m R) (e : ∀ t, R t ↔ R' t) : Tells m R' := ⟨h.1, fun t => (h.2 t).trans (e t)⟩
theorem cone_eq (N : Nat) {c : Cn} {n : Nat} {m : List Int} {R : (Nat → Int) → Prop} (h : Tells m R) (hn : n ≤ 5) (hc : okCn n c) :
  ∃ m', f117 N c.1 c.2.1 c.2.2 m = some m' ∧ Tells m' fun t => R t ∧ NoteT (.inl c) (t c.1.toNat - t 5) := by
 obtain ⟨h1, h2, h3, h4⟩ := hc
 unfold f117
 by_cases e : c.2.2 = true
 ·rw [if_pos e]
  obtain ⟨m', e1, e2⟩ := above_eq N h h1 (by omega) (v := c.2.1) (by omega) (by omega)
  rw [e1]
  exact ⟨m', rfl, e2.congr fun t => by simp [NoteT, e]⟩
 ·rw [if_neg e, w64_id (by omega) (by omega)]
  obtain ⟨m', e1, e2⟩ := below_eq N h h1 (by omega) (v := c.2.1 - 1) (by omega) (by omega)
  rw [e1]
  exact ⟨m', rfl, e2.congr fun t => by simp [NoteT, e]⟩
theorem sign_eq (N : Nat) {s : Sg} {n : Nat} {m : List Int} {R : (Nat → Int) → Prop} (h : Tells m R) (hn : n ≤ 5) (hs : okSg n s) :
  ∃ m', f118 N s.1 s.2.1.1 s.2.1.2 s.2.2 m = some m' ∧ Tells m' fun t => R t ∧ NoteT (.inr s) (t s.1.toNat - t 5) := by
 obtain ⟨h1, h2, ⟨h3, h4, h5⟩, h6, h7⟩ := hs
 unfold f118
 by_cases e : s.2.2 = 3
 ·rw [if_pos (by simp [e])]
  obtain ⟨m', e1, e2⟩ := above_eq N h h1 (by omega) (v := s.2.1.2) (by omega) (by omega)
  rw [e1]
  exact ⟨m', rfl, e2.congr fun t => by simp [NoteT, e]⟩
 ·rw [if_neg (by simp [e])]
  by_cases e' : s.2.2 = 2
  ·rw [if_pos (by simp [e']), w64_id (by omega) (by omega)]
   obtain ⟨m1, e1, e2⟩ := below_eq N h h1 (by omega) (v := s.2.1.2 - 1) (by omega) (by omega)
   rw [e1, andThen_some]
   obtain ⟨m2, e3, e4⟩ := above_eq N e2 h1 (by omega) (v := s.2.1.1) (by omega) (by omega)
   rw [e3]
   refine ⟨m2, rfl, e4.congr fun t => ?_⟩
   simp only [NoteT]
   rw [if_neg e, if_pos e']
   constructor
   ·rintro ⟨⟨a, b⟩, c⟩; exact ⟨a, c, b⟩
   ·rintro ⟨a, c, b⟩; exact ⟨⟨a, b⟩, c⟩
  ·rw [if_neg (by simp [e']), w64_id (by omega) (by omega)]
   obtain ⟨m', e1, e2⟩ := below_eq N h h1 (by omega) (v := s.2.1.1 - 1) (by omega) (by omega)
   rw [e1]
   exact ⟨m', rfl, e2.congr fun t => by simp [NoteT, e, e']⟩
end Go.Pl


namespace Go.Pl
open Go.Al Go.Proofs
def init6 : List Int := [0, 1048576, 1048576, 1048576, 1048576, 1048576, 1048576, 0, 1048576, 1048576, 1048576, 1048576, 1048576, 1048576, 0, 1048576, 1048576, 1048576, 1048576, 1048576, 1048576, 0, 1048576, 1048576, 1048576, 1048576, 1048576, 1048576, 0, 1048576, 1048576, 1048576, 1048576, 1048576, 1048576, 0]
def zero6 : List Int := [0, 0, 0, 0, 0, 0, 0, 0, 0, 0, 0, 0, 0, 0, 0, 0, 0, 0, 0, 0, 0, 0, 0, 0, 0, 0, 0, 0, 0, 0, 0, 0, 0, 0, 0, 0]
theorem f48l0_eq (n : Nat) (w : Int) (more : List Nt) (hs : List Span) (ps : List Pr) (cs : List Cn) (ss : List Sg) (ns : List Nt) :
  f48l0 (n + 10) (n + 10) w more 0 hs ps cs ss ns zero6 = some (w, more, hs, ps, cs, ss, ns, init6) := by kernel_rfl
theorem init_ent {a b : Nat} (ha : a < 6) (hb : b < 6) : ent init6 a b = if a = b then 0 else 1048576 := by
 have : ∀ a, a < 6 → ∀ b, b < 6 → ent init6 a b = if a = b then 0 else 1048576 := by decide
 exact this a ha b hb
def Near (t : Nat → Int) : Prop := ∀ a b, a < 6 → b < 6 → t b - t a ≤ 1048576
theorem init_tells : Tells init6 Near := by
 refine ⟨⟨rfl, fun a b ha hb => ?_, fun a ha => ?_⟩, fun t => ⟨fun h a b ha hb => ?_, fun h a b ha hb => ?_⟩⟩
 ·rw [init_ent ha hb]; split <;> omega
 ·rw [init_ent ha ha]; simp
 ·have := h a b ha hb
  rw [init_ent ha hb] at this
  split at this <;> omega
 ·rw [init_ent ha hb]
  split
  ·rename_i e; subst e; omega
  ·exact h a b ha hb
def okSp (s : Span) : Prop := 0 ≤ s.1 ∧ s.1 ≤ s.2 ∧ s.2 ≤ 1000
theorem f48l2_eq (N : Nat) (w : Int) (more : List Nt) (hs : List Span) (ps : List Pr) (cs : List Cn) (ss : List Sg) (ns : List Nt) (hN : hs.length < N) (hn : hs.length ≤ 5) (hok : ∀ s ∈ hs, okSp s) {m : List Int} {R : (Nat → Int) → Prop} (hm : Tells m R) :
  ∃ m', f48l2 N N w more hs (hs.length : Int) 0 hs ps cs ss ns m = some (w, more, hs, ps, cs, ss, ns, m') ∧ Tells m' fun t => R t ∧ ∀ p, p < hs.length → (sp hs p).1 ≤ t p - t 5 ∧ t p - t 5 ≤ (sp hs p).2 := by
 obtain ⟨r, h1, m', h2, h3⟩ := loop_run (fun q (s : Nat × List Int) => f48l2 N q w more hs (hs.length : Int) (s.1 : Int) hs ps cs ss ns s.2)
  (fun s => s.1 ≤ hs.length ∧ Tells s.2 fun t => R t ∧ ∀ p, p < s.1 → (sp hs p).1 ≤ t p - t 5 ∧ t p - t 5 ≤ (sp hs p).2) (fun s => hs.length - s.1)
  (fun r => ∃ m', r = (w, more, hs, ps, cs, ss, ns, m') ∧ Tells m' fun t => R t ∧ ∀ p, p < hs.length → (sp hs p).1 ≤ t p - t 5 ∧ t p - t 5 ≤ (sp hs p).2) (by
   rintro q ⟨i, m1⟩ ⟨i1, i2⟩
   simp only at i1 i2 ⊢
   by_cases hi : i < hs.length
   ·right
    have hsp : okSp (sp hs i) := hok _ (by unfold sp; rw [List.getD_eq_getElem?_getD, List.getElem?_eq_getElem hi]; exact List.getElem_mem hi)
    obtain ⟨o1, o2, o3⟩ := hsp
    obtain ⟨m2, e1, e2⟩ := above_eq N (p := (i : Int)) i2 (by omega) (by omega) (v := (sp hs i).1) (by omega) (by omega)
    obtain ⟨m3, e3, e4⟩ := below_eq N (p := (i : Int)) e2 (by omega) (by omega) (v := (sp hs i).2) (by omega) (by omega)
    refine ⟨(i + 1, m3), ⟨hi, e4.congr fun t => ?_⟩, show hs.length - (i + 1) < hs.length - i by omega, ?_⟩
    ·simp only [Int.toNat_natCast]
     constructor
     ·rintro ⟨⟨⟨a, b⟩, c⟩, d⟩
      refine ⟨a, fun p hp => ?_⟩
      rcases Nat.lt_or_ge p i with h | h
      ·exact b p h
      ·have : p = i := by omega
       subst this; exact ⟨c, d⟩
     ·rintro ⟨a, b⟩
      exact ⟨⟨⟨a, fun p hp => b p (by omega)⟩, (b i (by omega)).1⟩, (b i (by omega)).2⟩
    ·show f48l2B N (f48l2 N q) w more hs (hs.length : Int) (i : Int) hs ps cs ss ns m1 = _
     unfold f48l2B
     unfold sp at e1 e3
     simp only [show ((i : Int) < (hs.length : Int)) by omega, Int.natCast_nonneg, decide_true, Bool.and_true, if_true, Int.toNat_natCast, e1, andThen_some, e3, w_succ (show i < 4611686018427387904 by omega)]
   ·left
    have : i = hs.length := by omega
    subst this
    refine ⟨_, ?_, m1, rfl, i2⟩
    show f48l2B N (f48l2 N q) w more hs (hs.length : Int) (hs.length : Int) hs ps cs ss ns m1 = _
    unfold f48l2B
    rw [if_neg (by simp)]) N (0, m) ⟨Nat.zero_le _, hm.congr fun t => ⟨fun h => ⟨h, fun p hp => absurd hp (Nat.not_lt_zero _)⟩, fun h => h.1⟩⟩ (by simpa using hN)
 rw [h2] at h1
 exact ⟨m', h1, h3⟩
theorem f48l3_eq (N : Nat) (w : Int) (more : List Nt) (hs : List Span) (ps : List Pr) (cs : List Cn) (ss : List Sg) (ns : List Nt) (n : Nat) (hn : n ≤ 5) (hN : ps.length < N) (hl : ps.length < 1000000) (hok : ∀ q ∈ ps, okPr n q) {m : List Int} {R : (Nat → Int) → Prop} (hm : Tells m R) :
  ∃ m', f48l3 N N w more ps (ps.length : Int) 0 hs ps cs ss ns m = some (w, more, hs, ps, cs, ss, ns, m') ∧ Tells m' fun t => R t ∧ Prs ps t := by
 have hgood : ∀ t : Nat → Int, (∀ j, j < ps.length → Prs [ps.getD j ((0 : Int), ((0 : Int), (0 : Int)))] t) ↔ Prs ps t := fun t => by
  constructor
  ·intro h q hq
   obtain ⟨j, hj, e⟩ := List.getElem_of_mem hq
   have := h j hj
   rw [List.getD_eq_getElem?_getD, List.getElem?_eq_getElem hj] at this
   exact this q (by simp [e])
  ·intro h j hj q hq
   rw [List.getD_eq_getElem?_getD, List.getElem?_eq_getElem hj] at hq
   simp at hq; subst hq
   exact h _ (List.getElem_mem hj)
 obtain ⟨r, h1, m', h2, h3⟩ := loop_run (fun q (s : Nat × List Int) => f48l3 N q w more ps (ps.length : Int) (s.1 : Int) hs ps cs ss ns s.2)
  (fun s => s.1 ≤ ps.length ∧ Tells s.2 fun t => R t ∧ ∀ j, j < s.1 → Prs [ps.getD j ((0 : Int), ((0 : Int), (0 : Int)))] t) (fun s => ps.length - s.1)
  (fun r => ∃ m', r = (w, more, hs, ps, cs, ss, ns, m') ∧ Tells m' fun t => R t ∧ ∀ j, j < ps.length → Prs [ps.getD j ((0 : Int), ((0 : Int), (0 : Int)))] t) (by
   rintro q ⟨i, m1⟩ ⟨i1, i2⟩
   simp only at i1 i2 ⊢
   by_cases hi : i < ps.length
   ·right
    have hpr : okPr n (ps.getD i ((0 : Int), ((0 : Int), (0 : Int)))) := hok _ (by rw [List.getD_eq_getElem?_getD, List.getElem?_eq_getElem hi]; exact List.getElem_mem hi)
    generalize hz : ps.getD i ((0 : Int), ((0 : Int), (0 : Int))) = z at *
    obtain ⟨o1, o2, o3, o4, o5, o6, o7⟩ := hpr
    refine ⟨(i + 1, lim z.2.1.toNat z.1.toNat z.2.2 (lim z.1.toNat z.2.1.toNat z.2.2 m1)), ⟨hi, ?_⟩, show ps.length - (i + 1) < ps.length - i by omega, ?_⟩
    ·have f1 := fine_lim i2.1 (a := z.1.toNat) (b := z.2.1.toNat) (v := z.2.2) (by omega) (by omega) (by omega) (by omega)
     refine ⟨fine_lim f1 (by omega) (by omega) (by omega) (by omega), fun t => ?_⟩
     rw [sat_lim f1.1 (by omega) (by omega), sat_lim i2.1.1 (by omega) (by omega), i2.2]
     constructor
     ·rintro ⟨⟨⟨a, b⟩, c⟩, d⟩
      refine ⟨a, fun j hj => ?_⟩
      rcases Nat.lt_or_ge j i with h | h
      ·exact b j h
      ·have : j = i := by omega
       subst this
       rw [hz]
       intro x hx
       simp at hx; subst hx
       omega
     ·rintro ⟨a, b⟩
      have := b i (by omega)
      rw [hz] at this
      have := this z (by simp)
      exact ⟨⟨⟨a, fun j hj => b j (by omega)⟩, by omega⟩, by omega⟩
    ·show f48l3B N (f48l3 N q) w more ps (ps.length : Int) (i : Int) hs ps cs ss ns m1 = _
     unfold f48l3B
     simp only [show ((i : Int) < (ps.length : Int)) by omega, Int.natCast_nonneg, decide_true, Bool.and_true, if_true, Int.toNat_natCast, hz]
     rw [f82_eq N _ _ o1 (by omega) o3 (by omega), andThen_some, f82_eq N _ _ o3 (by omega) o1 (by omega), andThen_some]
     simp only [w_succ (show i < 4611686018427387904 by omega)]
   ·left
    have : i = ps.length := by omega
    subst this
    refine ⟨_, ?_, m1, rfl, i2⟩
    show f48l3B N (f48l3 N q) w more ps (ps.length : Int) (ps.length : Int) hs ps cs ss ns m1 = _
    unfold f48l3B
    rw [if_neg (by simp)]) N (0, m) ⟨Nat.zero_le _, hm.congr fun t => ⟨fun h => ⟨h, fun p hp => absurd hp (Nat.not_lt_zero _)⟩, fun h => h.1⟩⟩ (by simpa using hN)
 rw [h2] at h1
 exact ⟨m', h1, h3.congr fun t => by rw [hgood]⟩
def bitOff (w : Int) (i : Nat) : Bool := Go.IntKind.wrap .i64 (((((BitVec.ofInt (Go.IntKind.bits .i64) (Int.fdiv w (2 ^ (min i (Go.IntKind.bits .i64))))) &&& (BitVec.ofInt (Go.IntKind.bits .i64) (1 : Int)))).toNat : Nat) : Int) == (0 : Int)
theorem bitOff_zero (i : Nat) : bitOff 0 i = true := by
 unfold bitOff
 rw [Int.zero_fdiv]
 rfl
def nt (ns : List Nt) (i : Nat) : Nt := ns.getD i (Sum.inl ((0 : Int), ((0 : Int), false)))
def NoteOk (x : Nt) (t : Nat → Int) : Prop := NoteT x (t (plc x).toNat)
theorem note_eq (N : Nat) {x : Nt} {n : Nat} {m : List Int} {R : (Nat → Int) → Prop} (h : Tells m R) (hn : n ≤ 5) (hx : okNt n x) {S : Type} (k : List Int → Option S) :
  ∃ m', either x (fun z => andThen (f117 N z.1 z.2.1 z.2.2 m) k) (fun z => andThen (f118 N z.1 z.2.1.1 z.2.1.2 z.2.2 m) k) = k m' ∧ Tells m' fun t => R t ∧ NoteT x (t (plc x).toNat - t 5) := by
 cases x with
 | inl c =>
  obtain ⟨m', e1, e2⟩ := cone_eq N h hn hx
  exact ⟨m', by rw [either_inl, e1, andThen_some], e2⟩
 | inr s =>
  obtain ⟨m', e1, e2⟩ := sign_eq N h hn hx
  exact ⟨m', by rw [either_inr, e1, andThen_some], e2⟩
theorem f48l4_eq (N : Nat) (w : Int) (more ns : List Nt) (n : Nat) (hn : n ≤ 5) (hN : ns.length < N) (hl : ns.length < 1000000) (hok : ∀ x ∈ ns, okNt n x) {m : List Int} {R : (Nat → Int) → Prop} (hm : Tells m R) :
  ∃ m', f48l4 N N w more ns (ns.length : Int) 0 m = some (more, m') ∧ Tells m' fun t => R t ∧ ∀ i, i < ns.length → bitOff w i = true → NoteT (nt ns i) (t (plc (nt ns i)).toNat - t 5) := by
 obtain ⟨r, h1, m', h2, h3⟩ := loop_run (fun q (s : Nat × List Int) => f48l4 N q w more ns (ns.length : Int) (s.1 : Int) s.2)
  (fun s => s.1 ≤ ns.length ∧ Tells s.2 fun t => R t ∧ ∀ i, i < s.1 → bitOff w i = true → NoteT (nt ns i) (t (plc (nt ns i)).toNat - t 5)) (fun s => ns.length - s.1)
  (fun r => ∃ m', r = (more, m') ∧ Tells m' fun t => R t ∧ ∀ i, i < ns.length → bitOff w i = true → NoteT (nt ns i) (t (plc (nt ns i)).toNat - t 5)) (by
   rintro q ⟨i, m1⟩ ⟨i1, i2⟩
   simp only at i1 i2 ⊢
   by_cases hi : i < ns.length
   ·right
    have hx : okNt n (nt ns i) := hok _ (by unfold nt; rw [List.getD_eq_getElem?_getD, List.getElem?_eq_getElem hi]; exact List.getElem_mem hi)
    have hstep : ∀ k : Int → List Nt → List Nt → Int → Int → List Int → Option (List Nt × List Int), f48l4B N k w more ns (ns.length : Int) (i : Int) m1 =
      if bitOff w i = true then either (nt ns i) (fun z => andThen (f117 N z.1 z.2.1 z.2.2 m1) (fun y => k w more ns (ns.length : Int) ((i + 1 : Nat) : Int) y)) (fun z => andThen (f118 N z.1 z.2.1.1 z.2.1.2 z.2.2 m1) (fun y => k w more ns (ns.length : Int) ((i + 1 : Nat) : Int) y)) else k w more ns (ns.length : Int) ((i + 1 : Nat) : Int) m1 := fun k => by
     unfold f48l4B
     simp only [show ((i : Int) < (ns.length : Int)) by omega, Int.natCast_nonneg, decide_true, Bool.and_true, if_true, Int.toNat_natCast, w_succ (show i < 4611686018427387904 by omega)]
     rfl
    by_cases hb : bitOff w i = true
    ·obtain ⟨m2, e1, e2⟩ := note_eq N i2 hn hx (fun y => f48l4 N q w more ns (ns.length : Int) ((i + 1 : Nat) : Int) y)
     refine ⟨(i + 1, m2), ⟨hi, e2.congr fun t => ?_⟩, show ns.length - (i + 1) < ns.length - i by omega, ?_⟩
     ·constructor
      ·rintro ⟨⟨a, b⟩, c⟩
       refine ⟨a, fun j hj => ?_⟩
       rcases Nat.lt_or_ge j i with h | h
       ·exact b j h
       ·have : j = i := by omega
        subst this; exact fun _ => c
      ·rintro ⟨a, b⟩
       exact ⟨⟨a, fun j hj => b j (by omega)⟩, b i (by omega) hb⟩
     ·show f48l4B N (f48l4 N q) w more ns (ns.length : Int) (i : Int) m1 = _
      rw [hstep, if_pos hb, e1]
    ·refine ⟨(i + 1, m1), ⟨hi, i2.congr fun t => ?_⟩, show ns.length - (i + 1) < ns.length - i by omega, ?_⟩
     ·constructor
      ·rintro ⟨a, b⟩
       refine ⟨a, fun j hj => ?_⟩
       rcases Nat.lt_or_ge j i with h | h
       ·exact b j h
       ·have : j = i := by omega
        subst this; exact fun h => absurd h hb
      ·rintro ⟨a, b⟩
       exact ⟨a, fun j hj => b j (by omega)⟩
     ·show f48l4B N (f48l4 N q) w more ns (ns.length : Int) (i : Int) m1 = _
      rw [hstep, if_neg hb]
   ·left
    have : i = ns.length := by omega
    subst this
    refine ⟨_, ?_, m1, rfl, i2⟩
    show f48l4B N (f48l4 N q) w more ns (ns.length : Int) (ns.length : Int) m1 = _
    unfold f48l4B
    rw [if_neg (by simp)]) N (0, m) ⟨Nat.zero_le _, hm.congr fun t => ⟨fun h => ⟨h, fun p hp => absurd hp (Nat.not_lt_zero _)⟩, fun h => h.1⟩⟩ (by simpa using hN)
 rw [h2] at h1
 exact ⟨m', h1, h3⟩
theorem f48l5_eq (N : Nat) (ns : List Nt) (n : Nat) (hn : n ≤ 5) (hN : ns.length < N) (hl : ns.length < 1000000) (hok : ∀ x ∈ ns, okNt n x) {m : List Int} {R : (Nat → Int) → Prop} (hm : Tells m R) :
  ∃ m', f48l5 N N ns (ns.length : Int) 0 m = some m' ∧ Tells m' fun t => R t ∧ ∀ i, i < ns.length → NoteT (nt ns i) (t (plc (nt ns i)).toNat - t 5) := by
 obtain ⟨r, h1, m', h2, h3⟩ := loop_run (fun q (s : Nat × List Int) => f48l5 N q ns (ns.length : Int) (s.1 : Int) s.2)
  (fun s => s.1 ≤ ns.length ∧ Tells s.2 fun t => R t ∧ ∀ i, i < s.1 → NoteT (nt ns i) (t (plc (nt ns i)).toNat - t 5)) (fun s => ns.length - s.1)
  (fun r => ∃ m', r = m' ∧ Tells m' fun t => R t ∧ ∀ i, i < ns.length → NoteT (nt ns i) (t (plc (nt ns i)).toNat - t 5)) (by
   rintro q ⟨i, m1⟩ ⟨i1, i2⟩
   simp only at i1 i2 ⊢
   by_cases hi : i < ns.length
   ·right
    have hx : okNt n (nt ns i) := hok _ (by unfold nt; rw [List.getD_eq_getElem?_getD, List.getElem?_eq_getElem hi]; exact List.getElem_mem hi)
    obtain ⟨m2, e1, e2⟩ := note_eq N i2 hn hx (fun y => f48l5 N q ns (ns.length : Int) ((i + 1 : Nat) : Int) y)
    refine ⟨(i + 1, m2), ⟨hi, e2.congr fun t => ?_⟩, show ns.length - (i + 1) < ns.length - i by omega, ?_⟩
    ·constructor
     ·rintro ⟨⟨a, b⟩, c⟩
      refine ⟨a, fun j hj => ?_⟩
      rcases Nat.lt_or_ge j i with h | h
      ·exact b j h
      ·have : j = i := by omega
       subst this; exact c
     ·rintro ⟨a, b⟩
      exact ⟨⟨a, fun j hj => b j (by omega)⟩, b i (by omega)⟩
    ·show f48l5B N (f48l5 N q) ns (ns.length : Int) (i : Int) m1 = _
     unfold f48l5B
     simp only [show ((i : Int) < (ns.length : Int)) by omega, Int.natCast_nonneg, decide_true, Bool.and_true, if_true, Int.toNat_natCast, w_succ (show i < 4611686018427387904 by omega)]
     exact e1
   ·left
    have : i = ns.length := by omega
    subst this
    refine ⟨_, ?_, m1, rfl, i2⟩
    show f48l5B N (f48l5 N q) ns (ns.length : Int) (ns.length : Int) m1 = _
    unfold f48l5B
    rw [if_neg (by simp)]) N (0, m) ⟨Nat.zero_le _, hm.congr fun t => ⟨fun h => ⟨h, fun p hp => absurd hp (Nat.not_lt_zero _)⟩, fun h => h.1⟩⟩ (by simpa using hN)
 rw [h2] at h1
 exact ⟨m', h1, h3⟩
def Truth (hs : List Span) (ps : List Pr) (K : Nt → Prop) (t : Nat → Int) : Prop := Box hs t ∧ Prs ps t ∧ ∀ x, K x → NoteOk x t
def zt (t : Nat → Int) (a : Nat) : Int := if a = 5 then 0 else t a
structure Tight (n : Nat) (m : List Int) (T : (Nat → Int) → Prop) : Prop where
 len : m.length = 36
 up : ∀ t, T t → ∀ a b, (a < n ∨ a = 5) → (b < n ∨ b = 5) → zt t b - zt t a ≤ ent m a b
 att : ∀ a b, (a < n ∨ a = 5) → (b < n ∨ b = 5) → ∃ t, T t ∧ zt t b - zt t a = ent m a b
 all : ∀ a, (a < n ∨ a = 5) → ∃ t, T t ∧ ∀ b, (b < n ∨ b = 5) → zt t b - zt t a = ent m a b
 fine : Fine m
 to : ∀ t, T t → Sat m (fun a => if a < n then t a else 0)
 fro : ∀ t, Sat m t → T (fun a => t a - t 5)
theorem truth_shift {hs : List Span} {ps : List Pr} {K : Nt → Prop} {t t' : Nat → Int} {n : Nat} (hn : hs.length = n) (hp : ∀ q ∈ ps, okPr n q) (hK : ∀ x, K x → okNt n x) (h : ∀ p, p < n → t' p = t p) (ht : Truth hs ps K t) : Truth hs ps K t' := by
 refine ⟨fun p hp' => by rw [h p (by omega)]; exact ht.1 p hp', fun q hq => ?_, fun x hx => ?_⟩
 ·obtain ⟨o1, o2, o3, o4, _⟩ := hp q hq
  rw [h q.1.toNat (by omega), h q.2.1.toNat (by omega)]
  exact ht.2.1 q hq
 ·have : (plc x).toNat < n := by
   have := hK x hx
   cases x with
   | inl c => obtain ⟨o1, o2, _⟩ := this; show c.1.toNat < n; omega
   | inr s => obtain ⟨o1, o2, _⟩ := this; show s.1.toNat < n; omega
  unfold NoteOk
  rw [h _ this]
  exact ht.2.2 x hx
theorem gaps_spec (N : Nat) (w : Int) (hs : List Span) (ps : List Pr) (cs : List Cn) (ss : List Sg) (ns more : List Nt) (hN : 1000 ≤ N) (hn : 1 ≤ hs.length) (hn5 : hs.length ≤ 5) (hok : ∀ s ∈ hs, okSp s) (hp : ∀ q ∈ ps, okPr hs.length q)
  (hpl : ps.length ≤ 12) (hns : ∀ x ∈ ns, okNt hs.length x) (hnl : ns.length ≤ 24) (hmo : ∀ x ∈ more, okNt hs.length x) (hml : more.length ≤ 24) :
  ∃ m ok, f48 N hs ps cs ss ns w more = some (m, ok) ∧ (ok = true ↔ ∃ t, Truth hs ps (fun x => (∃ i, i < ns.length ∧ bitOff w i = true ∧ x = nt ns i) ∨ x ∈ more) t) ∧
   (ok = true → Tight hs.length m (Truth hs ps (fun x => (∃ i, i < ns.length ∧ bitOff w i = true ∧ x = nt ns i) ∨ x ∈ more))) := by
 have hKok : ∀ x, ((∃ i, i < ns.length ∧ bitOff w i = true ∧ x = nt ns i) ∨ x ∈ more) → okNt hs.length x := fun x hx => by
  rcases hx with ⟨i, hi, _, rfl⟩ | hx
  ·exact hns _ (by unfold nt; rw [List.getD_eq_getElem?_getD, List.getElem?_eq_getElem hi]; exact List.getElem_mem hi)
  ·exact hmo x hx
 generalize hT : Truth hs ps (fun x => (∃ i, i < ns.length ∧ bitOff w i = true ∧ x = nt ns i) ∨ x ∈ more) = T
 have hTd : ∀ t, T t ↔ Box hs t ∧ Prs ps t ∧ (∀ i, i < ns.length → bitOff w i = true → NoteOk (nt ns i) t) ∧ ∀ x ∈ more, NoteOk x t := fun t => by
  rw [← hT]
  constructor
  ·rintro ⟨a, b, c⟩
   exact ⟨a, b, fun i hi hb => c _ (.inl ⟨i, hi, hb, rfl⟩), fun x hx => c x (.inr hx)⟩
  ·rintro ⟨a, b, c, d⟩
   refine ⟨a, b, fun x hx => ?_⟩
   rcases hx with ⟨i, hi, hb, rfl⟩ | hx
   ·exact c i hi hb
   ·exact d x hx
 have hsh : ∀ t t' : Nat → Int, (∀ p, p < hs.length → t' p = t p) → T t → T t' := fun t t' h ht => by rw [← hT] at ht ⊢; exact truth_shift rfl hp hKok h ht
 obtain ⟨k, rfl⟩ : ∃ k, N = k + 10 := ⟨N - 10, by omega⟩
 obtain ⟨m1, e1, t1⟩ := f48l2_eq (k + 10) w more hs ps cs ss ns (by omega) hn5 hok init_tells
 obtain ⟨m2, e2, t2⟩ := f48l3_eq (k + 10) w more hs ps cs ss ns hs.length hn5 (by omega) (by omega) hp t1
 obtain ⟨m3, e3, t3⟩ := f48l4_eq (k + 10) w more ns hs.length hn5 (by omega) (by omega) hns t2
 obtain ⟨m4, e4, t4⟩ := f48l5_eq (k + 10) more hs.length hn5 (by omega) (by omega) hmo t3
 obtain ⟨ok, e5, h5⟩ := f83_eq (k + 10) m4 (by omega)
 obtain ⟨s1, s2, s3, s4⟩ := fw_spec t4.1.1 t4.1.2.1 t4.1.2.2
 -- what the matrix says is what the furnace says
 have to : ∀ t, T t → Sat m4 (fun a => if a < hs.length then t a else 0) := fun t ht => by
  rw [t4.2]
  obtain ⟨a, b, c, d⟩ := (hTd t).1 ht
  have hbx : ∀ p, p < hs.length → 0 ≤ t p ∧ t p ≤ 1000 := fun p hp' => by
   have h1 := a p hp'
   have h2 : okSp (sp hs p) := hok _ (by unfold sp; rw [List.getD_eq_getElem?_getD, List.getElem?_eq_getElem hp']; exact List.getElem_mem hp')
   obtain ⟨o1, o2, o3⟩ := h2
   omega
  have h50 : ¬ 5 < hs.length := by omega
  have hpl : ∀ x, okNt hs.length x → (plc x).toNat < hs.length := fun x hx => by
   cases x with
   | inl c => obtain ⟨o1, o2, _⟩ := hx; show c.1.toNat < hs.length; omega
   | inr s => obtain ⟨o1, o2, _⟩ := hx; show s.1.toNat < hs.length; omega
  refine ⟨⟨⟨⟨fun x y hx hy => ?_, fun p hp' => ?_⟩, fun q hq => ?_⟩, fun i hi hb => ?_⟩, fun i hi => ?_⟩
  ·have h1 := hbx x
   have h2 := hbx y
   show (if y < hs.length then t y else 0) - (if x < hs.length then t x else 0) ≤ 1048576
   split <;> split <;> omega
  ·simp only [if_pos hp', if_neg h50]
   have := a p hp'
   omega
  ·obtain ⟨o1, o2, o3, o4, _⟩ := hp q hq
   simp only [if_pos (show q.1.toNat < hs.length by omega), if_pos (show q.2.1.toNat < hs.length by omega)]
   exact b q hq
  ·have hx := hKok _ (.inl ⟨i, hi, hb, rfl⟩)
   simp only [if_pos (hpl _ hx), if_neg h50, Int.sub_zero]
   exact c i hi hb
  ·have hm : nt more i ∈ more := by unfold nt; rw [List.getD_eq_getElem?_getD, List.getElem?_eq_getElem hi]; exact List.getElem_mem hi
   simp only [if_pos (hpl _ (hmo _ hm)), if_neg h50, Int.sub_zero]
   exact d _ hm
 have fro : ∀ t, Sat m4 t → T (fun a => t a - t 5) := fun t ht => by
  rw [t4.2] at ht
  obtain ⟨⟨⟨⟨_, b⟩, c⟩, d⟩, e⟩ := ht
  refine (hTd _).2 ⟨b, fun q hq => ?_, d, fun x hx => ?_⟩
  ·have := c q hq
   show (t q.1.toNat - t 5) - (t q.2.1.toNat - t 5) ≤ q.2.2 ∧ (t q.2.1.toNat - t 5) - (t q.1.toNat - t 5) ≤ q.2.2
   omega
  ·obtain ⟨i, hi, e'⟩ := List.getElem_of_mem hx
   have := e i hi
   unfold nt at this
   rw [List.getD_eq_getElem?_getD, List.getElem?_eq_getElem hi] at this
   simp only [Option.getD_some, e'] at this
   exact this
 refine ⟨fw 6 m4, ok, ?_, ?_, fun hk => ?_⟩
 ·unfold f48
  have e0 := f48l0_eq k w more hs ps cs ss ns
  unfold zero6 at e0
  rw [e0, andThen_some]
  simp only [e1, e2, e3, e4, e5, andThen_some]
 ·rw [h5, s2]
  exact ⟨fun ⟨t, ht⟩ => ⟨_, fro t ht⟩, fun ⟨t, ht⟩ => ⟨_, to t ht⟩⟩
 ·have hd := h5.1 hk
  have hup : ∀ t, T t → ∀ a b, (a < hs.length ∨ a = 5) → (b < hs.length ∨ b = 5) → zt t b - zt t a ≤ ent (fw 6 m4) a b := fun t ht a b ha hb => by
   have := s3 _ (to t ht) a b (by omega) (by omega)
   have ez : ∀ x, (x < hs.length ∨ x = 5) → (if x < hs.length then t x else 0) = zt t x := fun x hx => by
    unfold zt
    by_cases h5 : x = 5
    ·rw [if_pos h5, if_neg (by omega)]
    ·rw [if_neg h5, if_pos (by omega)]
   simp only [ez a ha, ez b hb] at this
   exact this
  have hall : ∀ a, (a < hs.length ∨ a = 5) → ∃ t, T t ∧ ∀ b, (b < hs.length ∨ b = 5) → zt t b - zt t a = ent (fw 6 m4) a b := fun a ha => by
   obtain ⟨c1, c2⟩ := s4 hd a (by omega)
   refine ⟨_, fro _ c1, fun b hb => ?_⟩
   unfold zt
   by_cases hb5 : b = 5 <;> by_cases ha5 : a = 5
   ·subst hb5; subst ha5; simp [c2]
   ·subst hb5; simp [ha5, c2]
   ·subst ha5; simp [hb5, c2]
   ·simp [ha5, hb5, c2]
  have hle := fw_le t4.1.1 6 (Nat.le_refl _) 0 (by omega)
  refine ⟨s1, hup, fun a b ha hb => by obtain ⟨t, h1, h2⟩ := hall a ha; exact ⟨t, h1, h2 b hb⟩, hall, ⟨s1, fun a b ha hb => ?_, fun a ha => ?_⟩, fun t ht => s3 _ (to t ht), fun t ht => fro t fun a b ha hb => Int.le_trans (ht a b ha hb) (hle.2 a b ha hb)⟩
  ·obtain ⟨t, ht, _⟩ := hall 5 (.inr rfl)
   have h1 := s3 _ (to t ht) a b ha hb
   have h2 := hle.2 a b ha hb
   have h3 : ent (fw 0 m4) a b = ent m4 a b := rfl
   have h4 := (t4.1.2.1 a b ha hb).2
   have hbx : ∀ p, p < hs.length → 0 ≤ t p ∧ t p ≤ 1000 := fun p hp' => by
    have h1 := ((hTd t).1 ht).1 p hp'
    have h2 : okSp (sp hs p) := hok _ (by unfold sp; rw [List.getD_eq_getElem?_getD, List.getElem?_eq_getElem hp']; exact List.getElem_mem hp')
    obtain ⟨o1, o2, o3⟩ := h2
    omega
   have g1 := hbx a
   have g2 := hbx b
   have h1 : (if b < hs.length then t b else 0) - (if a < hs.length then t a else 0) ≤ ent (fw 6 m4) a b := h1
   split at h1 <;> split at h1 <;> omega
  ·exact Int.le_of_eq (s4 hd a ha).2
end Go.Pl


namespace Go.Pl
open Go.Al Go.Proofs
theorem search {R : Type} (L : Nat → Nat → Option R) (n : Nat) (p : Nat → Bool) (hit : Nat → R) (miss : R) (step : ∀ q i, i < n → L (q + 1) i = if p i = true then some (hit i) else L q (i + 1)) (stop : ∀ q, L (q + 1) n = some miss)
  (N : Nat) (hN : n < N) : (∃ i, i < n ∧ p i = true ∧ (∀ j, j < i → p j = false) ∧ L N 0 = some (hit i)) ∨ ((∀ i, i < n → p i = false) ∧ L N 0 = some miss) := by
 obtain ⟨r, h1, h2⟩ := loop_run L (fun i => i ≤ n ∧ ∀ j, j < i → p j = false) (fun i => n - i) (fun r => (∃ i, i < n ∧ p i = true ∧ (∀ j, j < i → p j = false) ∧ r = hit i) ∨ ((∀ i, i < n → p i = false) ∧ r = miss)) (fun q i hi => by
  by_cases h : i < n
  ·by_cases hp : p i = true
   ·left; exact ⟨hit i, by rw [step q i h, if_pos hp], .inl ⟨i, h, hp, hi.2, rfl⟩⟩
   ·right
    refine ⟨i + 1, ⟨h, fun j hj => ?_⟩, by omega, by rw [step q i h, if_neg hp]⟩
    rcases Nat.lt_or_ge j i with h' | h'
    ·exact hi.2 j h'
    ·have : j = i := by omega
     subst this; simpa using hp
  ·left
   have : i = n := by omega
   subst this
   exact ⟨miss, stop q, .inr ⟨hi.2, rfl⟩⟩) N 0 ⟨by omega, fun j hj => absurd hj (Nat.not_lt_zero _)⟩ (by simpa using hN)
 rcases h2 with ⟨i, a, b, c, rfl⟩ | ⟨a, rfl⟩
 ·exact .inl ⟨i, a, b, c, h1⟩
 ·exact .inr ⟨a, h1⟩
theorem getD_mem {α : Type} {l : List α} {d : α} {i : Nat} (hi : i < l.length) : l.getD i d ∈ l := by
 rw [List.getD_eq_getElem?_getD, List.getElem?_eq_getElem hi]; exact List.getElem_mem hi
theorem getD_of_mem {α : Type} {l : List α} {x : α} (d : α) (hx : x ∈ l) : ∃ i, i < l.length ∧ l.getD i d = x := by
 obtain ⟨i, hi, e⟩ := List.getElem_of_mem hx
 exact ⟨i, hi, by rw [List.getD_eq_getElem?_getD, List.getElem?_eq_getElem hi]; exact e⟩
theorem searchL {α R : Type} (l : List α) (d : α) (P : α → Bool) (L : Nat → Nat → Option R) (hit : Nat → R) (miss : R) (step : ∀ q i, i < l.length → L (q + 1) i = if P (l.getD i d) = true then some (hit i) else L q (i + 1)) (stop : ∀ q, L (q + 1) l.length = some miss)
  (N : Nat) (hN : l.length < N) : (∃ i, i < l.length ∧ l.any P = true ∧ L N 0 = some (hit i)) ∨ (l.any P = false ∧ L N 0 = some miss) := by
 rcases search L l.length (fun i => P (l.getD i d)) hit miss step stop N hN with ⟨i, h1, h2, _, h4⟩ | ⟨h1, h2⟩
 ·exact .inl ⟨i, h1, List.any_eq_true.2 ⟨_, getD_mem h1, h2⟩, h4⟩
 ·refine .inr ⟨?_, h2⟩
  rw [List.any_eq_false]
  intro x hx
  obtain ⟨i, hi, e⟩ := getD_of_mem d hx
  have := h1 i hi
  simp only [e] at this
  simp [this]
def inB (lo hi n : Int) : Bool := decide (lo ≤ n) && decide (n ≤ hi)
theorem f50_eq (N : Nat) (x lo hi : Int) : f50 N x lo hi = some (!inB lo hi x, lo, hi) := by
 unfold f50 inB
 by_cases h : x < lo
 ·have : ¬ lo ≤ x := by omega
  simp [h, this]
 ·have h' : lo ≤ x := by omega
  have e : decide (x > hi) = !decide (x ≤ hi) := by rw [← decide_not, decide_eq_decide]; omega
  simp [h, h', e]
theorem f84a_eq (N : Nat) (l : List Int) (lo hi : Int) (hN : l.length < N) (hl : l.length < 1000000) : ∃ r, f84a N l lo hi = some (r, lo, hi) ∧ decide (r ≥ 0) = l.any fun n => !inB lo hi n := by
 unfold f84a
 rcases searchL l (0 : Int) (fun n => !inB lo hi n) (fun q i => f84al0 N q l (l.length : Int) (i : Int) lo hi) (fun i => .inl ((i : Int), lo, hi)) (.inr (lo, hi)) (fun q i hi' => by
  show f84al0B N (f84al0 N q) l (l.length : Int) (i : Int) lo hi = _
  unfold f84al0B
  simp only [show ((i : Int) < (l.length : Int)) by omega, Int.natCast_nonneg, decide_true, Bool.and_true, if_true, Int.toNat_natCast, w_succ (show i < 4611686018427387904 by omega), f50_eq, andThen_some]) (fun q => by
  show f84al0B N (f84al0 N q) l (l.length : Int) (l.length : Int) lo hi = _
  unfold f84al0B
  rw [if_neg (by simp)]) N hN with ⟨i, hi', ha, hr⟩ | ⟨ha, hr⟩
 ·have hr : f84al0 N N l (l.length : Int) 0 lo hi = some (.inl ((i : Int), lo, hi)) := hr
  exact ⟨i, by rw [hr]; rfl, by rw [ha]; simp⟩
 ·have hr : f84al0 N N l (l.length : Int) 0 lo hi = some (.inr (lo, hi)) := hr
  exact ⟨-1, by rw [hr]; rfl, by rw [ha]; rfl⟩
theorem f25_eq (N : Nat) (l : List Int) (lo hi : Int) (hN : l.length < N) (hl : l.length < 1000000) : f25 N lo hi l = some (l.all (inB lo hi)) := by
 obtain ⟨r, h1, h2⟩ := f84a_eq N l lo hi hN hl
 unfold f25 f49a
 rw [h1, andThen_some, andThen_some, h2]
 simp [List.all_eq_not_any_not]
instance (s : Span) : Decidable (okSp s) := by unfold okSp; infer_instance
instance (n : Nat) (q : Pr) : Decidable (okPr n q) := by unfold okPr; infer_instance
instance (n : Nat) (q : Cn) : Decidable (okCn n q) := by unfold okCn; infer_instance
instance (s : Span) : Decidable (okWr s) := by unfold okWr; infer_instance
instance (n : Nat) (q : Sg) : Decidable (okSg n q) := by unfold okSg; infer_instance
theorem f71_eq (N : Nat) (s : Span) (hN : 100 ≤ N) : f71 N s.1 s.2 = some (!decide (okSp s)) := by
 unfold f71
 rw [f25_eq N _ _ _ (by simp; omega) (by simp)]
 simp only [andThen_some, List.all_cons, List.all_nil, inB, Bool.and_true]
 by_cases h1 : 0 ≤ s.1 <;> by_cases h2 : s.1 ≤ 1000 <;> by_cases h3 : 0 ≤ s.2 <;> by_cases h4 : s.2 ≤ 1000 <;> by_cases h5 : s.1 ≤ s.2 <;> simp [okSp, h1, h2, h3, h4, h5] <;> omega
theorem f72_eq (N : Nat) (l : List Int) (hs : List Span) (ps : List Pr) (cs : List Cn) (ss : List Sg) (hN : 100 ≤ N) (hl : l.length < 100) (hn : hs.length < 1000000) : f72 N l hs ps cs ss = some (l.all (inB 0 ((hs.length : Int) - 1)), hs, ps, cs, ss) := by
 unfold f72
 rw [w64_id (by omega) (by omega), f25_eq N _ _ _ (by omega) (by omega)]
 rfl
theorem f73_eq (N : Nat) (q : Pr) (hs : List Span) (ps : List Pr) (cs : List Cn) (ss : List Sg) (hN : 100 ≤ N) (hn : hs.length < 1000000) : f73 N q.1 q.2.1 q.2.2 hs ps cs ss = some (!decide (okPr hs.length q), hs, ps, cs, ss) := by
 unfold f73
 rw [f72_eq N _ _ _ _ _ hN (by simp) hn, f25_eq N _ _ _ (by simp; omega) (by simp)]
 simp only [andThen_some, List.all_cons, List.all_nil, inB, Bool.and_true]
 have e : ∀ x : Int, decide (x ≤ (hs.length : Int) - 1) = decide (x < (hs.length : Int)) := fun x => by rw [decide_eq_decide]; omega
 simp only [e, okPr]
 by_cases h1 : 0 ≤ q.1 <;> by_cases h2 : q.1 < hs.length <;> by_cases h3 : 0 ≤ q.2.1 <;> by_cases h4 : q.2.1 < hs.length <;> by_cases h5 : q.1 = q.2.1 <;> simp [h1, h2, h3, h4, h5]
theorem f74_eq (N : Nat) (q : Cn) (hs : List Span) (ps : List Pr) (cs : List Cn) (ss : List Sg) (hN : 100 ≤ N) (hn : hs.length < 1000000) : f74 N q.1 q.2.1 q.2.2 hs ps cs ss = some (!decide (okCn hs.length q), hs, ps, cs, ss) := by
 unfold f74
 rw [f72_eq N _ _ _ _ _ hN (by simp) hn, f25_eq N _ _ _ (by simp; omega) (by simp)]
 simp only [andThen_some, List.all_cons, List.all_nil, inB, Bool.and_true]
 have e : ∀ x : Int, decide (x ≤ (hs.length : Int) - 1) = decide (x < (hs.length : Int)) := fun x => by rw [decide_eq_decide]; omega
 simp only [e, okCn]
 by_cases h1 : 0 ≤ q.1 <;> by_cases h2 : q.1 < hs.length <;> simp [*]
theorem f26_eq (N : Nat) (w : Span) (hN : 100 ≤ N) : f26 N w.1 w.2 = some (decide (okWr w)) := by
 unfold f26
 rw [f25_eq N _ _ _ (by simp; omega) (by simp)]
 simp only [andThen_some, List.all_cons, List.all_nil, inB, Bool.and_true]
 by_cases h1 : 0 ≤ w.1 <;> by_cases h2 : w.1 ≤ 1000 <;> by_cases h3 : 0 ≤ w.2 <;> by_cases h4 : w.2 ≤ 1000 <;> by_cases h5 : w.1 < w.2 <;> simp [okWr, h1, h2, h3, h4, h5] <;> omega
theorem f75_eq (N : Nat) (q : Sg) (hs : List Span) (ps : List Pr) (cs : List Cn) (ss : List Sg) (hN : 100 ≤ N) (hn : hs.length < 1000000) : f75 N q.1 q.2.1.1 q.2.1.2 q.2.2 hs ps cs ss = some (!decide (okSg hs.length q), hs, ps, cs, ss) := by
 unfold f75
 rw [f72_eq N _ _ _ _ _ hN (by simp) hn, f26_eq N _ hN]
 simp only [andThen_some, List.all_cons, List.all_nil, inB, Bool.and_true]
 have e : ∀ x : Int, decide (x ≤ (hs.length : Int) - 1) = decide (x < (hs.length : Int)) := fun x => by rw [decide_eq_decide]; omega
 simp only [e, okSg]
 by_cases h1 : 0 ≤ q.1 <;> by_cases h2 : q.1 < hs.length <;> by_cases h3 : okWr q.2.1 <;> by_cases h4 : q.2.2 < 1 <;> by_cases h5 : q.2.2 > 3 <;> simp [h1, h2, h3, h4, h5] <;> omega
theorem any_all {α : Type} (l : List α) (P : α → Prop) [DecidablePred P] : (l.any fun x => !decide (P x)) = !decide (∀ x ∈ l, P x) := by
 rw [Bool.eq_iff_iff]
 simp
theorem f76_eq (N : Nat) (hs : List Span) (hN : 100 ≤ N) (hn : hs.length < 100) : f76 N hs = some (!decide (∀ s ∈ hs, okSp s)) := by
 unfold f76 f95
 rcases searchL hs ((0 : Int), (0 : Int)) (fun s => !decide (okSp s)) (fun q i => f95l0 N q hs (hs.length : Int) (i : Int)) (fun i => .inl (i : Int)) (.inr ()) (fun q i hi => by
  show f95l0B N (f95l0 N q) hs (hs.length : Int) (i : Int) = _
  unfold f95l0B
  simp only [show ((i : Int) < (hs.length : Int)) by omega, Int.natCast_nonneg, decide_true, Bool.and_true, if_true, Int.toNat_natCast, w_succ (show i < 4611686018427387904 by omega), f71_eq N _ hN, andThen_some]) (fun q => by
  show f95l0B N (f95l0 N q) hs (hs.length : Int) (hs.length : Int) = _
  unfold f95l0B
  rw [if_neg (by simp)]) N (by omega) with ⟨i, hi', ha, hr⟩ | ⟨ha, hr⟩
 ·have hr : f95l0 N N hs (hs.length : Int) 0 = some (.inl (i : Int)) := hr
  rw [hr, ← any_all, ha]; simp
 ·have hr : f95l0 N N hs (hs.length : Int) 0 = some (.inr ()) := hr
  rw [hr, ← any_all, ha]; rfl
theorem f77_eq (N : Nat) (l : List Pr) (hs : List Span) (ps : List Pr) (cs : List Cn) (ss : List Sg) (hN : 100 ≤ N) (hn : hs.length < 100) (hl : l.length < 100) : f77 N l hs ps cs ss = some (!decide (∀ q ∈ l, okPr hs.length q), hs, ps, cs, ss) := by
 unfold f77 f96
 rcases searchL l ((0 : Int), ((0 : Int), (0 : Int))) (fun s => !decide (okPr hs.length s)) (fun q i => f96l0 N q l (l.length : Int) (i : Int) hs ps cs ss) (fun i => .inl ((i : Int), hs, ps, cs, ss)) (.inr (hs, ps, cs, ss)) (fun q i hi => by
  show f96l0B N (f96l0 N q) l (l.length : Int) (i : Int) hs ps cs ss = _
  unfold f96l0B
  simp only [show ((i : Int) < (l.length : Int)) by omega, Int.natCast_nonneg, decide_true, Bool.and_true, if_true, Int.toNat_natCast, w_succ (show i < 4611686018427387904 by omega), f73_eq N _ _ _ _ _ hN (show hs.length < 1000000 by omega), andThen_some]) (fun q => by
  show f96l0B N (f96l0 N q) l (l.length : Int) (l.length : Int) hs ps cs ss = _
  unfold f96l0B
  rw [if_neg (by simp)]) N (by omega) with ⟨i, hi', ha, hr⟩ | ⟨ha, hr⟩
 ·have hr : f96l0 N N l (l.length : Int) 0 hs ps cs ss = some (.inl ((i : Int), hs, ps, cs, ss)) := hr
  rw [hr, ← any_all, ha]; simp
 ·have hr : f96l0 N N l (l.length : Int) 0 hs ps cs ss = some (.inr (hs, ps, cs, ss)) := hr
  rw [hr, ← any_all, ha]; rfl
theorem f78_eq (N : Nat) (l : List Cn) (hs : List Span) (ps : List Pr) (cs : List Cn) (ss : List Sg) (hN : 100 ≤ N) (hn : hs.length < 100) (hl : l.length < 100) : f78 N l hs ps cs ss = some (!decide (∀ q ∈ l, okCn hs.length q), hs, ps, cs, ss) := by
 unfold f78 f97
 rcases searchL l ((0 : Int), ((0 : Int), false)) (fun s => !decide (okCn hs.length s)) (fun q i => f97l0 N q l (l.length : Int) (i : Int) hs ps cs ss) (fun i => .inl ((i : Int), hs, ps, cs, ss)) (.inr (hs, ps, cs, ss)) (fun q i hi => by
  show f97l0B N (f97l0 N q) l (l.length : Int) (i : Int) hs ps cs ss = _
  unfold f97l0B
  simp only [show ((i : Int) < (l.length : Int)) by omega, Int.natCast_nonneg, decide_true, Bool.and_true, if_true, Int.toNat_natCast, w_succ (show i < 4611686018427387904 by omega), f74_eq N _ _ _ _ _ hN (show hs.length < 1000000 by omega), andThen_some]) (fun q => by
  show f97l0B N (f97l0 N q) l (l.length : Int) (l.length : Int) hs ps cs ss = _
  unfold f97l0B
  rw [if_neg (by simp)]) N (by omega) with ⟨i, hi', ha, hr⟩ | ⟨ha, hr⟩
 ·have hr : f97l0 N N l (l.length : Int) 0 hs ps cs ss = some (.inl ((i : Int), hs, ps, cs, ss)) := hr
  rw [hr, ← any_all, ha]; simp
 ·have hr : f97l0 N N l (l.length : Int) 0 hs ps cs ss = some (.inr (hs, ps, cs, ss)) := hr
  rw [hr, ← any_all, ha]; rfl
theorem f79_eq (N : Nat) (l : List Sg) (hs : List Span) (ps : List Pr) (cs : List Cn) (ss : List Sg) (hN : 100 ≤ N) (hn : hs.length < 100) (hl : l.length < 100) : f79 N l hs ps cs ss = some (!decide (∀ q ∈ l, okSg hs.length q), hs, ps, cs, ss) := by
 unfold f79 f98
 rcases searchL l ((0 : Int), (((0 : Int), (0 : Int)), (0 : Int))) (fun s => !decide (okSg hs.length s)) (fun q i => f98l0 N q l (l.length : Int) (i : Int) hs ps cs ss) (fun i => .inl ((i : Int), hs, ps, cs, ss)) (.inr (hs, ps, cs, ss)) (fun q i hi => by
  show f98l0B N (f98l0 N q) l (l.length : Int) (i : Int) hs ps cs ss = _
  unfold f98l0B
  simp only [show ((i : Int) < (l.length : Int)) by omega, Int.natCast_nonneg, decide_true, Bool.and_true, if_true, Int.toNat_natCast, w_succ (show i < 4611686018427387904 by omega), f75_eq N _ _ _ _ _ hN (show hs.length < 1000000 by omega), andThen_some]) (fun q => by
  show f98l0B N (f98l0 N q) l (l.length : Int) (l.length : Int) hs ps cs ss = _
  unfold f98l0B
  rw [if_neg (by simp)]) N (by omega) with ⟨i, hi', ha, hr⟩ | ⟨ha, hr⟩
 ·have hr : f98l0 N N l (l.length : Int) 0 hs ps cs ss = some (.inl ((i : Int), hs, ps, cs, ss)) := hr
  rw [hr, ← any_all, ha]; simp
 ·have hr : f98l0 N N l (l.length : Int) 0 hs ps cs ss = some (.inr (hs, ps, cs, ss)) := hr
  rw [hr, ← any_all, ha]; rfl
def chk (hs : List Span) (ps : List Pr) (cs : List Cn) (ss : List Sg) : Int :=
 if ¬ (1 ≤ hs.length ∧ hs.length ≤ 5) then 4 else if ¬ (∀ s ∈ hs, okSp s) then 4
 else if ¬ (ps.length ≤ 8) then 5 else if ¬ (cs.length ≤ 6) then 5 else if ¬ (ss.length ≤ 4) then 5
 else if ¬ (∀ q ∈ ps, okPr hs.length q) then 2 else if ¬ (∀ c ∈ cs, okCn hs.length c) then 2 else if ¬ (∀ s ∈ ss, okSg hs.length s) then 2 else 0
theorem f46_eq (N : Nat) (hs : List Span) (ps : List Pr) (cs : List Cn) (ss : List Sg) (hN : 100 ≤ N) (h1 : hs.length < 100) (h2 : ps.length < 100) (h3 : cs.length < 100) (h4 : ss.length < 100) : f46 N hs ps cs ss = some (chk hs ps cs ss) := by
 unfold f46 chk
 rw [f25_eq N _ _ _ (by simp; omega) (by simp), f76_eq N hs hN h1, f77_eq N ps hs ps cs ss hN h1 h2]
 simp only [andThen_some, f78_eq N cs hs ps cs ss hN h1 h3, f79_eq N ss hs ps cs ss hN h1 h4, List.all_cons, List.all_nil, inB, Bool.and_true]
 have d1 : decide ((ps.length : Int) > 8) = !decide (ps.length ≤ 8) := by rw [← decide_not, decide_eq_decide]; omega
 have d2 : decide ((cs.length : Int) > 6) = !decide (cs.length ≤ 6) := by rw [← decide_not, decide_eq_decide]; omega
 have d3 : decide ((ss.length : Int) > 4) = !decide (ss.length ≤ 4) := by rw [← decide_not, decide_eq_decide]; omega
 have d4 : (decide ((1 : Int) ≤ (hs.length : Int)) && decide ((hs.length : Int) ≤ 5)) = decide (1 ≤ hs.length ∧ hs.length ≤ 5) := by rw [← Bool.decide_and, decide_eq_decide]; omega
 rw [d1, d2, d3, d4]
 have ifn : ∀ (P : Prop) [Decidable P] (a b : Int), (if ¬ P then a else b) = (if (!decide P) = true then a else b) := fun P _ a b => by by_cases h : P <;> simp [h]
 simp only [ifn]
 generalize decide (1 ≤ hs.length ∧ hs.length ≤ 5) = b1
 generalize decide (∀ s ∈ hs, okSp s) = b2
 generalize decide (ps.length ≤ 8) = b3
 generalize decide (cs.length ≤ 6) = b4
 generalize decide (ss.length ≤ 4) = b5
 generalize decide (∀ q ∈ ps, okPr hs.length q) = b6
 generalize decide (∀ q ∈ cs, okCn hs.length q) = b7
 generalize decide (∀ q ∈ ss, okSg hs.length q) = b8
 cases b1 <;> cases b2 <;> cases b3 <;> cases b4 <;> cases b5 <;> cases b6 <;> cases b7 <;> cases b8 <;> rfl
theorem badSp_eq {R : Type} (s : Span) (a b : R) : (if (!inB 0 s.2 s.1) = false then (if decide (s.2 > 1000) = true then a else b) else a) = if (!decide (okSp s)) = true then a else b := by
 by_cases h1 : 0 ≤ s.1 ∧ s.1 ≤ s.2
 ·have e : inB 0 s.2 s.1 = true := by simp [inB, h1]
  rw [e, if_pos (show (!true) = false from rfl)]
  by_cases h3 : s.2 > 1000
  ·rw [if_pos (decide_eq_true h3), if_pos (by rw [decide_eq_false (by unfold okSp; omega)]; rfl)]
  ·rw [if_neg (fun h => h3 (of_decide_eq_true h)), if_neg (by rw [decide_eq_true (by unfold okSp; omega)]; decide)]
 ·have e : inB 0 s.2 s.1 = false := by
   rw [inB, ← Bool.decide_and]; exact decide_eq_false h1
  rw [e, if_neg (show ¬ (!false) = false by decide), if_pos (by rw [decide_eq_false (by unfold okSp; omega)]; rfl)]
structure Valid (hs : List Span) (ps : List Pr) (cs : List Cn) (ss : List Sg) : Prop where
 n1 : 1 ≤ hs.length
 n5 : hs.length ≤ 5
 h : ∀ s ∈ hs, okSp s
 p8 : ps.length ≤ 8
 c6 : cs.length ≤ 6
 s4 : ss.length ≤ 4
 p : ∀ q ∈ ps, okPr hs.length q
 c : ∀ c ∈ cs, okCn hs.length c
 s : ∀ s ∈ ss, okSg hs.length s
theorem chk_valid {hs : List Span} {ps : List Pr} {cs : List Cn} {ss : List Sg} : chk hs ps cs ss = 0 ↔ Valid hs ps cs ss := by
 unfold chk
 constructor
 ·intro h
  split at h; cases h
  split at h; cases h
  split at h; cases h
  split at h; cases h
  split at h; cases h
  split at h; cases h
  split at h; cases h
  split at h; cases h
  rename_i a b c d e f g i
  have a := Classical.not_not.1 a
  exact ⟨a.1, a.2, Classical.not_not.1 b, Classical.not_not.1 c, Classical.not_not.1 d, Classical.not_not.1 e, Classical.not_not.1 f, Classical.not_not.1 g, Classical.not_not.1 i⟩
 ·intro h
  rw [if_neg (not_not_intro ⟨h.n1, h.n5⟩), if_neg (not_not_intro h.h), if_neg (not_not_intro h.p8), if_neg (not_not_intro h.c6), if_neg (not_not_intro h.s4), if_neg (not_not_intro h.p), if_neg (not_not_intro h.c), if_neg (not_not_intro h.s)]
end Go.Pl


namespace Go.Pl
open Go.Al Go.Proofs
theorem loop_all {R : Type} (L : Nat → Nat → Option R) (n : Nat) (r : R) (step : ∀ q i, i < n → L (q + 1) i = L q (i + 1)) (stop : ∀ q, L (q + 1) n = some r) (N : Nat) (hN : n < N) : L N 0 = some r := by
 obtain ⟨r', h1, h2⟩ := loop_run L (fun i => i ≤ n) (fun i => n - i) (fun x => x = r) (fun q i hi => by
  by_cases h : i < n
  ·right; exact ⟨i + 1, h, by omega, step q i h⟩
  ·left
   have : i = n := by omega
   subst this
   exact ⟨r, stop q, rfl⟩) N 0 (Nat.zero_le _) (by simpa using hN)
 rw [h2] at h1; exact h1
end Go.Pl


namespace Go.Pl
open Go.Al Go.Proofs
theorem dd {p q : Prop} [Decidable p] [Decidable q] (hp : p) (hq : q) : (decide p && decide q) = true := by simp [hp, hq]
theorem d1 {p : Prop} [Decidable p] (hp : p) : decide p = true := decide_eq_true hp
theorem dn {p : Prop} [Decidable p] (hp : ¬ p) : ¬ decide p = true := by simp [hp]
abbrev Pt := (Int × Int) × ((Int × Int) × (Int × Int))
def p0 : Pt := ((0, 0), ((0, 0), (0, 0)))
def pn (ps : List Pt) (i : Nat) : Pt := ps.getD i p0
def okPt (p : Pt) : Prop := 0 ≤ p.1.1 ∧ p.1.1 ≤ p.1.2 ∧ p.1.2 ≤ 1000 ∧ 0 ≤ p.2.1.1 ∧ p.2.1.1 ≤ p.2.1.2 ∧ p.2.1.2 ≤ 200 ∧ 1 ≤ p.2.2.1 ∧ p.2.2.1 ≤ 3 ∧ 1 ≤ p.2.2.2 ∧ p.2.2.2 ≤ 12
theorem f86_eq (N : Nat) (x lo hi : Int) : f86 N x lo hi = some (!inB lo hi x, lo, hi) := by
 unfold f86 inB
 by_cases h : x < lo
 ·have : ¬ lo ≤ x := by omega
  simp [h, this]
 ·have h' : lo ≤ x := by omega
  have e : decide (x > hi) = !decide (x ≤ hi) := by rw [← decide_not, decide_eq_decide]; omega
  simp [h, h', e]
theorem f84_eq (N : Nat) (l : List Int) (lo hi : Int) (hN : l.length < N) (hl : l.length < 1000000) : ∃ r, f84 N l lo hi = some (r, lo, hi) ∧ decide (r ≥ 0) = l.any fun n => !inB lo hi n := by
 unfold f84
 rcases searchL l (0 : Int) (fun n => !inB lo hi n) (fun q i => f84l0 N q l (l.length : Int) (i : Int) lo hi) (fun i => .inl ((i : Int), lo, hi)) (.inr (lo, hi)) (fun q i hi' => by
  show f84l0B N (f84l0 N q) l (l.length : Int) (i : Int) lo hi = _
  unfold f84l0B
  simp only [show ((i : Int) < (l.length : Int)) by omega, Int.natCast_nonneg, decide_true, Bool.and_true, if_true, Int.toNat_natCast, w_succ (show i < 4611686018427387904 by omega), f86_eq, andThen_some]) (fun q => by
  show f84l0B N (f84l0 N q) l (l.length : Int) (l.length : Int) lo hi = _
  unfold f84l0B
  rw [if_neg (by simp)]) N hN with ⟨i, hi', ha, hr⟩ | ⟨ha, hr⟩
 ·have hr : f84l0 N N l (l.length : Int) 0 lo hi = some (.inl ((i : Int), lo, hi)) := hr
  exact ⟨i, by rw [hr]; rfl, by rw [ha]; simp⟩
 ·have hr : f84l0 N N l (l.length : Int) 0 lo hi = some (.inr (lo, hi)) := hr
  exact ⟨-1, by rw [hr]; rfl, by rw [ha]; rfl⟩
theorem f61_eq (N : Nat) (l : List Int) (lo hi : Int) (hN : l.length < N) (hl : l.length < 1000000) : f61 N lo hi l = some (l.all (inB lo hi)) := by
 obtain ⟨r, h1, h2⟩ := f84_eq N l lo hi hN hl
 unfold f61 f49
 rw [h1, andThen_some, andThen_some, h2]
 simp [List.all_eq_not_any_not]
theorem f60_eq (N : Nat) (a b m : Int) (hN : 100 ≤ N) : f60 N a b m = some (decide (a ≤ b) && (inB 0 m a && inB 0 m b)) := by
 unfold f60
 rw [f61_eq N _ _ _ (by simp; omega) (by simp), andThen_some]
 by_cases h : a ≤ b <;> simp [h]
instance (p : Pt) : Decidable (okPt p) := by unfold okPt; infer_instance
theorem f59_eq (N : Nat) (p : Pt) (hN : 100 ≤ N) : f59 N p.1.1 p.1.2 p.2.1.1 p.2.1.2 p.2.2.1 p.2.2.2 = some (!decide (okPt p)) := by
 unfold f59
 rw [f60_eq N _ _ _ hN, f60_eq N _ _ _ hN, f61_eq N _ _ _ (by simp; omega) (by simp), f61_eq N _ _ _ (by simp; omega) (by simp)]
 simp only [andThen_some, List.all_cons, List.all_nil, inB, Bool.and_true]
 by_cases h1 : p.1.1 ≤ p.1.2 ∧ 0 ≤ p.1.1 ∧ p.1.1 ≤ 1000 ∧ 0 ≤ p.1.2 ∧ p.1.2 ≤ 1000
 ·obtain ⟨a, b, c, d, e⟩ := h1
  by_cases h2 : p.2.1.1 ≤ p.2.1.2 ∧ 0 ≤ p.2.1.1 ∧ p.2.1.1 ≤ 200 ∧ 0 ≤ p.2.1.2 ∧ p.2.1.2 ≤ 200
  ·obtain ⟨a2, b2, c2, d2, e2⟩ := h2
   by_cases h3 : 1 ≤ p.2.2.1 <;> by_cases h4 : p.2.2.1 ≤ 3 <;> by_cases h5 : 1 ≤ p.2.2.2 <;> by_cases h6 : p.2.2.2 ≤ 12 <;> simp [okPt, *]
  ·have hn : ¬ okPt p := fun h => h2 (by unfold okPt at h; omega)
   have e3 : (decide (p.2.1.1 ≤ p.2.1.2) && (decide (0 ≤ p.2.1.1) && decide (p.2.1.1 ≤ 200) && (decide (0 ≤ p.2.1.2) && decide (p.2.1.2 ≤ 200)))) = false := by
    rw [Bool.eq_false_iff]; intro h; apply h2; simpa [and_assoc] using h
   simp [a, b, c, d, e, e3, hn]
 ·have hn : ¬ okPt p := fun h => h1 (by unfold okPt at h; omega)
  have e3 : (decide (p.1.1 ≤ p.1.2) && (decide (0 ≤ p.1.1) && decide (p.1.1 ≤ 1000) && (decide (0 ≤ p.1.2) && decide (p.1.2 ≤ 1000)))) = false := by
   rw [Bool.eq_false_iff]; intro h; apply h1; simpa [and_assoc] using h
  simp [e3, hn]
theorem f63_ok (N : Nat) (ps : List Pt) (hN : 100 ≤ N) (hn : ps.length ≤ 5) (hok : ∀ p ∈ ps, okPt p) : f63 N ps = some false := by
 unfold f63 f87
 have h := loop_all (fun q i => f87l0 N q ps (ps.length : Int) (i : Int)) ps.length (.inr ()) (fun q i hi => by
  show f87l0B N (f87l0 N q) ps (ps.length : Int) (i : Int) = _
  unfold f87l0B
  have := f59_eq N (pn ps i) hN
  unfold pn p0 at this
  rw [decide_eq_true (hok _ (getD_mem hi))] at this
  simp only [show ((i : Int) < (ps.length : Int)) by omega, Int.natCast_nonneg, decide_true, Bool.and_true, if_true, Int.toNat_natCast, w_succ (show i < 4611686018427387904 by omega), this, andThen_some]
  rw [if_neg (by decide)]) (fun q => by
  show f87l0B N (f87l0 N q) ps (ps.length : Int) (ps.length : Int) = _
  unfold f87l0B
  rw [if_neg (by simp)]) N (by omega)
 have h : f87l0 N N ps (ps.length : Int) 0 = some (.inr ()) := h
 rw [h]; rfl
theorem f64_nil (N : Nat) (ps : List Pt) (a b : Int) (e : List (Int × Int)) (hN : 100 ≤ N) : f64 N [] ps a b e = some (false, ps, a, b, e) := by
 unfold f64 f88
 obtain ⟨M, rfl⟩ : ∃ M, N = M + 1 := ⟨N - 1, by omega⟩
 rw [show f88l0 (M + 1) (M + 1) [] (([] : List (Int × Int)).length : Int) 0 ps a b e = f88l0B (M + 1) (f88l0 (M + 1) M) [] (([] : List (Int × Int)).length : Int) 0 ps a b e from rfl]
 unfold f88l0B
 rw [if_neg (by simp)]
 rfl
structure ColOk (ps : List Pt) (near give : Int) : Prop where
 n1 : 1 ≤ ps.length
 n5 : ps.length ≤ 5
 near0 : 0 ≤ near
 near1 : near ≤ 100
 give0 : 0 ≤ give
 give1 : give ≤ 100
 pt : ∀ p ∈ ps, okPt p
theorem ColOk.get {ps : List Pt} {near give : Int} (h : ColOk ps near give) {i : Nat} (hi : i < ps.length) : okPt (pn ps i) := h.pt _ (getD_mem hi)
theorem f36_ok (N : Nat) (ps : List Pt) (near give : Int) (hN : 100 ≤ N) (h : ColOk ps near give) : f36 N ps near give [] = some 0 := by
 have h1 := h.n1; have h2 := h.n5; have h3 := h.near0; have h4 := h.near1; have h5 := h.give0; have h6 := h.give1
 unfold f36
 rw [f61_eq N _ _ _ (by simp; omega) (by simp), f61_eq N _ _ _ (by simp; omega) (by simp), f63_ok N ps hN h.n5 h.pt, f64_nil N _ _ _ _ hN]
 simp only [andThen_some]
 rw [if_neg (by simp [inB]; omega), if_neg (by simp [inB]; omega), if_neg (by simp), if_neg (by decide), if_neg (by decide)]
theorem take_getL {α : Type} (l : List α) (d : α) {i : Nat} (hi : i < l.length) : l.take (i + 1) = l.take i ++ [l.getD i d] := by
 rw [List.getD_eq_getElem?_getD, List.getElem?_eq_getElem hi, Option.getD_some, List.take_append_getElem]
structure RoundOk (n : Nat) (r : List Int) : Prop where
 ne : r ≠ []
 len : r.length ≤ 5
 asc : ∀ i, i + 1 < r.length → r.getD i 0 < r.getD (i + 1) 0
 mem : ∀ c ∈ r, 0 ≤ c ∧ c < n
structure PlanOk (n : Nat) (pl : List (List Int)) : Prop where
 len : pl.length ≤ 5
 rd : ∀ r ∈ pl, RoundOk n r
 nd : pl.flatten.Nodup
theorem f66_ok (N : Nat) (ps : List Pt) (a b : Int) (e : List (Int × Int)) (r : List Int) (hN : 100 ≤ N) (hn : ps.length ≤ 5) (h : RoundOk ps.length r) : f66 N ps a b e r = some true := by
 have hl := h.len
 unfold f66
 have hL := loop_all (fun q i => f66l0 N q r (r.length : Int) (i : Int) ps a b e) r.length (.inr (r, ps, a, b, e)) (fun q i hi => by
  show f66l0B N (f66l0 N q) r (r.length : Int) (i : Int) ps a b e = _
  unfold f66l0B
  rw [if_pos (by simp; omega), w_succ (by omega)]
  by_cases h0 : i = 0
  ·subst h0; rw [if_neg (by simp)]
  ·obtain ⟨j, rfl⟩ : ∃ j, i = j + 1 := ⟨i - 1, by omega⟩
   have hw : Go.IntKind.wrap .i64 (((j + 1 : Nat) : Int) - 1) = (j : Int) := by rw [w64_id (by omega) (by omega)]; omega
   have := h.asc j hi
   simp only [hw, Int.toNat_natCast]
   rw [if_pos (d1 (by omega)), if_pos (dd (by omega) (by omega)), if_pos (dd (by omega) (by omega)), if_neg (dn (by omega))]) (fun q => by
  show f66l0B N (f66l0 N q) r (r.length : Int) (r.length : Int) ps a b e = _
  unfold f66l0B
  rw [if_neg (by simp)]) N (by omega)
 have hL : f66l0 N N r (r.length : Int) 0 ps a b e = some (.inr (r, ps, a, b, e)) := hL
 rw [hL, andThen_some, either_inr]
 simp only
 rw [w64_id (by omega) (by omega), f61_eq N _ _ _ (by omega) (by omega), andThen_some]
 congr 1
 rw [List.all_eq_true]
 intro c hc
 have := h.mem c hc
 simp [inB]; omega
def seenF (seen : List Bool) (A : Int → Prop) : Prop := seen.length = 5 ∧ ∀ c : Nat, c < 5 → seen.getD c false = true → A c
theorem nodup_split {pl : List (List Int)} (h : pl.flatten.Nodup) {i : Nat} (hi : i < pl.length) {j : Nat} (hj : j < (pl.getD i []).length) : (pl.getD i []).getD j 0 ∉ (pl.take i).flatten ∧ (pl.getD i []).getD j 0 ∉ (pl.getD i []).take j := by
 have e : pl = pl.take i ++ (pl.getD i [] :: pl.drop (i + 1)) := by
  rw [List.getD_eq_getElem?_getD, List.getElem?_eq_getElem hi, Option.getD_some, List.getElem_cons_drop, List.take_append_drop]
 rw [e, List.flatten_append, List.flatten_cons] at h
 have hm : (pl.getD i []).getD j 0 ∈ pl.getD i [] := getD_mem hj
 obtain ⟨h1, h2, h3⟩ := List.nodup_append.1 h
 obtain ⟨h4, _, _⟩ := List.nodup_append.1 h2
 refine ⟨fun hx => h3 _ hx _ (List.mem_append_left _ hm) rfl, fun hx => ?_⟩
 have e2 : pl.getD i [] = (pl.getD i []).take j ++ ((pl.getD i []).getD j 0 :: (pl.getD i []).drop (j + 1)) := by
  generalize pl.getD i [] = r at hj
  rw [List.getD_eq_getElem?_getD, List.getElem?_eq_getElem hj, Option.getD_some, List.getElem_cons_drop, List.take_append_drop]
 generalize pl.getD i [] = r at *
 generalize r.getD j 0 = x at *
 rw [e2] at h4
 exact (List.nodup_append.1 h4).2.2 x hx x (by simp) rfl
theorem f39l1_ok (N : Nat) (pl : List (List Int)) (k i : Nat) (r : List Int) (ps : List Pt) (a b : Int) (e : List (Int × Int)) (hN : 100 ≤ N) (hl : r.length ≤ 5) (hm : ∀ c ∈ r, 0 ≤ c ∧ c < 5) (A : Int → Prop)
  (hA : ∀ j, j < r.length → ¬ A (r.getD j 0) ∧ r.getD j 0 ∉ r.take j) (seen : List Bool) (hs : seenF seen A) :
  ∃ seen', f39l1 N N pl k i r (r.length : Int) 0 ps a b e seen = some (.inr (pl, (k : Int), (i : Int), ps, a, b, e, seen')) ∧ seenF seen' (fun c => A c ∨ c ∈ r) := by
 obtain ⟨res, h1, h2⟩ := loop_run (fun q (s : Nat × List Bool) => f39l1 N q pl k i r (r.length : Int) (s.1 : Int) ps a b e s.2) (fun s => s.1 ≤ r.length ∧ seenF s.2 (fun c => A c ∨ c ∈ r.take s.1)) (fun s => r.length - s.1)
  (fun res => ∃ seen', res = .inr (pl, (k : Int), (i : Int), ps, a, b, e, seen') ∧ seenF seen' (fun c => A c ∨ c ∈ r)) (fun q s hs => by
   obtain ⟨j, sn⟩ := s
   obtain ⟨hj, hl5, hs⟩ := hs
   by_cases hlt : j < r.length
   ·right
    have hmem : r.getD j 0 ∈ r := getD_mem hlt
    obtain ⟨hc0, hc5⟩ := hm _ hmem
    obtain ⟨hA1, hA2⟩ := hA j hlt
    have hidx : 0 + (r.getD j 0).toNat * 1 = (r.getD j 0).toNat := by omega
    have hn : sn.getD (r.getD j 0).toNat false = false := by
     cases hb : sn.getD (r.getD j 0).toNat false with
     | false => rfl
     | true =>
      have := hs _ (by omega) hb
      rw [Int.toNat_of_nonneg hc0] at this
      rcases this with h | h
      ·exact absurd h hA1
      ·exact absurd h hA2
    refine ⟨(j + 1, sn.set (r.getD j 0).toNat true), ⟨hlt, by simpa using hl5, fun c hc hct => ?_⟩, by simp only; omega, ?_⟩
    ·rw [getD_set] at hct
     by_cases hcc : (r.getD j 0).toNat = c ∧ (r.getD j 0).toNat < sn.length
     ·right
      rw [take_getL r 0 hlt]
      have : (c : Int) = r.getD j 0 := by omega
      rw [this]; simp
     ·rw [if_neg hcc] at hct
      rcases hs c hc hct with h | h
      ·exact .inl h
      ·right
       rw [take_getL r 0 hlt]
       exact List.mem_append_left _ h
    ·show f39l1B N (f39l1 N q) pl k i r (r.length : Int) (j : Int) ps a b e sn = f39l1 N q pl k i r (r.length : Int) ((j + 1 : Nat) : Int) ps a b e (sn.set (r.getD j 0).toNat true)
     unfold f39l1B
     simp only [Int.toNat_natCast, w_succ (show j < 4611686018427387904 by omega), hidx, hn]
     rw [if_pos (d1 (by omega)), if_pos (dd (by omega) (by omega)), if_pos (dd (by omega) (by omega)), if_neg (by decide), if_pos (dd (by omega) (by omega))]
   ·left
    have : j = r.length := by omega
    subst this
    refine ⟨_, ?_, sn, rfl, hl5, fun c hc hct => ?_⟩
    ·show f39l1B N (f39l1 N q) pl k i r (r.length : Int) (r.length : Int) ps a b e sn = _
     unfold f39l1B
     rw [if_neg (by simp)]
    ·have := hs c hc hct
     simpa using this) N (0, seen) ⟨Nat.zero_le _, hs.1, fun c hc h => .inl (hs.2 c hc h)⟩ (by simp only; omega)
 obtain ⟨seen', rfl, h3⟩ := h2
 exact ⟨seen', h1, h3⟩
theorem f39_ok (N : Nat) (ps : List Pt) (a b : Int) (e : List (Int × Int)) (pl : List (List Int)) (hN : 100 ≤ N) (hn : ps.length ≤ 5) (h : PlanOk ps.length pl) : f39 N ps a b e pl = some true := by
 have hl := h.len
 unfold f39
 obtain ⟨res, h1, rfl⟩ := loop_run (fun q (s : Nat × List Bool) => f39l0 N q pl (pl.length : Int) (s.1 : Int) ps a b e s.2) (fun s => s.1 ≤ pl.length ∧ seenF s.2 (fun c => c ∈ (pl.take s.1).flatten)) (fun s => pl.length - s.1)
  (fun res => res = .inr ()) (fun q s hs => by
   obtain ⟨i, sn⟩ := s
   obtain ⟨hi, hs⟩ := hs
   by_cases hlt : i < pl.length
   ·right
    have hr := h.rd _ (getD_mem (d := []) hlt)
    obtain ⟨sn', e1, e2⟩ := f39l1_ok N pl pl.length i (pl.getD i []) ps a b e hN hr.len (fun c hc => by have := hr.mem c hc; omega) _ (fun j hj => nodup_split h.nd hlt hj) sn hs
    refine ⟨(i + 1, sn'), ⟨hlt, e2.1, fun c hc hct => ?_⟩, by simp only; omega, ?_⟩
    ·rw [take_getL pl [] hlt, List.flatten_append]
     simpa using e2.2 c hc hct
    ·show f39l0B N (f39l0 N q) pl (pl.length : Int) (i : Int) ps a b e sn = f39l0 N q pl (pl.length : Int) ((i + 1 : Nat) : Int) ps a b e sn'
     unfold f39l0B
     have hne : (((pl.getD i []).length : Int) == 0) = false := by
      have := List.length_pos_iff.2 hr.ne
      rw [beq_eq_false_iff_ne]; omega
     simp only [Int.toNat_natCast, hne]
     rw [if_pos (by simp; omega), if_pos (by simp; omega), if_pos trivial, f66_ok N ps a b e _ hN hn hr, andThen_some, if_neg (by decide), e1, andThen_some, either_inr, w_succ (by omega)]
   ·left
    have : i = pl.length := by omega
    subst this
    refine ⟨_, ?_, rfl⟩
    show f39l0B N (f39l0 N q) pl (pl.length : Int) (pl.length : Int) ps a b e sn = _
    unfold f39l0B
    rw [if_neg (by simp)]) N (0, [false, false, false, false, false]) ⟨Nat.zero_le _, rfl, fun c hc h => by
     match c, hc, h with
     | 0, _, h => simp at h
     | 1, _, h => simp at h
     | 2, _, h => simp at h
     | 3, _, h => simp at h
     | 4, _, h => simp at h⟩ (by simp only; omega)
 have h1 : f39l0 N N pl (pl.length : Int) 0 ps a b e [false, false, false, false, false] = some (.inr ()) := h1
 rw [h1]; rfl
theorem f37_ok (N : Nat) (ps : List Pt) (a b : Int) (e : List (Int × Int)) (pls : List (List (List Int))) (hN : 100 ≤ N) (hn : ps.length ≤ 5) (hl : pls.length ≤ 50) (h : ∀ pl ∈ pls, PlanOk ps.length pl) : f37 N pls ps a b e = some (false, ps, a, b, e) := by
 unfold f37 f65
 have hL := loop_all (fun q i => f65l0 N q pls (pls.length : Int) (i : Int) ps a b e) pls.length (.inr (ps, a, b, e)) (fun q i hi => by
  show f65l0B N (f65l0 N q) pls (pls.length : Int) (i : Int) ps a b e = _
  unfold f65l0B f38
  simp only [Int.toNat_natCast]
  rw [if_pos (by simp; omega), if_pos (by simp; omega), f39_ok N ps a b e _ hN hn (h _ (getD_mem hi)), andThen_some, andThen_some]
  simp only
  rw [if_neg (by decide), w_succ (by omega)]) (fun q => by
  show f65l0B N (f65l0 N q) pls (pls.length : Int) (pls.length : Int) ps a b e = _
  unfold f65l0B
  rw [if_neg (by simp)]) N (by omega)
 have hL : f65l0 N N pls (pls.length : Int) 0 ps a b e = some (.inr (ps, a, b, e)) := hL
 rw [hL]; rfl
theorem f20_ok (N : Nat) (ps : List Pt) (near give : Int) (pls : List (List (List Int))) (hN : 100 ≤ N) (hc : ColOk ps near give) (hl : pls.length ≤ 50) (h : ∀ pl ∈ pls, PlanOk ps.length pl) : f20 N ps near give [] pls = some (ps, near, give, [], 0) := by
 unfold f20
 rw [f36_ok N ps near give hN hc, andThen_some, if_neg (by decide), f37_ok N ps near give [] pls hN hc.n5 hl h, andThen_some]
 simp only
 rw [if_neg (by decide)]
end Go.Pl


namespace Go.Pl
open Go.Al Go.Proofs
theorem f8_eq (N : Nat) (ps : List Pt) (a b : Int) (e : List (Int × Int)) (h1 : ps.length < 1000) (h2 : e.length < 1000) : f8 N ps a b e = some (ps, a, b, e) := by
 unfold f8
 rw [if_pos (by rw [Nat.ble_eq]; simp; unfold boundLen; omega), if_pos (by rw [Nat.ble_eq]; simp; unfold boundLen; omega)]
 rfl
theorem f11_eq (N : Nat) (l : List Span) (h1 : l.length < 1000) : f11 N l = some (l, [], [], []) := by
 unfold f11
 rw [if_pos (by rw [Nat.ble_eq]; simp; unfold boundLen; omega)]
 rfl
end Go.Pl


namespace Go.Pl
open Go.Al Go.Proofs
def nts (cs : List Cn) (ss : List Sg) : List Nt := cs.map Sum.inl ++ ss.map Sum.inr
theorem take_get {α : Type} (l : List α) (d : α) {i : Nat} (hi : i < l.length) : l.take (i + 1) = l.take i ++ [l.getD i d] := by
 rw [List.getD_eq_getElem?_getD, List.getElem?_eq_getElem hi, List.take_succ_eq_append_getElem hi]; rfl
theorem f47l0_eq (N : Nat) (l : List Cn) (a1 : List Span) (a2 : List Pr) (a3 : List Cn) (a4 : List Sg) (b1 : List Span) (b2 : List Pr) (b3 : List Cn) (b4 : List Sg) (b5 : List Nt) (c1 : List Span) (c2 : List Pr) (c3 : List Cn) (c4 : List Sg) (hN : l.length < N) (hl : l.length < 1000) :
  f47l0 N N l (l.length : Int) 0 a1 a2 a3 a4 b1 b2 b3 b4 b5 c1 c2 c3 c4 [] = some (a1, a2, a3, a4, b1, b2, b3, b4, b5, c1, c2, c3, c4, l.map Sum.inl) := by
 obtain ⟨r, h1, h2⟩ := loop_run (fun q (i : Nat) => f47l0 N q l (l.length : Int) (i : Int) a1 a2 a3 a4 b1 b2 b3 b4 b5 c1 c2 c3 c4 ((l.take i).map Sum.inl)) (fun i => i ≤ l.length) (fun i => l.length - i)
  (fun r => r = (a1, a2, a3, a4, b1, b2, b3, b4, b5, c1, c2, c3, c4, l.map Sum.inl)) (fun q i hi => by
   by_cases h : i < l.length
   ·right
    refine ⟨i + 1, h, by omega, ?_⟩
    show f47l0B N (f47l0 N q) l (l.length : Int) (i : Int) a1 a2 a3 a4 b1 b2 b3 b4 b5 c1 c2 c3 c4 ((l.take i).map Sum.inl) = _
    unfold f47l0B
    simp only [show ((i : Int) < (l.length : Int)) by omega, Int.natCast_nonneg, decide_true, Bool.and_true, if_true, Int.toNat_natCast, w_succ (show i < 4611686018427387904 by omega)]
    rw [if_pos (by simp [boundLen]; omega), take_get l ((0 : Int), ((0 : Int), false)) h, List.map_append]
    rfl
   ·left
    have : i = l.length := by omega
    subst this
    refine ⟨_, ?_, rfl⟩
    show f47l0B N (f47l0 N q) l (l.length : Int) (l.length : Int) a1 a2 a3 a4 b1 b2 b3 b4 b5 c1 c2 c3 c4 ((l.take l.length).map Sum.inl) = _
    unfold f47l0B
    rw [if_neg (by simp), List.take_length]) N 0 (Nat.zero_le _) (by simpa using hN)
 rw [h2] at h1
 exact h1
theorem f47l1_eq (N : Nat) (l : List Sg) (b1 : List Span) (b2 : List Pr) (b3 : List Cn) (b4 : List Sg) (b5 : List Nt) (c1 : List Span) (c2 : List Pr) (c3 : List Cn) (c4 : List Sg) (z : List Nt) (hN : l.length < N) (hl : l.length < 1000) (hz : z.length < 1000) :
  f47l1 N N l (l.length : Int) 0 b1 b2 b3 b4 b5 c1 c2 c3 c4 z = some (b1, b2, b3, b4, b5, c1, c2, c3, c4, z ++ l.map Sum.inr) := by
 obtain ⟨r, h1, h2⟩ := loop_run (fun q (i : Nat) => f47l1 N q l (l.length : Int) (i : Int) b1 b2 b3 b4 b5 c1 c2 c3 c4 (z ++ (l.take i).map Sum.inr)) (fun i => i ≤ l.length) (fun i => l.length - i)
  (fun r => r = (b1, b2, b3, b4, b5, c1, c2, c3, c4, z ++ l.map Sum.inr)) (fun q i hi => by
   by_cases h : i < l.length
   ·right
    refine ⟨i + 1, h, by omega, ?_⟩
    show f47l1B N (f47l1 N q) l (l.length : Int) (i : Int) b1 b2 b3 b4 b5 c1 c2 c3 c4 (z ++ (l.take i).map Sum.inr) = _
    unfold f47l1B
    simp only [show ((i : Int) < (l.length : Int)) by omega, Int.natCast_nonneg, decide_true, Bool.and_true, if_true, Int.toNat_natCast, w_succ (show i < 4611686018427387904 by omega)]
    rw [if_pos (by simp [boundLen]; omega), take_get l ((0 : Int), (((0 : Int), (0 : Int)), (0 : Int))) h, List.map_append, ← List.append_assoc]
    rfl
   ·left
    have : i = l.length := by omega
    subst this
    refine ⟨_, ?_, rfl⟩
    show f47l1B N (f47l1 N q) l (l.length : Int) (l.length : Int) b1 b2 b3 b4 b5 c1 c2 c3 c4 (z ++ (l.take l.length).map Sum.inr) = _
    unfold f47l1B
    rw [if_neg (by simp), List.take_length]) N 0 (Nat.zero_le _) (by simpa using hN)
 rw [h2] at h1
 simpa using h1
theorem f47_eq (N : Nat) (hs : List Span) (ps : List Pr) (cs : List Cn) (ss : List Sg) (hN : 100 ≤ N) (h3 : cs.length < 100) (h4 : ss.length < 100) : f47 N hs ps cs ss = some (hs, ps, cs, ss, nts cs ss) := by
 unfold f47
 rw [f47l0_eq N cs _ _ _ _ _ _ _ _ _ _ _ _ _ (by omega) (by omega), andThen_some]
 simp only
 rw [f47l1_eq N ss _ _ _ _ _ _ _ _ _ _ (by omega) (by omega) (by simp; omega), andThen_some]
 rfl
theorem nt_mem {ns : List Nt} {i : Nat} (hi : i < ns.length) : nt ns i ∈ ns := getD_mem hi
theorem nts_ok {hs : List Span} {ps : List Pr} {cs : List Cn} {ss : List Sg} (v : Valid hs ps cs ss) : ∀ x ∈ nts cs ss, okNt hs.length x := fun x hx => by
 rcases List.mem_append.1 hx with h | h
 ·obtain ⟨c, hc, rfl⟩ := List.mem_map.1 h; exact v.c c hc
 ·obtain ⟨c, hc, rfl⟩ := List.mem_map.1 h; exact v.s c hc
theorem nts_len (cs : List Cn) (ss : List Sg) : (nts cs ss).length = cs.length + ss.length := by simp [nts]
abbrev TruthO (hs : List Span) (ps : List Pr) (cs : List Cn) (ss : List Sg) : (Nat → Int) → Prop := Truth hs ps fun x => x ∈ nts cs ss
theorem Truth.congr {hs : List Span} {ps : List Pr} {K K' : Nt → Prop} (h : ∀ x, K x ↔ K' x) : Truth hs ps K = Truth hs ps K' := by
 have : K = K' := funext fun x => propext (h x)
 rw [this]
theorem f23_bad (N : Nat) (hs : List Span) (ps : List Pr) (cs : List Cn) (ss : List Sg) (hN : 100 ≤ N) (h1 : hs.length < 100) (h2 : ps.length < 100) (h3 : cs.length < 100) (h4 : ss.length < 100) (hc : chk hs ps cs ss ≠ 0) :
  f23 N hs ps cs ss = some ([], [], [], [], [], zero6, chk hs ps cs ss) := by
 unfold f23
 rw [f46_eq N hs ps cs ss hN h1 h2 h3 h4, andThen_some, if_pos (by simpa using hc)]
 rfl
theorem f23_eq (N : Nat) (hs : List Span) (ps : List Pr) (cs : List Cn) (ss : List Sg) (hN : 1000 ≤ N) (v : Valid hs ps cs ss) :
  ∃ m ok, f23 N hs ps cs ss = some (hs, ps, cs, ss, nts cs ss, m, if ok = true then 0 else 9) ∧ (ok = true ↔ ∃ t, TruthO hs ps cs ss t) ∧ (ok = true → Tight hs.length m (TruthO hs ps cs ss)) := by
 have n5 := v.n5
 have p8 := v.p8
 have c6 := v.c6
 have s4 := v.s4
 obtain ⟨m, ok, e1, e2, e3⟩ := gaps_spec N 0 hs ps cs ss (nts cs ss) [] hN v.n1 v.n5 v.h v.p (by omega) (nts_ok v) (by rw [nts_len]; omega) (fun x hx => by cases hx) (Nat.zero_le _)
 rw [Truth.congr (K' := fun x => x ∈ nts cs ss) fun x => by
  constructor
  ·rintro (⟨i, hi, _, rfl⟩ | h)
   ·exact nt_mem hi
   ·cases h
  ·intro h
   obtain ⟨i, hi, e⟩ := getD_of_mem (Sum.inl ((0 : Int), ((0 : Int), false))) h
   exact .inl ⟨i, hi, bitOff_zero i, e.symm⟩] at e2 e3
 refine ⟨m, ok, ?_, e2, e3⟩
 unfold f23
 rw [f46_eq N hs ps cs ss (by omega) (by omega) (by omega) (by omega) (by omega), andThen_some, chk_valid.2 v, if_neg (by decide), f47_eq N hs ps cs ss (by omega) (by omega) (by omega), andThen_some]
 simp only
 rw [e1, andThen_some]
 cases ok <;> rfl
def cz (n p : Nat) (v : Int) : Int := if p < n then v else 0
def hts (n : Nat) (m : List Int) : List Int := [cz n 0 (-ent m 0 5), cz n 0 (ent m 5 0), cz n 1 (-ent m 1 5), cz n 1 (ent m 5 1), cz n 2 (-ent m 2 5), cz n 2 (ent m 5 2), cz n 3 (-ent m 3 5), cz n 3 (ent m 5 3), cz n 4 (-ent m 4 5), cz n 4 (ent m 5 4)]
theorem hts_succ {m : List Int} {i : Nat} (hi : i < 5) : setRow (hts i m) (0 + i * 2) [-ent m i 5, ent m 5 i] = hts (i + 1) m := by
 have : i = 0 ∨ i = 1 ∨ i = 2 ∨ i = 3 ∨ i = 4 := by omega
 rcases this with rfl | rfl | rfl | rfl | rfl <;> rfl
theorem f28_eq (N : Nat) (hs : List Span) (ps : List Pr) (cs : List Cn) (ss : List Sg) (ns : List Nt) (m : List Int) (hN : 100 ≤ N) (hn : hs.length ≤ 5) (hb : ∀ p, p < hs.length → -10000 ≤ ent m p 5 ∧ ent m p 5 ≤ 10000) :
  f28 N hs ps cs ss ns m = some (hts hs.length m) := by
 obtain ⟨r, h1, h2⟩ := loop_run (fun q (i : Nat) => f28l0 N q (hs.length : Int) (i : Int) m (hts i m)) (fun i => i ≤ hs.length) (fun i => hs.length - i) (fun r => r = hts hs.length m) (fun q i hi => by
   by_cases h : i < hs.length
   ·right
    refine ⟨i + 1, h, by omega, ?_⟩
    show f28l0B N (f28l0 N q) (hs.length : Int) (i : Int) m (hts i m) = _
    unfold f28l0B
    have hb := hb i h
    have e : Go.IntKind.wrap .i64 (0 - List.getD m (0 + i * 6 + 5) 0) = -ent m i 5 := by
     have e2 : List.getD m (0 + i * 6 + 5) 0 = ent m i 5 := by unfold ent; rw [Nat.zero_add]
     rw [e2, w64_id (by omega) (by omega)]; omega
    have e3 : List.getD m (30 + i * 1) 0 = ent m 5 i := by unfold ent; rw [Nat.mul_one]
    simp only [show ((i : Int) < (hs.length : Int)) by omega, show ((i : Int) < 6) by omega, show ((i : Int) < 5) by omega, Int.natCast_nonneg, decide_true, Bool.and_true, if_true, Int.toNat_natCast, w_succ (show i < 4611686018427387904 by omega)]
    rw [e, e3, hts_succ (by omega)]
    rfl
   ·left
    have : i = hs.length := by omega
    subst this
    refine ⟨_, ?_, rfl⟩
    show f28l0B N (f28l0 N q) (hs.length : Int) (hs.length : Int) m (hts hs.length m) = _
    unfold f28l0B
    rw [if_neg (by simp)]) N 0 (Nat.zero_le _) (by simp; omega)
 rw [h2] at h1
 unfold f28
 have h1 : f28l0 N N (hs.length : Int) 0 m [0, 0, 0, 0, 0, 0, 0, 0, 0, 0] = some (hts hs.length m) := h1
 rw [h1]; rfl
def spn (n : Nat) (m : List Int) : List Span := (List.range n).map fun p => (-ent m p 5, ent m 5 p)
@[simp] theorem spn_len (n : Nat) (m : List Int) : (spn n m).length = n := by simp [spn]
theorem sp_spn {n p : Nat} {m : List Int} (hp : p < n) : sp (spn n m) p = (-ent m p 5, ent m 5 p) := by
 unfold sp spn
 rw [List.getD_eq_getElem?_getD]
 simp [hp]
theorem cut_hts {n : Nat} {m : List Int} (h1 : 1 ≤ n) (h5 : n ≤ 5) :
  cut [((hts n m).getD 0 0, (hts n m).getD 1 0), ((hts n m).getD 2 0, (hts n m).getD 3 0), ((hts n m).getD 4 0, (hts n m).getD 5 0), ((hts n m).getD 6 0, (hts n m).getD 7 0), ((hts n m).getD 8 0, (hts n m).getD 9 0)] 0 n = spn n m := by
 have : n = 1 ∨ n = 2 ∨ n = 3 ∨ n = 4 ∨ n = 5 := by omega
 rcases this with rfl | rfl | rfl | rfl | rfl <;> rfl
theorem tight_bd {n : Nat} {m : List Int} {hs : List Span} {ps : List Pr} {K : Nt → Prop} (h : Tight n m (Truth hs ps K)) (hn : hs.length = n) (hn5 : n ≤ 5) (hok : ∀ s ∈ hs, okSp s) : ∀ a b, (a < n ∨ a = 5) → (b < n ∨ b = 5) → -1000 ≤ ent m a b ∧ ent m a b ≤ 1000 := fun a b ha hb => by
 obtain ⟨t, ht, e⟩ := h.att a b ha hb
 have hz : ∀ x, (x < n ∨ x = 5) → 0 ≤ zt t x ∧ zt t x ≤ 1000 := fun x hx => by
  unfold zt
  by_cases h5 : x = 5
  ·rw [if_pos h5]; omega
  ·rw [if_neg h5]
   have h1 := ht.1 x (by omega)
   have h2 : okSp (sp hs x) := hok _ (getD_mem (by omega))
   obtain ⟨o1, o2, o3⟩ := h2
   omega
 have := hz a ha
 have := hz b hb
 omega
theorem f15_bad (N : Nat) (hs : List Span) (ps : List Pr) (cs : List Cn) (ss : List Sg) (hN : 100 ≤ N) (h1 : hs.length < 100) (h2 : ps.length < 100) (h3 : cs.length < 100) (h4 : ss.length < 100) (hc : chk hs ps cs ss ≠ 0) :
  f15 N hs ps cs ss = some ([], chk hs ps cs ss) := by
 unfold f15
 rw [f23_bad N hs ps cs ss hN h1 h2 h3 h4 hc, andThen_some]
 simp only
 rw [if_pos (by simpa using hc)]
theorem f15_no (N : Nat) (hs : List Span) (ps : List Pr) (cs : List Cn) (ss : List Sg) (hN : 1000 ≤ N) (v : Valid hs ps cs ss) (ht : ¬ ∃ t, TruthO hs ps cs ss t) : f15 N hs ps cs ss = some ([], 9) := by
 obtain ⟨m, ok, e1, e2, e3⟩ := f23_eq N hs ps cs ss hN v
 have : ok = false := by
  cases ok with
  | false => rfl
  | true => exact absurd (e2.1 rfl) ht
 subst this
 unfold f15
 rw [e1, andThen_some]
 rfl
theorem f15_yes (N : Nat) (hs : List Span) (ps : List Pr) (cs : List Cn) (ss : List Sg) (hN : 1000 ≤ N) (v : Valid hs ps cs ss) (ht : ∃ t, TruthO hs ps cs ss t) :
  ∃ m, f23 N hs ps cs ss = some (hs, ps, cs, ss, nts cs ss, m, 0) ∧ Tight hs.length m (TruthO hs ps cs ss) ∧ f28 N hs ps cs ss (nts cs ss) m = some (hts hs.length m) ∧ f15 N hs ps cs ss = some (spn hs.length m, 0) := by
 obtain ⟨m, ok, e1, e2, e3⟩ := f23_eq N hs ps cs ss hN v
 have := e2.2 ht
 subst this
 have ht := e3 rfl
 have n1 := v.n1
 have n5 := v.n5
 have e4 := f28_eq N hs ps cs ss (nts cs ss) m (by omega) n5 fun p hp => by have := tight_bd ht rfl n5 v.h p 5 (.inl hp) (.inr rfl); omega
 refine ⟨m, e1, ht, e4, ?_⟩
 unfold f15
 rw [e1, andThen_some]
 simp only
 rw [if_neg (by decide), e4, andThen_some]
 simp only [Int.natCast_nonneg, show ((hs.length : Int) ≤ 5) by omega, Int.le_refl, decide_true, Bool.and_true, if_true, Int.toNat_natCast, show Int.toNat (0 : Int) = 0 from rfl]
 rw [cut_hts n1 n5]
 unfold f32
 rw [if_neg (by simp), if_pos (by simp [boundLen]; omega), andThen_some]
 rfl
theorem f16_bad (N : Nat) (hs : List Span) (ps : List Pr) (cs : List Cn) (ss : List Sg) (a b : Int) (hN : 100 ≤ N) (h1 : hs.length < 100) (h2 : ps.length < 100) (h3 : cs.length < 100) (h4 : ss.length < 100) (hc : chk hs ps cs ss ≠ 0) :
  f16 N hs ps cs ss a b = some (0, 0, chk hs ps cs ss) := by
 unfold f16
 rw [f23_bad N hs ps cs ss hN h1 h2 h3 h4 hc, andThen_some]
 simp only
 rw [if_pos (by simpa using hc)]
theorem f16_no (N : Nat) (hs : List Span) (ps : List Pr) (cs : List Cn) (ss : List Sg) (a b : Int) (hN : 1000 ≤ N) (v : Valid hs ps cs ss) (ht : ¬ ∃ t, TruthO hs ps cs ss t) : f16 N hs ps cs ss a b = some (0, 0, 9) := by
 obtain ⟨m, ok, e1, e2, e3⟩ := f23_eq N hs ps cs ss hN v
 have : ok = false := by
  cases ok with
  | false => rfl
  | true => exact absurd (e2.1 rfl) ht
 subst this
 unfold f16
 rw [e1, andThen_some]
 rfl
theorem f16_yes (N : Nat) (hs : List Span) (ps : List Pr) (cs : List Cn) (ss : List Sg) (a b : Int) (hN : 1000 ≤ N) (v : Valid hs ps cs ss) {m : List Int} (hm : f23 N hs ps cs ss = some (hs, ps, cs, ss, nts cs ss, m, 0)) (ht : Tight hs.length m (TruthO hs ps cs ss)) :
  f16 N hs ps cs ss a b = some (if 0 ≤ a ∧ a < hs.length ∧ 0 ≤ b ∧ b < hs.length then (-ent m a.toNat b.toNat, ent m b.toNat a.toNat, 0) else (0, 0, 7)) := by
 have n1 := v.n1
 have n5 := v.n5
 unfold f16
 rw [hm, andThen_some]
 simp only
 rw [if_neg (by decide), w64_id (by omega) (by omega), f25_eq N _ _ _ (by simp; omega) (by simp), andThen_some]
 by_cases h : 0 ≤ a ∧ a < hs.length ∧ 0 ≤ b ∧ b < hs.length
 ·obtain ⟨h1, h2, h3, h4⟩ := h
  rw [if_neg (by simp [inB]; omega), if_pos (show 0 ≤ a ∧ a < (hs.length : Int) ∧ 0 ≤ b ∧ b < (hs.length : Int) from ⟨h1, h2, h3, h4⟩)]
  have := tight_bd ht rfl n5 v.h a.toNat b.toNat (.inl (by omega)) (.inl (by omega))
  simp only [h1, h3, show a < 6 by omega, show b < 6 by omega, decide_true, Bool.and_true, if_true, Nat.zero_add, Nat.mul_one]
  have e : Go.IntKind.wrap .i64 (0 - List.getD m (a.toNat * 6 + b.toNat) 0) = -ent m a.toNat b.toNat := by
   have e2 : List.getD m (a.toNat * 6 + b.toNat) 0 = ent m a.toNat b.toNat := rfl
   rw [e2, w64_id (by omega) (by omega)]; omega
  rw [e]
  rfl
 ·rw [if_pos (by simp [inB]; omega), if_neg h]
end Go.Pl


namespace Go.Pl
open Go.Al Go.Proofs
def heatF (p : Pt) : Int × Int := p.1
def stretF (p : Pt) : Int × Int := p.2.1
def Sure (f : Pt → Int × Int) (ps : List Pt) (a b more : Int) : Prop := 0 ≤ a ∧ a < ps.length ∧ 0 ≤ b ∧ b < ps.length ∧ (f (pn ps a.toNat)).2 ≤ (f (pn ps b.toNat)).1 + more
theorem f41_ok (N : Nat) (ps : List Pt) (near give : Int) (e : List (Int × Int)) (a b more : Int) (hp : ∀ p ∈ ps, okPt p) (hm : -1000 ≤ more) (hm' : more ≤ 1000) (h : Sure heatF ps a b more) : f41 N ps near give e a b more = some true := by
 obtain ⟨h1, h2, h3, h4, h5⟩ := h
 have hb : okPt (pn ps b.toNat) := hp _ (getD_mem (by omega))
 unfold f41 f42
 simp only [andThen_some]
 rw [if_pos (dd h1 h2), if_pos (dd h3 h4)]
 unfold okPt at hb
 unfold heatF pn p0 at h5
 unfold pn p0 at hb
 rw [w64_id (by omega) (by omega), d1 h5]
theorem f41a_ok (N : Nat) (ps : List Pt) (near give : Int) (e : List (Int × Int)) (a b more : Int) (hp : ∀ p ∈ ps, okPt p) (hm : -1000 ≤ more) (hm' : more ≤ 1000) (h : Sure stretF ps a b more) : f41a N ps near give e a b more = some true := by
 obtain ⟨h1, h2, h3, h4, h5⟩ := h
 have hb : okPt (pn ps b.toNat) := hp _ (getD_mem (by omega))
 unfold f41a f44
 simp only [andThen_some]
 rw [if_pos (dd h1 h2), if_pos (dd h3 h4)]
 unfold okPt at hb
 unfold stretF pn p0 at h5
 unfold pn p0 at hb
 rw [w64_id (by omega) (by omega), d1 h5]
theorem y0_ok (N : Nat) (ps : List Pt) (near give : Int) (e : List (Int × Int)) (a b more : Int) (t : Bool) (hp : ∀ p ∈ ps, okPt p) (hm : -1000 ≤ more) (hm' : more ≤ 1000) (h : Sure heatF ps a b more) : y0 N a b more 0 ps near give e t = some (true, 0, ps, near, give, e, t) := by
 unfold y0
 rw [if_pos (by decide), if_pos (by decide), f41_ok N ps near give e a b more hp hm hm' h, andThen_some, if_neg (by decide)]
theorem y1_ok (N : Nat) (ps : List Pt) (near give : Int) (e : List (Int × Int)) (a b more : Int) (t : Bool) (hp : ∀ p ∈ ps, okPt p) (hm : -1000 ≤ more) (hm' : more ≤ 1000) (h : Sure stretF ps a b more) : y1 N a b more 0 ps near give e t = some (true, 0, ps, near, give, e, t) := by
 unfold y1
 rw [if_pos (by decide), if_pos (by decide), f41a_ok N ps near give e a b more hp hm hm' h, andThen_some, if_neg (by decide)]
section
variable (N : Nat) (ps : List Pt) (near give : Int) (e : List (Int × Int)) (t : Bool) (hp : ∀ p ∈ ps, okPt p) (hn0 : 0 ≤ near) (hn : near ≤ 100) (hg0 : 0 ≤ give) (hg : give ≤ 100) (hN : 100 ≤ N)
include hp hn0 hn hN
theorem f67l3_ok (x0 : Int) (x1 : List Int) (x2 : Int) (x3 : List Int) (x4 : Int) (x5 : List (List Int)) (x6 x7 : Int) (x8 : List (List Int)) (x9 x10 : Int) (x11 : List Int) (x12 x13 : Int) (bf : List Int) (x18 : List (List Int)) (hl : bf.length ≤ 50)
  (h : ∀ j, j < bf.length → x4 ≠ bf.getD j 0 → Sure heatF ps x4 (bf.getD j 0) (if x2 = x0 then near else -1)) :
  f67l3 N N x0 x1 x2 x3 x4 x5 x6 x7 x8 x9 x10 x11 x12 x13 bf (bf.length : Int) 0 0 x18 ps near give e ps near give e t = some (.inr (x0, x1, x2, x3, x5, x6, x7, x8, x9, x10, x11, x12, x13, 0, x18, ps, near, give, e, ps, near, give, e, t)) := by
 exact loop_all (fun q i => f67l3 N q x0 x1 x2 x3 x4 x5 x6 x7 x8 x9 x10 x11 x12 x13 bf (bf.length : Int) (i : Int) 0 x18 ps near give e ps near give e t) bf.length _ (fun q i hi => by
  show f67l3B N (f67l3 N q) x0 x1 x2 x3 x4 x5 x6 x7 x8 x9 x10 x11 x12 x13 bf (bf.length : Int) (i : Int) 0 x18 ps near give e ps near give e t = _
  have hs := h i hi
  unfold f67l3B
  simp only [Int.toNat_natCast]
  rw [if_pos (d1 (by omega)), if_pos (dd (by omega) (by omega)), w_succ (by omega)]
  by_cases hx : x2 = x0
  ·rw [if_pos (by simpa using hx)]
   rw [if_pos hx] at hs
   by_cases hb : x4 = bf.getD i 0
   ·rw [if_neg (by rw [bne_iff_ne]; simpa using hb)]
   ·rw [if_pos (by rw [bne_iff_ne]; exact hb), y0_ok N ps near give e _ _ _ t hp (by omega) (by omega) (hs hb), andThen_some]
    rfl
  ·rw [if_neg (by simpa using hx)]
   rw [if_neg hx] at hs
   by_cases hb : x4 = bf.getD i 0
   ·rw [if_neg (by rw [bne_iff_ne]; simpa using hb)]
   ·rw [if_pos (by rw [bne_iff_ne]; exact hb), y0_ok N ps near give e _ _ _ t hp (by omega) (by omega) (hs hb), andThen_some]
    rfl) (fun q => by
  show f67l3B N (f67l3 N q) x0 x1 x2 x3 x4 x5 x6 x7 x8 x9 x10 x11 x12 x13 bf (bf.length : Int) (bf.length : Int) 0 x18 ps near give e ps near give e t = _
  unfold f67l3B
  rw [if_neg (dn (by omega))]) N (by omega)
theorem f67l2_ok (x0 : Int) (x1 : List Int) (x2 : Int) (bf : List Int) (x4 : List (List Int)) (x5 x6 : Int) (x7 : List (List Int)) (x8 x9 : Int) (rd : List Int) (x14 : List (List Int)) (hl : rd.length ≤ 50) (hl' : bf.length ≤ 50)
  (h : ∀ i, i < rd.length → ∀ j, j < bf.length → rd.getD i 0 ≠ bf.getD j 0 → Sure heatF ps (rd.getD i 0) (bf.getD j 0) (if x2 = x0 then near else -1)) :
  f67l2 N N x0 x1 x2 bf x4 x5 x6 x7 x8 x9 rd (rd.length : Int) 0 0 x14 ps near give e ps near give e t = some (.inr (x0, x1, x4, x5, x6, x7, x8, x9, 0, x14, ps, near, give, e, ps, near, give, e, t)) := by
 exact loop_all (fun q i => f67l2 N q x0 x1 x2 bf x4 x5 x6 x7 x8 x9 rd (rd.length : Int) (i : Int) 0 x14 ps near give e ps near give e t) rd.length _ (fun q i hi => by
  show f67l2B N (f67l2 N q) x0 x1 x2 bf x4 x5 x6 x7 x8 x9 rd (rd.length : Int) (i : Int) 0 x14 ps near give e ps near give e t = _
  unfold f67l2B
  simp only [Int.toNat_natCast]
  rw [if_pos (d1 (by omega)), if_pos (dd (by omega) (by omega)), f67l3_ok N ps near give e t hp hn0 hn hN _ _ _ _ _ _ _ _ _ _ _ _ _ _ bf _ hl' (h i hi), andThen_some, either_inr]
  simp only
  rw [w_succ (by omega)]) (fun q => by
  show f67l2B N (f67l2 N q) x0 x1 x2 bf x4 x5 x6 x7 x8 x9 rd (rd.length : Int) (rd.length : Int) 0 x14 ps near give e ps near give e t = _
  unfold f67l2B
  rw [if_neg (dn (by omega))]) N (by omega)
theorem f67l1_ok (r : Nat) (rd : List Int) (x2 : List (List Int)) (x3 x4 : Int) (bfs : List (List Int)) (x9 : List (List Int)) (hl : bfs.length ≤ 50) (hl1 : rd.length ≤ 50) (hl2 : ∀ b ∈ bfs, b.length ≤ 50)
  (h : ∀ k, k < bfs.length → ∀ i, i < rd.length → ∀ j, j < (bfs.getD k []).length → rd.getD i 0 ≠ (bfs.getD k []).getD j 0 → Sure heatF ps (rd.getD i 0) ((bfs.getD k []).getD j 0) (if k = r then near else -1)) :
  f67l1 N N (r : Int) rd x2 x3 x4 bfs (bfs.length : Int) 0 0 x9 ps near give e ps near give e t = some (.inr (x2, x3, x4, 0, x9, ps, near, give, e, ps, near, give, e, t)) := by
 exact loop_all (fun q i => f67l1 N q (r : Int) rd x2 x3 x4 bfs (bfs.length : Int) (i : Int) 0 x9 ps near give e ps near give e t) bfs.length _ (fun q i hi => by
  show f67l1B N (f67l1 N q) (r : Int) rd x2 x3 x4 bfs (bfs.length : Int) (i : Int) 0 x9 ps near give e ps near give e t = _
  unfold f67l1B
  simp only [Int.toNat_natCast]
  have e1 : ((i : Int) = (r : Int)) = (i = r) := propext ⟨fun h => by omega, fun h => by omega⟩
  rw [if_pos (d1 (by omega)), if_pos (dd (by omega) (by omega)), f67l2_ok N ps near give e t hp hn0 hn hN _ _ _ _ _ _ _ _ _ _ rd _ hl1 (hl2 _ (getD_mem hi)) (by simp only [e1]; exact h i hi), andThen_some, either_inr]
  simp only
  rw [w_succ (by omega)]) (fun q => by
  show f67l1B N (f67l1 N q) (r : Int) rd x2 x3 x4 bfs (bfs.length : Int) (bfs.length : Int) 0 x9 ps near give e ps near give e t = _
  unfold f67l1B
  rw [if_neg (dn (by omega))]) N (by omega)
def TiesH (ps : List Pt) (near : Int) (pl : List (List Int)) : Prop := ∀ r, r < pl.length → ∀ k, k ≤ r → ∀ i, i < (pl.getD r []).length → ∀ j, j < (pl.getD k []).length → (pl.getD r []).getD i 0 ≠ (pl.getD k []).getD j 0 →
 Sure heatF ps ((pl.getD r []).getD i 0) ((pl.getD k []).getD j 0) (if k = r then near else -1)
omit hp hn0 hn hN in
theorem getD_cut0 {α : Type} (l : List α) (d : α) {n k : Nat} (h : k < n) : (cut l 0 n).getD k d = l.getD k d := by
 unfold cut
 simp only [List.drop_zero, Nat.sub_zero, List.getD_eq_getElem?_getD]
 rw [List.getElem?_take_of_lt h]
theorem f67_ok (pl : List (List Int)) (hl : pl.length ≤ 50) (hl1 : ∀ r ∈ pl, r.length ≤ 50) (h : TiesH ps near pl) :
  f67 N 0 pl ps near give e ps near give e t = some (0, pl, ps, near, give, e, ps, near, give, e, t) := by
 unfold f67
 have hL := loop_all (fun q i => f67l0 N q pl (pl.length : Int) (i : Int) 0 pl ps near give e ps near give e t) pl.length (.inr (0, pl, ps, near, give, e, ps, near, give, e, t)) (fun q i hi => by
  show f67l0B N (f67l0 N q) pl (pl.length : Int) (i : Int) 0 pl ps near give e ps near give e t = _
  unfold f67l0B
  rw [w_succ (by omega)]
  simp only [Int.toNat_natCast, show Int.toNat 0 = 0 from rfl]
  have hlen : (cut pl 0 (i + 1)).length = i + 1 := by unfold cut; simp; omega
  rw [if_pos (d1 (by omega)), if_pos (dd (by omega) (by omega)), if_pos (by simp; omega), f67l1_ok N ps near give e t hp hn0 hn hN i _ _ _ _ (cut pl 0 (i + 1)) _ (by omega) (hl1 _ (getD_mem hi)) (fun b hb => hl1 b (by
   unfold cut at hb
   exact List.mem_of_mem_take hb)) (fun k hk a ha j hj hne => by
   rw [hlen] at hk
   rw [getD_cut0 pl [] hk] at hj hne ⊢
   exact h i hi k (by omega) a ha j hj hne), andThen_some, either_inr]
  simp only
  rw [w_succ (by omega)]) (fun q => by
  show f67l0B N (f67l0 N q) pl (pl.length : Int) (pl.length : Int) 0 pl ps near give e ps near give e t = _
  unfold f67l0B
  rw [if_neg (dn (by omega))]) N (by omega)
 have hL : f67l0 N N pl (pl.length : Int) 0 0 pl ps near give e ps near give e t = some (.inr (0, pl, ps, near, give, e, ps, near, give, e, t)) := hL
 rw [hL]; rfl
omit hn0 hn
include hg0 hg
theorem f68l2_ok (r : Nat) (a : Int) (x2 x3 : Int) (x4 : List Int) (x5 x6 : Int) (nx : List Int) (x11 : List (List Int)) (hl : nx.length ≤ 50)
  (h : ∀ j, j < nx.length → Sure stretF ps a (nx.getD j 0) give ∧ Sure stretF ps (nx.getD j 0) a give) :
  f68l2 N N (r : Int) a x2 x3 x4 x5 x6 nx (nx.length : Int) 0 0 x11 ps near give e ps near give e t = some (.inr ((r : Int), x2, x3, x4, x5, x6, 0, x11, ps, near, give, e, ps, near, give, e, t)) := by
 exact loop_all (fun q i => f68l2 N q (r : Int) a x2 x3 x4 x5 x6 nx (nx.length : Int) (i : Int) 0 x11 ps near give e ps near give e t) nx.length _ (fun q i hi => by
  show f68l2B N (f68l2 N q) (r : Int) a x2 x3 x4 x5 x6 nx (nx.length : Int) (i : Int) 0 x11 ps near give e ps near give e t = _
  obtain ⟨s1, s2⟩ := h i hi
  unfold f68l2B
  simp only [Int.toNat_natCast]
  rw [if_pos (d1 (by omega)), if_pos (dd (by omega) (by omega)), y1_ok N ps near give e _ _ _ t hp (by omega) (by omega) s1, andThen_some]
  simp only
  rw [if_pos (by decide), y1_ok N ps near give e _ _ _ t hp (by omega) (by omega) s2, andThen_some]
  simp only
  rw [if_neg (by decide), w_succ (by omega)]) (fun q => by
  show f68l2B N (f68l2 N q) (r : Int) a x2 x3 x4 x5 x6 nx (nx.length : Int) (nx.length : Int) 0 x11 ps near give e ps near give e t = _
  unfold f68l2B
  rw [if_neg (dn (by omega))]) N (by omega)
def TiesS (ps : List Pt) (give : Int) (pl : List (List Int)) : Prop := ∀ r, r + 1 < pl.length → ∀ i, i < (pl.getD r []).length → ∀ j, j < (pl.getD (r + 1) []).length →
 Sure stretF ps ((pl.getD r []).getD i 0) ((pl.getD (r + 1) []).getD j 0) give ∧ Sure stretF ps ((pl.getD (r + 1) []).getD j 0) ((pl.getD r []).getD i 0) give
theorem f68_ok (pl : List (List Int)) (hl : pl.length ≤ 50) (hl1 : ∀ r ∈ pl, r.length ≤ 50) (h : TiesS ps give pl) :
  f68 N 0 pl ps near give e ps near give e t = some (0, pl, ps, near, give, e, ps, near, give, e, t) := by
 have hlen : (cut pl (if (pl.length : Int) < 1 then (pl.length : Int) else 1).toNat (pl.length : Int).toNat).length = pl.length - 1 := by
  unfold cut
  rw [List.length_take, List.length_drop, Int.toNat_natCast]
  split <;> omega
 have hmid : ∀ r, r + 1 < pl.length → f68l1 N N (r : Int) ((pl.length - 1 : Nat) : Int) (r : Int) (pl.getD r []) ((pl.getD r []).length : Int) 0 0 pl ps near give e ps near give e t = some (.inr (((pl.length - 1 : Nat) : Int), (r : Int), 0, pl, ps, near, give, e, ps, near, give, e, t)) := fun r hr =>
  loop_all (fun q i => f68l1 N q (r : Int) ((pl.length - 1 : Nat) : Int) (r : Int) (pl.getD r []) ((pl.getD r []).length : Int) (i : Int) 0 pl ps near give e ps near give e t) (pl.getD r []).length _ (fun q i hi => by
   show f68l1B N (f68l1 N q) (r : Int) ((pl.length - 1 : Nat) : Int) (r : Int) (pl.getD r []) ((pl.getD r []).length : Int) (i : Int) 0 pl ps near give e ps near give e t = _
   have hle := hl1 _ (getD_mem (d := []) (show r < pl.length by omega))
   unfold f68l1B
   rw [w_succ (by omega)]
   simp only [Int.toNat_natCast]
   rw [if_pos (d1 (by omega)), if_pos (dd (by omega) (by omega)), if_pos (dd (by omega) (by omega)), f68l2_ok N ps near give e t hp hg0 hg hN r _ _ _ _ _ _ (pl.getD (r + 1) []) _ (hl1 _ (getD_mem hr)) (h r hr i hi), andThen_some, either_inr]
   simp only
   rw [w_succ (by omega)]) (fun q => by
   show f68l1B N (f68l1 N q) (r : Int) ((pl.length - 1 : Nat) : Int) (r : Int) (pl.getD r []) ((pl.getD r []).length : Int) ((pl.getD r []).length : Int) 0 pl ps near give e ps near give e t = _
   unfold f68l1B
   rw [if_neg (dn (by omega))]) N (by have := hl1 _ (getD_mem (d := []) (show r < pl.length by omega)); omega)
 unfold f68
 have hL := loop_all (fun q i => f68l0 N q ((pl.length - 1 : Nat) : Int) (i : Int) 0 pl ps near give e ps near give e t) (pl.length - 1) (.inr (0, pl, ps, near, give, e, ps, near, give, e, t)) (fun q i hi => by
  show f68l0B N (f68l0 N q) ((pl.length - 1 : Nat) : Int) (i : Int) 0 pl ps near give e ps near give e t = _
  unfold f68l0B
  simp only [Int.toNat_natCast]
  rw [if_pos (d1 (by omega)), if_pos (dd (by omega) (by omega)), hmid i (by omega), andThen_some, either_inr]
  simp only
  rw [w_succ (by omega)]) (fun q => by
  show f68l0B N (f68l0 N q) ((pl.length - 1 : Nat) : Int) ((pl.length - 1 : Nat) : Int) 0 pl ps near give e ps near give e t = _
  unfold f68l0B
  rw [if_neg (dn (by omega))]) N (by omega)
 have hL : f68l0 N N ((pl.length - 1 : Nat) : Int) 0 0 pl ps near give e ps near give e t = some (.inr (0, pl, ps, near, give, e, ps, near, give, e, t)) := hL
 rw [hlen, if_pos (by split <;> simp <;> omega), hL]; rfl
end
end Go.Pl


namespace Go.Pl
open Go.Al Go.Proofs
theorem f90_ok (N : Nat) (ps : List Pt) (near give : Int) (e : List (Int × Int)) (rd : List Int) (hN : 100 ≤ N) (hp : ∀ p ∈ ps, okPt p) (hl : rd.length ≤ 50) (hr : ∀ c ∈ rd, 0 ≤ c ∧ c < ps.length) :
  ∃ v, f90 N ps near give e rd = some v ∧ 0 ≤ v ∧ v ≤ 3 := by
 obtain ⟨v, h1, h2⟩ := loop_run (fun q (s : Nat × Int) => f90l0 N q s.2 rd (rd.length : Int) (s.1 : Int) ps near give e) (fun s => s.1 ≤ rd.length ∧ 0 ≤ s.2 ∧ s.2 ≤ 3) (fun s => rd.length - s.1) (fun v => 0 ≤ v ∧ v ≤ 3) (fun q s hs => by
  obtain ⟨i, v⟩ := s
  obtain ⟨hi, hv0, hv3⟩ := hs
  by_cases hlt : i < rd.length
  ·right
   have hc := hr _ (getD_mem (d := 0) hlt)
   have hpt : okPt (pn ps (rd.getD i 0).toNat) := hp _ (getD_mem (by omega))
   unfold okPt at hpt
   refine ⟨(i + 1, if (pn ps (rd.getD i 0).toNat).2.2.1 > v then (pn ps (rd.getD i 0).toNat).2.2.1 else v), ⟨hlt, ?_⟩, by simp only; omega, ?_⟩
   ·simp only; split <;> omega
   ·show f90l0B N (f90l0 N q) v rd (rd.length : Int) (i : Int) ps near give e = f90l0 N q _ rd (rd.length : Int) ((i + 1 : Nat) : Int) ps near give e
    unfold f90l0B
    simp only [Int.toNat_natCast]
    rw [if_pos (d1 (by omega)), if_pos (dd (by omega) (by omega)), if_pos (dd (by omega) (by omega)), w_succ (by omega)]
    rfl
  ·left
   have : i = rd.length := by omega
   subst this
   refine ⟨v, ?_, hv0, hv3⟩
   show f90l0B N (f90l0 N q) v rd (rd.length : Int) (rd.length : Int) ps near give e = _
   unfold f90l0B
   rw [if_neg (dn (by omega))]) N (0, 0) ⟨Nat.zero_le _, by simp, by simp⟩ (by simp only; omega)
 have h1 : f90l0 N N 0 rd (rd.length : Int) 0 ps near give e = some v := h1
 exact ⟨v, by unfold f90; rw [h1]; rfl, h2⟩
def eachOk (n : Nat) (l : List Int) (B : Int) : Prop := l.length = n ∧ ∀ c, c < n → l.getD c 0 ≤ B
theorem y2_ok (N : Nat) (ps : List Pt) (near give : Int) (e : List (Int × Int)) (x0 : Int) (rd each : List Int) (all : Int) (hN : 100 ≤ N) (hp : ∀ p ∈ ps, okPt p) (hl : rd.length ≤ 50) (hr : ∀ c ∈ rd, 0 ≤ c ∧ c < ps.length)
  (he : eachOk ps.length each all) (ha0 : 0 ≤ all) (ha : all ≤ 1000) :
  ∃ each' all', y2 N x0 rd 0 ps near give e each all = some (true, 0, ps, near, give, e, each', all') ∧ eachOk ps.length each' all' ∧ all ≤ all' ∧ all' ≤ all + 3 := by
 obtain ⟨v, h1, hv0, hv3⟩ := f90_ok N ps near give e rd hN hp hl hr
 obtain ⟨res, h2, each', rfl, h3⟩ := loop_run (fun q (s : Nat × List Int) => y2l0 N q rd (rd.length : Int) (s.1 : Int) (-1) ps near give e s.2 (all + v)) (fun s => s.1 ≤ rd.length ∧ eachOk ps.length s.2 (all + v)) (fun s => rd.length - s.1)
  (fun res => ∃ each', res = ((-1 : Int), ps, near, give, e, each', all + v) ∧ eachOk ps.length each' (all + v)) (fun q s hs => by
   obtain ⟨i, l⟩ := s
   obtain ⟨hi, hl1, hl2⟩ := hs
   by_cases hlt : i < rd.length
   ·right
    have hc := hr _ (getD_mem (d := 0) hlt)
    refine ⟨(i + 1, l.set (rd.getD i 0).toNat (all + v)), ⟨hlt, by simpa using hl1, fun c hcn => ?_⟩, by simp only; omega, ?_⟩
    ·simp only
     rw [getD_set]
     split
     ·omega
     ·exact hl2 c hcn
    ·show y2l0B N (y2l0 N q) rd (rd.length : Int) (i : Int) (-1) ps near give e l (all + v) = y2l0 N q rd (rd.length : Int) ((i + 1 : Nat) : Int) (-1) ps near give e _ (all + v)
     have hl1 : l.length = ps.length := hl1
     unfold y2l0B
     simp only [Int.toNat_natCast]
     rw [if_pos (d1 (by omega)), if_pos (dd (by omega) (by omega)), if_pos (dd (by omega) (by omega)), w_succ (by omega)]
   ·left
    have : i = rd.length := by omega
    subst this
    refine ⟨_, ?_, l, rfl, hl1, hl2⟩
    show y2l0B N (y2l0 N q) rd (rd.length : Int) (rd.length : Int) (-1) ps near give e l (all + v) = _
    unfold y2l0B
    rw [if_neg (dn (by omega))]) N (0, each) ⟨Nat.zero_le _, he.1, fun c hc => by have := he.2 c hc; simp only; omega⟩ (by simp only; omega)
 have h2 : y2l0 N N rd (rd.length : Int) 0 (-1) ps near give e each (all + v) = some ((-1 : Int), ps, near, give, e, each', all + v) := h2
 refine ⟨each', all + v, ?_, h3, by omega, by omega⟩
 unfold y2
 rw [if_pos (by decide), if_pos (by decide), h1, andThen_some, w64_id (by omega) (by omega), h2, andThen_some]
theorem f69_ok (N : Nat) (ps : List Pt) (near give : Int) (e : List (Int × Int)) (pl : List (List Int)) (hN : 100 ≤ N) (hp : ∀ p ∈ ps, okPt p) (hps : ps.length ≤ 5) (hl : pl.length ≤ 50) (hr : ∀ r ∈ pl, r.length ≤ 50 ∧ ∀ c ∈ r, 0 ≤ c ∧ c < ps.length) :
  ∃ each all, f69 N ps near give e pl = some (each, all) ∧ eachOk ps.length each (3 * pl.length) := by
 obtain ⟨res, h1, each, all, rfl, h2, h3⟩ := loop_run (fun q (s : Nat × List Int × Int) => f99l0 N q ((s.1 : Int) - 1) 0 pl ps near give e s.2.1 s.2.2) (fun s => s.1 ≤ pl.length ∧ eachOk ps.length s.2.1 s.2.2 ∧ 0 ≤ s.2.2 ∧ s.2.2 ≤ 3 * ((pl.length : Int) - s.1)) (fun s => s.1)
  (fun res => ∃ each all, res = .inr ((0 : Int), pl, ps, near, give, e, each, all) ∧ eachOk ps.length each all ∧ all ≤ 3 * (pl.length : Int)) (fun q s hs => by
   obtain ⟨k, l, a⟩ := s
   obtain ⟨hk, hl1, ha0, ha⟩ := hs
   simp only at hk hl1 ha0 ha
   cases k with
   | zero =>
    left
    refine ⟨_, ?_, l, a, rfl, hl1, by omega⟩
    show f99l0B N (f99l0 N q) (((0 : Nat) : Int) - 1) 0 pl ps near give e l a = _
    unfold f99l0B
    rw [if_neg (dn (by omega))]
   | succ k =>
    right
    have hm := hr _ (getD_mem (d := []) (show k < pl.length by omega))
    obtain ⟨each', all', e1, e2, e3, e4⟩ := y2_ok N ps near give e (k : Int) (pl.getD k []) l a hN hp hm.1 hm.2 hl1 ha0 (by omega)
    refine ⟨(k, each', all'), ⟨by simp only; omega, e2, by simp only; omega, by simp only; omega⟩, by simp only; omega, ?_⟩
    show f99l0B N (f99l0 N q) (((k + 1 : Nat) : Int) - 1) 0 pl ps near give e l a = f99l0 N q ((k : Int) - 1) 0 pl ps near give e each' all'
    have hk1 : ((k + 1 : Nat) : Int) - 1 = (k : Int) := by omega
    unfold f99l0B
    rw [hk1]
    simp only [Int.toNat_natCast]
    rw [if_pos (d1 (by omega)), if_pos (dd (by omega) (by omega)), e1, andThen_some]
    simp only
    rw [if_neg (by decide), w64_id (by omega) (by omega)]) N (pl.length, List.replicate ps.length 0, 0) ⟨Nat.le_refl _, ⟨by simp, fun c hc => by simp [List.getD_eq_getElem?_getD, List.getElem?_replicate, hc]⟩, by simp, by simp⟩ (by simp only; omega)
 refine ⟨each, all, ?_, h2.1, fun c hc => Int.le_trans (h2.2 c hc) h3⟩
 have hb : ((boundLen : Nat) : Int) = 4294967296 := rfl
 have h1 : f99l0 N N ((pl.length : Int) - 1) 0 pl ps near give e (List.replicate ps.length 0) 0 = some (.inr ((0 : Int), pl, ps, near, give, e, each, all)) := h1
 unfold f69 f89 f99
 rw [if_pos (by rw [hb]; simp; omega), andThen_some, w64_id (by omega) (by omega), Int.toNat_natCast, h1]
 rfl
theorem f70_nil (N : Nat) (ps : List Pt) (near give : Int) (pl : List (List Int)) (c : Int) (hN : 100 ≤ N) : f70 N ps near give [] pl c = some false := by
 unfold f70 f64a f88a
 obtain ⟨M, rfl⟩ : ∃ M, N = M + 1 := ⟨N - 1, by omega⟩
 rw [show f88al0 (M + 1) (M + 1) [] (([] : List (Int × Int)).length : Int) 0 c pl = f88al0B (M + 1) (f88al0 (M + 1) M) [] (([] : List (Int × Int)).length : Int) 0 c pl from rfl]
 unfold f88al0B
 rw [if_neg (by simp)]
 rfl
theorem f45_ok (N : Nat) (ps : List Pt) (near give : Int) (pl : List (List Int)) (hN : 100 ≤ N) (hp : ∀ p ∈ ps, okPt p) (hps : ps.length ≤ 5) (hl : pl.length ≤ 50) (hr : ∀ r ∈ pl, r.length ≤ 50 ∧ ∀ c ∈ r, 0 ≤ c ∧ c < ps.length)
  (hm : ∀ p ∈ ps, 3 * (pl.length : Int) ≤ p.2.2.2) : f45 N ps near give [] pl = some true := by
 obtain ⟨each, all, h1, h2, h3⟩ := f69_ok N ps near give [] pl hN hp hps hl hr
 unfold f45
 rw [h1, andThen_some]
 simp only
 have hL := loop_all (fun q i => f45l0 N q pl each (each.length : Int) (i : Int) ps near give []) each.length (.inr (pl, ps, near, give, [])) (fun q i hi => by
  show f45l0B N (f45l0 N q) pl each (each.length : Int) (i : Int) ps near give [] = _
  have hi' : i < ps.length := by omega
  have e1 := h3 i hi'
  have e2 := hm _ (getD_mem (d := p0) hi')
  unfold f45l0B
  simp only [Int.toNat_natCast]
  unfold p0 at e2
  rw [if_pos (d1 (by omega)), if_pos (dd (by omega) (by omega)), if_pos (dd (by omega) (by omega)), if_neg (dn (by omega)), w_succ (by omega)]) (fun q => by
  show f45l0B N (f45l0 N q) pl each (each.length : Int) (each.length : Int) ps near give [] = _
  unfold f45l0B
  rw [if_neg (dn (by omega))]) N (by omega)
 have hL : f45l0 N N pl each (each.length : Int) 0 ps near give [] = some (.inr (pl, ps, near, give, [])) := hL
 rw [hL, andThen_some, either_inr]
 simp only
 have hin : ∀ r, r < pl.length → f45l2 N N pl (r : Int) pl (pl.length : Int) (r : Int) (pl.getD r []) ((pl.getD r []).length : Int) 0 ps near give [] = some (.inr (pl, pl, (pl.length : Int), (r : Int), ps, near, give, [])) := fun r hrl =>
  loop_all (fun q i => f45l2 N q pl (r : Int) pl (pl.length : Int) (r : Int) (pl.getD r []) ((pl.getD r []).length : Int) (i : Int) ps near give []) (pl.getD r []).length _ (fun q i hi => by
   have hle := (hr _ (getD_mem (d := []) hrl)).1
   show f45l2B N (f45l2 N q) pl (r : Int) pl (pl.length : Int) (r : Int) (pl.getD r []) ((pl.getD r []).length : Int) (i : Int) ps near give [] = _
   unfold f45l2B
   rw [if_pos (d1 (by omega)), if_pos (dd (by omega) (by omega)), if_pos (by simp; omega), f70_nil N ps near give _ _ hN, andThen_some, if_neg (by decide), w_succ (by omega)]) (fun q => by
   show f45l2B N (f45l2 N q) pl (r : Int) pl (pl.length : Int) (r : Int) (pl.getD r []) ((pl.getD r []).length : Int) ((pl.getD r []).length : Int) ps near give [] = _
   unfold f45l2B
   rw [if_neg (dn (by omega))]) N (by have := (hr _ (getD_mem (d := []) hrl)).1; omega)
 have hL1 := loop_all (fun q i => f45l1 N q pl pl (pl.length : Int) (i : Int) ps near give []) pl.length (.inr ()) (fun q i hi => by
  show f45l1B N (f45l1 N q) pl pl (pl.length : Int) (i : Int) ps near give [] = _
  unfold f45l1B
  simp only [Int.toNat_natCast]
  rw [if_pos (d1 (by omega)), if_pos (dd (by omega) (by omega)), hin i hi, andThen_some, either_inr]
  simp only
  rw [w_succ (by omega)]) (fun q => by
  show f45l1B N (f45l1 N q) pl pl (pl.length : Int) (pl.length : Int) ps near give [] = _
  unfold f45l1B
  rw [if_neg (dn (by omega))]) N (by omega)
 have hL1 : f45l1 N N pl pl (pl.length : Int) 0 ps near give [] = some (.inr ()) := hL1
 rw [hL1]; rfl
structure SureOk (ps : List Pt) (near give : Int) (pl : List (List Int)) : Prop where
 col : ColOk ps near give
 plan : PlanOk ps.length pl
 th : TiesH ps near pl
 ts : TiesS ps give pl
 most : ∀ p ∈ ps, 3 * (pl.length : Int) ≤ p.2.2.2
theorem PlanOk.rds {n : Nat} {pl : List (List Int)} (h : PlanOk n pl) : ∀ r ∈ pl, r.length ≤ 50 ∧ ∀ c ∈ r, 0 ≤ c ∧ c < n := fun r hr => ⟨by have := (h.rd r hr).len; omega, (h.rd r hr).mem⟩
theorem f21_ok (N : Nat) (ps : List Pt) (near give : Int) (pl : List (List Int)) (hN : 100 ≤ N) (h : SureOk ps near give pl) : f21 N ps near give [] pl = some true := by
 have hc := h.col
 have hl := h.plan.len
 unfold f21 f40 f43
 simp only [andThen_some]
 rw [f67_ok N ps near give [] false hc.pt hc.near0 hc.near1 hN pl (by omega) (fun r hr => (h.plan.rds r hr).1) h.th, andThen_some]
 simp only
 rw [if_pos (by decide), f68_ok N ps near give [] false hc.pt hc.give0 hc.give1 hN pl (by omega) (fun r hr => (h.plan.rds r hr).1) h.ts, andThen_some]
 simp only
 rw [if_pos (by decide), f45_ok N ps near give pl hN hc.pt hc.n5 (by omega) h.plan.rds h.most, andThen_some]
def one1 (n : Nat) : List (List Int) := (List.range n).map fun i : Nat => [(i : Int)]
theorem one1_len (n : Nat) : (one1 n).length = n := by simp [one1]
theorem one1_get {n i : Nat} (h : i < n) : (one1 n).getD i [] = [(i : Int)] := by
 simp [one1, List.getD_eq_getElem?_getD, h]
def hqB (ps : List Pt) : Nat → Int
 | 0 => 1001 | r + 1 => (pn ps r).1.1
def hq (ps : List Pt) (r : Nat) : Int × Int := ((pn ps r).1.2, hqB ps r - 1)
def Down (ps : List Pt) : Prop := ∀ i, i + 1 < ps.length → (pn ps (i + 1)).1.2 < (pn ps i).1.1
theorem Down.lt {ps : List Pt} (h : Down ps) (hp : ∀ p ∈ ps, okPt p) : ∀ {j i : Nat}, i < j → j < ps.length → (pn ps j).1.2 < (pn ps i).1.1
 | j + 1, i, hij, hj => by
  have h1 := h j hj
  by_cases e : i = j
  ·subst e; exact h1
  ·have h2 := h.lt hp (show i < j by omega) (by omega)
   have h3 := hp _ (getD_mem (d := p0) (show j < ps.length by omega))
   unfold okPt at h3
   have h3 : (pn ps j).1.1 ≤ (pn ps j).1.2 := h3.2.1
   omega
theorem one1_sure (ps : List Pt) (near give : Int) (hc : ColOk ps near give) (hd : Down ps) (hm : ∀ p ∈ ps, 3 * (ps.length : Int) ≤ p.2.2.2) (hs : ∀ p ∈ ps, p.2.1.2 ≤ give) : SureOk ps near give (one1 ps.length) := by
 have hget : ∀ {r}, r < (one1 ps.length).length → (one1 ps.length).getD r [] = [(r : Int)] := fun h => one1_get (by rwa [one1_len] at h)
 refine ⟨hc, ⟨by rw [one1_len]; exact hc.n5, fun r hr => ?_, ?_⟩, fun r hr k hk i hi j hj hne => ?_, fun r hr i hi j hj => ?_, by rw [one1_len]; exact hm⟩
 ·obtain ⟨i, hi, rfl⟩ := List.mem_map.1 hr
  have hi := List.mem_range.1 hi
  exact ⟨by simp, by simp, fun k hk => by simp at hk, fun c hc => by simp at hc; subst hc; omega⟩
 ·have : (one1 ps.length).flatten = (List.range ps.length).map fun i : Nat => (i : Int) := by
   unfold one1
   induction List.range ps.length with
   | nil => rfl
   | cons a l ih => simp [ih]
  rw [this]
  exact List.Pairwise.map _ (fun a b hab => by intro e; exact hab (by omega)) (List.nodup_range (n := ps.length))
 ·rw [hget hr] at hi hne ⊢
  rw [hget (by omega)] at hj hne ⊢
  simp at hi hj
  subst hi; subst hj
  simp at hne
  rw [one1_len] at hr
  have hkr : k ≠ r := fun e => hne (by rw [e])
  rw [if_neg hkr]
  have := hd.lt hc.pt (show k < r by omega) hr
  refine ⟨by simp, by simpa using hr, by simp, by simp; omega, ?_⟩
  simp only [List.getD_cons_zero, Int.toNat_natCast, heatF]
  omega
 ·rw [hget (by omega)] at hi ⊢
  rw [hget hr] at hj ⊢
  simp at hi hj
  subst hi; subst hj
  rw [one1_len] at hr
  have a1 := hc.get (show r < ps.length by omega)
  have a2 := hc.get hr
  have b1 := hs _ (getD_mem (d := p0) (show r < ps.length by omega))
  have b2 := hs _ (getD_mem (d := p0) hr)
  unfold okPt at a1 a2
  have b1 : (pn ps r).2.1.2 ≤ give := b1
  have b2 : (pn ps (r + 1)).2.1.2 ≤ give := b2
  refine ⟨⟨?_, ?_, ?_, ?_, ?_⟩, ⟨?_, ?_, ?_, ?_, ?_⟩⟩ <;>
  ·simp only [List.getD_cons_zero, Int.toNat_natCast, stretF]
   omega
theorem f7_one1 (N : Nat) (ps : List Pt) (near give : Int) (hN : 100 ≤ N) (hc : ColOk ps near give) (hd : Down ps) (hm : ∀ p ∈ ps, 3 * (ps.length : Int) ≤ p.2.2.2) (hs : ∀ p ∈ ps, p.2.1.2 ≤ give) :
  f7 N ps near give [] (one1 ps.length) = some ((List.range ps.length).map (hq ps), 0) := by
 have hsure := one1_sure ps near give hc hd hm hs
 have hn5 := hc.n5
 unfold f7
 rw [f20_ok N ps near give [one1 ps.length] hN hc (by simp) (fun pl hpl => by simp at hpl; subst hpl; exact hsure.plan), andThen_some]
 simp only
 rw [if_neg (by decide), f21_ok N ps near give _ hN hsure, andThen_some, if_neg (by decide)]
 obtain ⟨res, h1, rfl⟩ := loop_run (fun q (i : Nat) => f7l0 N q ((List.range i).map (hq ps)) (hqB ps i) (one1 ps.length) ((one1 ps.length).length : Int) (i : Int) ps near give []) (fun i => i ≤ ps.length) (fun i => ps.length - i)
  (fun res => res = (List.range ps.length).map (hq ps)) (fun q i hi => by
   by_cases hlt : i < ps.length
   ·right
    have hpt := hc.get hlt
    unfold okPt at hpt
    have hB : 0 ≤ hqB ps i ∧ hqB ps i ≤ 1001 ∧ (pn ps i).1.1 < hqB ps i := by
     cases i with
     | zero => simp [hqB]; omega
     | succ i =>
      have h1 := hc.get (show i < ps.length by omega)
      have h2 := hd i hlt
      unfold okPt at h1
      show 0 ≤ (pn ps i).1.1 ∧ (pn ps i).1.1 ≤ 1001 ∧ _ < (pn ps i).1.1
      omega
    refine ⟨i + 1, hlt, by omega, ?_⟩
    show f7l0B N (f7l0 N q) ((List.range i).map (hq ps)) (hqB ps i) (one1 ps.length) ((one1 ps.length).length : Int) (i : Int) ps near give [] = _
    unfold f7l0B
    rw [one1_len]
    simp only [Int.toNat_natCast]
    rw [if_pos (d1 (by omega)), if_pos (dd (by omega) (by omega)), one1_get hlt, w64_id (by omega) (by omega)]
    obtain ⟨M, rfl⟩ : ∃ M, N = M + 2 := ⟨N - 2, by omega⟩
    have hin : f7l1 (M + 2) (M + 2) ((List.range i).map (hq ps)) (hqB ps i) (one1 ps.length) (ps.length : Int) (i : Int) [(i : Int)] (([(i : Int)] : List Int).length : Int) 0 ps near give [] 0 (hqB ps i - 1) =
      some ((List.range i).map (hq ps), (pn ps i).1.1, one1 ps.length, (ps.length : Int), (i : Int), ps, near, give, [], (pn ps i).1.2, hqB ps i - 1) := by
     rw [show f7l1 (M + 2) (M + 2) = f7l1B (M + 2) (f7l1 (M + 2) (M + 1)) from rfl]
     unfold f7l1B
     have e0 : List.getD [(i : Int)] (Int.toNat 0) 0 = (i : Int) := rfl
     have ew : Go.IntKind.wrap .i64 (0 + 1) = 1 := by decide
     rw [if_pos (by simp), if_pos (by simp), e0, if_pos (dd (by omega) (by omega)), if_pos (dd (by omega) (by omega)), ew]
     simp only [Int.toNat_natCast]
     have e1 : ps.getD i ((0, 0), ((0, 0), (0, 0))) = pn ps i := rfl
     rw [e1, if_pos (by omega)]
     rw [show f7l1 (M + 2) (M + 1) = f7l1B (M + 2) (f7l1 (M + 2) M) from rfl]
     unfold f7l1B
     rw [if_neg (by simp)]
     by_cases hz : (pn ps i).1.2 > 0
     ·rw [if_pos hz]
     ·rw [if_neg hz]; congr; omega
    rw [hin, andThen_some]
    simp only
    rw [if_pos (by rw [Nat.ble_eq]; simp; unfold boundLen; omega), w_succ (by omega), List.range_succ, List.map_append]
    rfl
   ·left
    have : i = ps.length := by omega
    subst this
    refine ⟨_, ?_, rfl⟩
    show f7l0B N (f7l0 N q) ((List.range ps.length).map (hq ps)) (hqB ps ps.length) (one1 ps.length) ((one1 ps.length).length : Int) (ps.length : Int) ps near give [] = _
    unfold f7l0B
    rw [one1_len, if_neg (dn (by omega))]) N 0 (Nat.zero_le _) (by omega)
 have h1 : f7l0 N N [] 1001 (one1 ps.length) ((one1 ps.length).length : Int) 0 ps near give [] = some ((List.range ps.length).map (hq ps)) := h1
 rw [h1]; rfl
end Go.Pl


namespace Go.Pl
open Go.Al Go.Proofs
theorem acc_loop {R : Type} (L : Nat → Nat → List Int → Option R) (n : Nat) (Q : Nat → (Nat → Int) → Prop) (fin : List Int → R)
  (step : ∀ q i m R0, i < n → Tells m R0 → ∃ m', L (q + 1) i m = L q (i + 1) m' ∧ Tells m' (fun t => R0 t ∧ Q i t)) (stop : ∀ q m, L (q + 1) n m = some (fin m)) (N : Nat) (hN : n < N) {m : List Int} {R0 : (Nat → Int) → Prop} (h : Tells m R0) :
  ∃ m', L N 0 m = some (fin m') ∧ Tells m' (fun t => R0 t ∧ ∀ i, i < n → Q i t) := by
 obtain ⟨r, h1, m', rfl, h2⟩ := loop_run (fun q (s : Nat × List Int) => L q s.1 s.2) (fun s => s.1 ≤ n ∧ Tells s.2 (fun t => R0 t ∧ ∀ i, i < s.1 → Q i t)) (fun s => n - s.1) (fun r => ∃ m', r = fin m' ∧ Tells m' (fun t => R0 t ∧ ∀ i, i < n → Q i t)) (fun q s hs => by
  obtain ⟨i, m1⟩ := s
  obtain ⟨hi, hm⟩ := hs
  simp only at hi hm
  by_cases hlt : i < n
  ·right
   obtain ⟨m2, e1, e2⟩ := step q i m1 _ hlt hm
   refine ⟨(i + 1, m2), ⟨hlt, e2.congr fun t => ?_⟩, by simp only; omega, e1⟩
   constructor
   ·rintro ⟨⟨a, b⟩, c⟩
    refine ⟨a, fun j hj => ?_⟩
    rcases Nat.lt_or_ge j i with h | h
    ·exact b j h
    ·have : j = i := by simp only at hj; omega
     subst this; exact c
   ·rintro ⟨a, b⟩
    exact ⟨⟨a, fun j hj => b j (by simp only; omega)⟩, b i (by simp only; omega)⟩
  ·left
   have : i = n := by omega
   subst this
   exact ⟨_, stop q m1, m1, rfl, hm⟩) N (0, m) ⟨Nat.zero_le _, h.congr fun t => ⟨fun h => ⟨h, fun i hi => absurd hi (Nat.not_lt_zero _)⟩, fun h => h.1⟩⟩ (by simpa using hN)
 exact ⟨m', h1, h2⟩
theorem y4_eq (N : Nat) (a b more : Int) {m : List Int} {R : (Nat → Int) → Prop} (h : Tells m R) (ha : 0 ≤ a) (ha' : a < 6) (hb : 0 ≤ b) (hb' : b < 6) (hm : -1000 ≤ more) (hm' : more ≤ 1000) :
  ∃ m', y4 N a b more 0 0 m = some (true, 0, 0, m') ∧ Tells m' (fun t => R t ∧ t b.toNat - t a.toNat ≤ more) := by
 refine ⟨lim a.toNat b.toNat more m, ?_, fine_lim h.1 (by omega) (by omega) (by omega) (by omega), fun t => ?_⟩
 ·unfold y4 y3
  simp only [ha, ha', hb, hb', decide_true, Bool.and_true, if_true, Nat.zero_add, Nat.mul_one]
  rfl
 ·rw [sat_lim h.1.1 (by omega) (by omega), h.2 t]
section
variable (N : Nat) (ps : List Pt) (near give : Int) (e : List (Int × Int)) (hn0 : 0 ≤ near) (hn : near ≤ 100) (hg0 : 0 ≤ give) (hg : give ≤ 100) (hN : 100 ≤ N)
include hn0 hn hN
def inR (c : Int) : Prop := 0 ≤ c ∧ c < 5
theorem f67al3_ok (x0 : Int) (x1 : List Int) (x2 : Int) (x3 : List Int) (x4 : Int) (x5 : List (List Int)) (x6 x7 : Int) (x8 : List (List Int)) (x9 x10 : Int) (x11 : List Int) (x12 x13 : Int) (bf : List Int) (x18 : List (List Int)) (hl : bf.length ≤ 50)
  (ha : inR x4) (hbf : ∀ c ∈ bf, inR c) {m : List Int} {R : (Nat → Int) → Prop} (h : Tells m R) :
  ∃ m', f67al3 N N x0 x1 x2 x3 x4 x5 x6 x7 x8 x9 x10 x11 x12 x13 bf (bf.length : Int) 0 0 x18 ps near give e 0 m = some (.inr (x0, x1, x2, x3, x5, x6, x7, x8, x9, x10, x11, x12, x13, 0, x18, ps, near, give, e, 0, m')) ∧
   Tells m' (fun t => R t ∧ ∀ j, j < bf.length → (x4 ≠ bf.getD j 0 → t (bf.getD j 0).toNat - t x4.toNat ≤ if x2 = x0 then near else -1)) := by
 exact acc_loop (fun q i m => f67al3 N q x0 x1 x2 x3 x4 x5 x6 x7 x8 x9 x10 x11 x12 x13 bf (bf.length : Int) (i : Int) 0 x18 ps near give e 0 m) bf.length (fun j t => x4 ≠ bf.getD j 0 → t (bf.getD j 0).toNat - t x4.toNat ≤ if x2 = x0 then near else -1) _ (fun q i m R0 hi hm => by
  obtain ⟨b1, b2⟩ := hbf _ (getD_mem (d := 0) hi)
  unfold inR at ha
  by_cases hb : x4 = bf.getD i 0
  ·refine ⟨m, ?_, hm.congr fun t => ⟨fun h => ⟨h, fun hne => absurd hb hne⟩, fun h => h.1⟩⟩
   show f67al3B N (f67al3 N q) x0 x1 x2 x3 x4 x5 x6 x7 x8 x9 x10 x11 x12 x13 bf (bf.length : Int) (i : Int) 0 x18 ps near give e 0 m = _
   unfold f67al3B
   simp only [Int.toNat_natCast]
   rw [if_pos (d1 (by omega)), if_pos (dd (by omega) (by omega)), w_succ (by omega)]
   by_cases hx : x2 = x0
   ·rw [if_pos (by simpa using hx), if_neg (by rw [bne_iff_ne]; simpa using hb)]
   ·rw [if_neg (by simpa using hx), if_neg (by rw [bne_iff_ne]; simpa using hb)]
  ·obtain ⟨m', e1, e2⟩ := y4_eq N x4 (bf.getD i 0) (if x2 = x0 then near else -1) hm ha.1 (by omega) b1 (by omega) (by split <;> omega) (by split <;> omega)
   refine ⟨m', ?_, e2.congr fun t => ⟨fun h => ⟨h.1, fun _ => h.2⟩, fun h => ⟨h.1, h.2 hb⟩⟩⟩
   show f67al3B N (f67al3 N q) x0 x1 x2 x3 x4 x5 x6 x7 x8 x9 x10 x11 x12 x13 bf (bf.length : Int) (i : Int) 0 x18 ps near give e 0 m = _
   unfold f67al3B
   simp only [Int.toNat_natCast]
   rw [if_pos (d1 (by omega)), if_pos (dd (by omega) (by omega)), w_succ (by omega)]
   by_cases hx : x2 = x0
   ·rw [if_pos hx] at e1
    rw [if_pos (by simpa using hx), if_pos (by rw [bne_iff_ne]; exact hb), e1, andThen_some]
    rfl
   ·rw [if_neg hx] at e1
    rw [if_neg (by simpa using hx), if_pos (by rw [bne_iff_ne]; exact hb), e1, andThen_some]
    rfl) (fun q m => by
  show f67al3B N (f67al3 N q) x0 x1 x2 x3 x4 x5 x6 x7 x8 x9 x10 x11 x12 x13 bf (bf.length : Int) (bf.length : Int) 0 x18 ps near give e 0 m = _
  unfold f67al3B
  rw [if_neg (dn (by omega))]) N (by omega) h
theorem f67al2_ok (x0 : Int) (x1 : List Int) (x2 : Int) (bf : List Int) (x4 : List (List Int)) (x5 x6 : Int) (x7 : List (List Int)) (x8 x9 : Int) (rd : List Int) (x14 : List (List Int)) (hl : rd.length ≤ 50) (hl' : bf.length ≤ 50)
  (hrd : ∀ c ∈ rd, inR c) (hbf : ∀ c ∈ bf, inR c) {m : List Int} {R : (Nat → Int) → Prop} (h : Tells m R) :
  ∃ m', f67al2 N N x0 x1 x2 bf x4 x5 x6 x7 x8 x9 rd (rd.length : Int) 0 0 x14 ps near give e 0 m = some (.inr (x0, x1, x4, x5, x6, x7, x8, x9, 0, x14, ps, near, give, e, 0, m')) ∧
   Tells m' (fun t => R t ∧ ∀ i, i < rd.length → ∀ j, j < bf.length → (rd.getD i 0 ≠ bf.getD j 0 → t (bf.getD j 0).toNat - t (rd.getD i 0).toNat ≤ if x2 = x0 then near else -1)) := by
 exact acc_loop (fun q i m => f67al2 N q x0 x1 x2 bf x4 x5 x6 x7 x8 x9 rd (rd.length : Int) (i : Int) 0 x14 ps near give e 0 m) rd.length (fun i t => ∀ j, j < bf.length → (rd.getD i 0 ≠ bf.getD j 0 → t (bf.getD j 0).toNat - t (rd.getD i 0).toNat ≤ if x2 = x0 then near else -1)) _ (fun q i m R0 hi hm => by
  obtain ⟨m', e1, e2⟩ := f67al3_ok N ps near give e hn0 hn hN x0 x1 x2 bf (rd.getD i 0) x4 x5 x6 x7 x8 x9 rd (rd.length : Int) (i : Int) bf x14 hl' (hrd _ (getD_mem hi)) hbf hm
  refine ⟨m', ?_, e2⟩
  show f67al2B N (f67al2 N q) x0 x1 x2 bf x4 x5 x6 x7 x8 x9 rd (rd.length : Int) (i : Int) 0 x14 ps near give e 0 m = _
  unfold f67al2B
  simp only [Int.toNat_natCast]
  rw [if_pos (d1 (by omega)), if_pos (dd (by omega) (by omega)), e1, andThen_some, either_inr]
  simp only
  rw [w_succ (by omega)]) (fun q m => by
  show f67al2B N (f67al2 N q) x0 x1 x2 bf x4 x5 x6 x7 x8 x9 rd (rd.length : Int) (rd.length : Int) 0 x14 ps near give e 0 m = _
  unfold f67al2B
  rw [if_neg (dn (by omega))]) N (by omega) h
theorem f67al1_ok (r : Nat) (rd : List Int) (x2 : List (List Int)) (x3 x4 : Int) (bfs : List (List Int)) (x9 : List (List Int)) (hl : bfs.length ≤ 50) (hl1 : rd.length ≤ 50) (hl2 : ∀ b ∈ bfs, b.length ≤ 50)
  (hrd : ∀ c ∈ rd, inR c) (hbf : ∀ b ∈ bfs, ∀ c ∈ b, inR c) {m : List Int} {R : (Nat → Int) → Prop} (h : Tells m R) :
  ∃ m', f67al1 N N (r : Int) rd x2 x3 x4 bfs (bfs.length : Int) 0 0 x9 ps near give e 0 m = some (.inr (x2, x3, x4, 0, x9, ps, near, give, e, 0, m')) ∧
   Tells m' (fun t => R t ∧ ∀ k, k < bfs.length → ∀ i, i < rd.length → ∀ j, j < (bfs.getD k []).length → (rd.getD i 0 ≠ (bfs.getD k []).getD j 0 → t ((bfs.getD k []).getD j 0).toNat - t (rd.getD i 0).toNat ≤ if k = r then near else -1)) := by
 exact acc_loop (fun q i m => f67al1 N q (r : Int) rd x2 x3 x4 bfs (bfs.length : Int) (i : Int) 0 x9 ps near give e 0 m) bfs.length (fun k t => ∀ i, i < rd.length → ∀ j, j < (bfs.getD k []).length → (rd.getD i 0 ≠ (bfs.getD k []).getD j 0 → t ((bfs.getD k []).getD j 0).toNat - t (rd.getD i 0).toNat ≤ if k = r then near else -1)) _ (fun q i m R0 hi hm => by
  obtain ⟨m', e1, e2⟩ := f67al2_ok N ps near give e hn0 hn hN (r : Int) rd (i : Int) (bfs.getD i []) x2 x3 x4 bfs (bfs.length : Int) (i : Int) rd x9 hl1 (hl2 _ (getD_mem hi)) hrd (hbf _ (getD_mem hi)) hm
  have e3 : ((i : Int) = (r : Int)) = (i = r) := propext ⟨fun h => by omega, fun h => by omega⟩
  simp only [e3] at e2
  refine ⟨m', ?_, e2⟩
  show f67al1B N (f67al1 N q) (r : Int) rd x2 x3 x4 bfs (bfs.length : Int) (i : Int) 0 x9 ps near give e 0 m = _
  unfold f67al1B
  simp only [Int.toNat_natCast]
  rw [if_pos (d1 (by omega)), if_pos (dd (by omega) (by omega)), e1, andThen_some, either_inr]
  simp only
  rw [w_succ (by omega)]) (fun q m => by
  show f67al1B N (f67al1 N q) (r : Int) rd x2 x3 x4 bfs (bfs.length : Int) (bfs.length : Int) 0 x9 ps near give e 0 m = _
  unfold f67al1B
  rw [if_neg (dn (by omega))]) N (by omega) h
omit hn0 hn hN in
def TieH (near : Int) (pl : List (List Int)) (t : Nat → Int) : Prop := ∀ r, r < pl.length → ∀ k, k < r + 1 → ∀ i, i < (pl.getD r []).length → ∀ j, j < (pl.getD k []).length →
 ((pl.getD r []).getD i 0 ≠ (pl.getD k []).getD j 0 → t ((pl.getD k []).getD j 0).toNat - t ((pl.getD r []).getD i 0).toNat ≤ if k = r then near else -1)
theorem f67a_ok (pl : List (List Int)) (hl : pl.length ≤ 50) (hl1 : ∀ r ∈ pl, r.length ≤ 50 ∧ ∀ c ∈ r, inR c) {m : List Int} {R : (Nat → Int) → Prop} (h : Tells m R) :
  ∃ m', f67a N 0 pl ps near give e 0 m = some (0, pl, ps, near, give, e, 0, m') ∧ Tells m' (fun t => R t ∧ TieH near pl t) := by
 obtain ⟨m', h1, h2⟩ := acc_loop (fun q i m => f67al0 N q pl (pl.length : Int) (i : Int) 0 pl ps near give e 0 m) pl.length (fun r t => ∀ k, k < r + 1 → ∀ i, i < (pl.getD r []).length → ∀ j, j < (pl.getD k []).length →
   ((pl.getD r []).getD i 0 ≠ (pl.getD k []).getD j 0 → t ((pl.getD k []).getD j 0).toNat - t ((pl.getD r []).getD i 0).toNat ≤ if k = r then near else -1)) (fun m' => .inr (0, pl, ps, near, give, e, 0, m')) (fun q i m R0 hi hm => by
  have hlen : (cut pl 0 (i + 1)).length = i + 1 := by unfold cut; simp; omega
  have hsub : ∀ b ∈ cut pl 0 (i + 1), b ∈ pl := fun b hb => by
   unfold cut at hb
   exact List.mem_of_mem_take hb
  have hg := hl1 _ (getD_mem (d := []) hi)
  obtain ⟨m', e1, e2⟩ := f67al1_ok N ps near give e hn0 hn hN i (pl.getD i []) pl (pl.length : Int) (i : Int) (cut pl 0 (i + 1)) pl (by omega) hg.1 (fun b hb => (hl1 b (hsub b hb)).1) hg.2 (fun b hb => (hl1 b (hsub b hb)).2) hm
  rw [hlen] at e1 e2
  refine ⟨m', ?_, e2.congr fun t => ?_⟩
  ·show f67al0B N (f67al0 N q) pl (pl.length : Int) (i : Int) 0 pl ps near give e 0 m = _
   unfold f67al0B
   rw [w_succ (by omega)]
   simp only [Int.toNat_natCast, show Int.toNat 0 = 0 from rfl, hlen]
   rw [if_pos (d1 (by omega)), if_pos (dd (by omega) (by omega)), if_pos (by simp; omega), e1, andThen_some, either_inr]
   simp only
   rw [w_succ (by omega)]
  ·constructor
   ·rintro ⟨a, b⟩
    refine ⟨a, fun k hk i' hi' j hj hne => ?_⟩
    have := b k hk i' hi' j
    rw [getD_cut0 pl [] hk] at this
    exact this hj hne
   ·rintro ⟨a, b⟩
    refine ⟨a, fun k hk i' hi' j hj hne => ?_⟩
    rw [getD_cut0 pl [] hk] at hj hne ⊢
    exact b k hk i' hi' j hj hne) (fun q m => by
  show f67al0B N (f67al0 N q) pl (pl.length : Int) (pl.length : Int) 0 pl ps near give e 0 m = _
  unfold f67al0B
  rw [if_neg (dn (by omega))]) N (by omega) h
 have h1 : f67al0 N N pl (pl.length : Int) 0 0 pl ps near give e 0 m = some (.inr (0, pl, ps, near, give, e, 0, m')) := h1
 refine ⟨m', ?_, h2⟩
 unfold f67a
 rw [h1]; rfl
omit hn0 hn
include hg0 hg
theorem f68al2_ok (r : Nat) (a : Int) (x2 x3 : Int) (x4 : List Int) (x5 x6 : Int) (nx : List Int) (x11 : List (List Int)) (hl : nx.length ≤ 50) (ha : inR a) (hnx : ∀ c ∈ nx, inR c) {m : List Int} {R : (Nat → Int) → Prop} (h : Tells m R) :
  ∃ m', f68al2 N N (r : Int) a x2 x3 x4 x5 x6 nx (nx.length : Int) 0 0 x11 ps near give e 0 m = some (.inr ((r : Int), x2, x3, x4, x5, x6, 0, x11, ps, near, give, e, 0, m')) ∧
   Tells m' (fun t => R t ∧ ∀ j, j < nx.length → (t (nx.getD j 0).toNat - t a.toNat ≤ give ∧ t a.toNat - t (nx.getD j 0).toNat ≤ give)) := by
 exact acc_loop (fun q i m => f68al2 N q (r : Int) a x2 x3 x4 x5 x6 nx (nx.length : Int) (i : Int) 0 x11 ps near give e 0 m) nx.length (fun j t => t (nx.getD j 0).toNat - t a.toNat ≤ give ∧ t a.toNat - t (nx.getD j 0).toNat ≤ give) _ (fun q i m R0 hi hm => by
  obtain ⟨b1, b2⟩ := hnx _ (getD_mem (d := 0) hi)
  unfold inR at ha
  obtain ⟨m1, e1, e2⟩ := y4_eq N a (nx.getD i 0) give hm ha.1 (by omega) b1 (by omega) (by omega) (by omega)
  obtain ⟨m2, e3, e4⟩ := y4_eq N (nx.getD i 0) a give e2 b1 (by omega) ha.1 (by omega) (by omega) (by omega)
  refine ⟨m2, ?_, e4.congr fun t => ⟨fun h => ⟨h.1.1, h.1.2, h.2⟩, fun h => ⟨⟨h.1, h.2.1⟩, h.2.2⟩⟩⟩
  show f68al2B N (f68al2 N q) (r : Int) a x2 x3 x4 x5 x6 nx (nx.length : Int) (i : Int) 0 x11 ps near give e 0 m = _
  unfold f68al2B
  simp only [Int.toNat_natCast]
  rw [if_pos (d1 (by omega)), if_pos (dd (by omega) (by omega)), e1, andThen_some]
  simp only
  rw [if_pos (by decide), e3, andThen_some]
  simp only
  rw [if_neg (by decide), w_succ (by omega)]) (fun q m => by
  show f68al2B N (f68al2 N q) (r : Int) a x2 x3 x4 x5 x6 nx (nx.length : Int) (nx.length : Int) 0 x11 ps near give e 0 m = _
  unfold f68al2B
  rw [if_neg (dn (by omega))]) N (by omega) h
def TieS (give : Int) (pl : List (List Int)) (t : Nat → Int) : Prop := ∀ r, r < pl.length - 1 → ∀ i, i < (pl.getD r []).length → ∀ j, j < (pl.getD (r + 1) []).length →
 (t ((pl.getD (r + 1) []).getD j 0).toNat - t ((pl.getD r []).getD i 0).toNat ≤ give ∧ t ((pl.getD r []).getD i 0).toNat - t ((pl.getD (r + 1) []).getD j 0).toNat ≤ give)
theorem f68a_ok (pl : List (List Int)) (hl : pl.length ≤ 50) (hl1 : ∀ r ∈ pl, r.length ≤ 50 ∧ ∀ c ∈ r, inR c) {m : List Int} {R : (Nat → Int) → Prop} (h : Tells m R) :
  ∃ m', f68a N 0 pl ps near give e 0 m = some (0, pl, ps, near, give, e, 0, m') ∧ Tells m' (fun t => R t ∧ TieS give pl t) := by
 have hlen : (cut pl (if (pl.length : Int) < 1 then (pl.length : Int) else 1).toNat (pl.length : Int).toNat).length = pl.length - 1 := by
  unfold cut
  rw [List.length_take, List.length_drop, Int.toNat_natCast]
  split <;> omega
 obtain ⟨m', h1, h2⟩ := acc_loop (fun q i m => f68al0 N q ((pl.length - 1 : Nat) : Int) (i : Int) 0 pl ps near give e 0 m) (pl.length - 1) (fun r t => ∀ i, i < (pl.getD r []).length → ∀ j, j < (pl.getD (r + 1) []).length →
   (t ((pl.getD (r + 1) []).getD j 0).toNat - t ((pl.getD r []).getD i 0).toNat ≤ give ∧ t ((pl.getD r []).getD i 0).toNat - t ((pl.getD (r + 1) []).getD j 0).toNat ≤ give)) (fun m' => .inr (0, pl, ps, near, give, e, 0, m')) (fun q r m R0 hr hm => by
  have hgr := hl1 _ (getD_mem (d := []) (show r < pl.length by omega))
  have hgr' := hl1 _ (getD_mem (d := []) (show r + 1 < pl.length by omega))
  obtain ⟨m1, e1, e2⟩ := acc_loop (fun q i m => f68al1 N q (r : Int) ((pl.length - 1 : Nat) : Int) (r : Int) (pl.getD r []) ((pl.getD r []).length : Int) (i : Int) 0 pl ps near give e 0 m) (pl.getD r []).length (fun i t => ∀ j, j < (pl.getD (r + 1) []).length →
   (t ((pl.getD (r + 1) []).getD j 0).toNat - t ((pl.getD r []).getD i 0).toNat ≤ give ∧ t ((pl.getD r []).getD i 0).toNat - t ((pl.getD (r + 1) []).getD j 0).toNat ≤ give)) (fun m' => .inr (((pl.length - 1 : Nat) : Int), (r : Int), 0, pl, ps, near, give, e, 0, m')) (fun q i m R0 hi hm => by
    obtain ⟨m1, e1, e2⟩ := f68al2_ok N ps near give e hg0 hg hN r ((pl.getD r []).getD i 0) ((pl.length - 1 : Nat) : Int) (r : Int) (pl.getD r []) ((pl.getD r []).length : Int) (i : Int) (pl.getD (r + 1) []) pl hgr'.1 (hgr.2 _ (getD_mem hi)) hgr'.2 hm
    refine ⟨m1, ?_, e2⟩
    show f68al1B N (f68al1 N q) (r : Int) ((pl.length - 1 : Nat) : Int) (r : Int) (pl.getD r []) ((pl.getD r []).length : Int) (i : Int) 0 pl ps near give e 0 m = _
    have hgr1 := hgr.1
    unfold f68al1B
    rw [w_succ (by omega)]
    simp only [Int.toNat_natCast]
    rw [if_pos (d1 (by omega)), if_pos (dd (by omega) (by omega)), if_pos (dd (by omega) (by omega)), e1, andThen_some, either_inr]
    simp only
    rw [w_succ (by omega)]) (fun q m => by
    show f68al1B N (f68al1 N q) (r : Int) ((pl.length - 1 : Nat) : Int) (r : Int) (pl.getD r []) ((pl.getD r []).length : Int) ((pl.getD r []).length : Int) 0 pl ps near give e 0 m = _
    unfold f68al1B
    rw [if_neg (dn (by omega))]) N (by have := hgr.1; omega) hm
  refine ⟨m1, ?_, e2⟩
  have e1 : f68al1 N N (r : Int) ((pl.length - 1 : Nat) : Int) (r : Int) (pl.getD r []) ((pl.getD r []).length : Int) 0 0 pl ps near give e 0 m = some (.inr (((pl.length - 1 : Nat) : Int), (r : Int), 0, pl, ps, near, give, e, 0, m1)) := e1
  show f68al0B N (f68al0 N q) ((pl.length - 1 : Nat) : Int) (r : Int) 0 pl ps near give e 0 m = _
  unfold f68al0B
  simp only [Int.toNat_natCast]
  rw [if_pos (d1 (by omega)), if_pos (dd (by omega) (by omega)), e1, andThen_some, either_inr]
  simp only
  rw [w_succ (by omega)]) (fun q m => by
  show f68al0B N (f68al0 N q) ((pl.length - 1 : Nat) : Int) ((pl.length - 1 : Nat) : Int) 0 pl ps near give e 0 m = _
  unfold f68al0B
  rw [if_neg (dn (by omega))]) N (by omega) h
 have h1 : f68al0 N N ((pl.length - 1 : Nat) : Int) 0 0 pl ps near give e 0 m = some (.inr (0, pl, ps, near, give, e, 0, m')) := h1
 refine ⟨m', ?_, h2⟩
 unfold f68a
 rw [hlen, if_pos (by split <;> simp <;> omega), h1]; rfl
end
end Go.Pl


namespace Go.Pl
open Go.Al Go.Proofs
abbrev Wk := List Pt × (Int × (Int × List (Int × Int)))
def InSp (f : Pt → Int × Int) (ps : List Pt) (n : Nat) (t : Nat → Int) : Prop := ∀ p, p < n → (f (pn ps p)).1 ≤ t 5 - t p ∧ t 5 - t p ≤ (f (pn ps p)).2
theorem okPt_heat {p : Pt} (h : okPt p) : 0 ≤ (heatF p).1 ∧ (heatF p).1 ≤ (heatF p).2 ∧ (heatF p).2 ≤ 1000 := by unfold okPt at h; unfold heatF; omega
theorem okPt_stret {p : Pt} (h : okPt p) : 0 ≤ (stretF p).1 ∧ (stretF p).1 ≤ (stretF p).2 ∧ (stretF p).2 ≤ 1000 := by unfold okPt at h; unfold stretF; omega
structure WebOk (T : (Nat → Int) → Prop) (ok : Bool) (D : List Int) : Prop where
 iff : ok = true ↔ ∃ t, T t
 sat : ok = true → ∀ t, T t → Sat D t
 att : ok = true → ∀ c, c < 6 → T (fun b => ent D c b) ∧ ent D c c = 0
theorem Tells.web {m : List Int} {T : (Nat → Int) → Prop} (h : Tells m T) {ok : Bool} (hok : ok = true ↔ ∀ a, a < 6 → 0 ≤ ent (fw 6 m) a a) : WebOk T ok (fw 6 m) := by
 obtain ⟨h1, h2⟩ := h
 obtain ⟨s1, s2, s3, s4⟩ := fw_spec h1.1 h1.2.1 h1.2.2
 refine ⟨hok.trans (s2.trans ⟨fun ⟨t, ht⟩ => ⟨t, (h2 t).1 ht⟩, fun ⟨t, ht⟩ => ⟨t, (h2 t).2 ht⟩⟩), fun _ t ht => s3 t ((h2 t).2 ht), fun h c hc => ?_⟩
 obtain ⟨a, b⟩ := s4 (hok.1 h) c hc
 exact ⟨(h2 _).1 a, b⟩
def spanL (D : List Int) (n : Nat) : List Span := (List.range n).map fun c => (-ent D 5 c, ent D c 5)
theorem f58_eq (N : Nat) (D : List Int) (n : Nat) (hN : 100 ≤ N) (hn : n ≤ 5) (hb : ∀ c, c < n → -100000000 ≤ ent D 5 c ∧ ent D 5 c ≤ 100000000) : f58 N D n = some (spanL D n) := by
 obtain ⟨r, h1, hr⟩ := loop_run (fun q (i : Nat) => f58l0 N q (spanL D i) (n : Int) (i : Int) D) (fun i => i ≤ n) (fun i => n - i) (fun r => r = spanL D n) (fun q i hi => by
  by_cases hlt : i < n
  ·right
   refine ⟨i + 1, hlt, by omega, ?_⟩
   show f58l0B N (f58l0 N q) (spanL D i) (n : Int) (i : Int) D = _
   have hlen : (spanL D i).length = i := by simp [spanL]
   have hbi := hb i hlt
   unfold f58l0B
   simp only [Int.toNat_natCast, Nat.mul_one, Nat.zero_add]
   have e1 : Go.IntKind.wrap .i64 (0 - List.getD D (30 + i) 0) = -ent D 5 i := by
    have e2 : List.getD D (30 + i) 0 = ent D 5 i := rfl
    rw [e2, w64_id (by omega) (by omega)]; omega
   rw [e1, if_pos (d1 (by omega)), if_pos (by decide), if_pos (dd (by omega) (by omega)), if_pos (dd (by omega) (by omega)), if_pos (by decide), if_pos (by rw [Nat.ble_eq, hlen]; simp; unfold boundLen; omega), w_succ (by omega)]
   unfold spanL
   rw [List.range_succ, List.map_append]
   rfl
  ·left
   have : i = n := by omega
   subst this
   refine ⟨_, ?_, rfl⟩
   show f58l0B N (f58l0 N q) (spanL D i) (i : Int) (i : Int) D = _
   unfold f58l0B
   rw [if_neg (dn (by omega))]) N 0 (Nat.zero_le _) (by omega)
 rw [hr] at h1
 have h1 : f58l0 N N [] (n : Int) 0 D = some (spanL D n) := h1
 unfold f58; rw [h1]; rfl
theorem f55l0_eq (n : Nat) (ps : List Pt) (a b : Int) (e : List (Int × Int)) : f55l0 (n + 10) (n + 10) 0 ps a b e zero6 = some (ps, a, b, e, init6) := by kernel_rfl
theorem f55l2_ok (N : Nat) (ps : List Pt) (hN : 100 ≤ N) (hn : ps.length ≤ 5) (hp : ∀ p ∈ ps, okPt p) : ∃ m', f55l2 N N ps (ps.length : Int) 0 init6 = some m' ∧ Tells m' (fun t => Near t ∧ InSp heatF ps ps.length t) := by
 obtain ⟨r, h1, h2, _⟩ := loop_run (fun q (s : Nat × List Int) => f55l2 N q ps (ps.length : Int) (s.1 : Int) s.2) (fun s => s.1 ≤ ps.length ∧ Tells s.2 (fun t => Near t ∧ InSp heatF ps s.1 t) ∧ ∀ c, s.1 ≤ c → c < 5 → ent s.2 c 5 = 1048576 ∧ ent s.2 5 c = 1048576) (fun s => ps.length - s.1)
  (fun r => Tells r (fun t => Near t ∧ InSp heatF ps ps.length t) ∧ True) (fun q s hs => by
   obtain ⟨i, m⟩ := s
   obtain ⟨hi, hm, hf⟩ := hs
   simp only at hi hm hf
   by_cases hlt : i < ps.length
   ·right
    have hb := okPt_heat (hp _ (getD_mem (d := p0) hlt))
    have hb : 0 ≤ (heatF (pn ps i)).1 ∧ (heatF (pn ps i)).1 ≤ (heatF (pn ps i)).2 ∧ (heatF (pn ps i)).2 ≤ 1000 := hb
    obtain ⟨hf1, hf2⟩ := hf i (Nat.le_refl _) (by omega)
    have hl := hm.1.1
    have hl1 : (lim i 5 (heatF (pn ps i)).2 m).length = 36 := by simp [hl]
    refine ⟨(i + 1, lim 5 i (-(heatF (pn ps i)).1) (lim i 5 (heatF (pn ps i)).2 m)), ⟨hlt, ⟨fine_lim (fine_lim hm.1 (by omega) (by omega) (by omega) (by omega)) (by omega) (by omega) (by omega) (by omega), fun t => ?_⟩, fun c hc hc5 => ?_⟩, by simp only; omega, ?_⟩
    ·rw [sat_lim hl1 (by omega) (by omega), sat_lim hl (by omega) (by omega), hm.2 t]
     constructor
     ·rintro ⟨⟨⟨a, b⟩, c⟩, d⟩
      refine ⟨a, fun p hpp => ?_⟩
      rcases Nat.lt_or_ge p i with h | h
      ·exact b p h
      ·have : p = i := by simp only at hpp; omega
       subst this; omega
     ·rintro ⟨a, b⟩
      have := b i (by simp only; omega)
      exact ⟨⟨⟨a, fun p hpp => b p (by simp only; omega)⟩, by omega⟩, by omega⟩
    ·simp only at hc
     have := hf c (by omega) hc5
     rw [ent_lim hl1 (by omega) (by omega) (by omega) (by omega), ent_lim hl1 (by omega) (by omega) (by omega) (by omega), if_neg (by omega), if_neg (by omega), ent_lim hl (by omega) (by omega) (by omega) (by omega), ent_lim hl (by omega) (by omega) (by omega) (by omega), if_neg (by omega), if_neg (by omega)]
     exact this
    ·show f55l2B N (f55l2 N q) ps (ps.length : Int) (i : Int) m = f55l2 N q ps (ps.length : Int) ((i + 1 : Nat) : Int) _
     unfold f55l2B f42
     simp only [andThen_some, Int.toNat_natCast, Nat.mul_one, Nat.zero_add]
     have e2 : Go.IntKind.wrap .i64 (0 - (heatF (pn ps i)).1) = -(heatF (pn ps i)).1 := by rw [w64_id (by omega) (by omega)]; omega
     have e3 : lim i 5 (heatF (pn ps i)).2 m = m.set (i * 6 + 5) (heatF (pn ps i)).2 := by unfold lim; rw [if_pos (by omega)]
     have e4 : lim 5 i (-(heatF (pn ps i)).1) (lim i 5 (heatF (pn ps i)).2 m) = (m.set (i * 6 + 5) (heatF (pn ps i)).2).set (30 + i) (-(heatF (pn ps i)).1) := by
      unfold lim
      rw [if_pos (show (heatF (pn ps i)).2 < ent m i 5 by omega), if_pos]
      have e5 : ent (lim i 5 (heatF (pn ps i)).2 m) 5 i = 1048576 := by rw [ent_lim hl (by omega) (by omega) (by omega) (by omega), if_neg (by omega)]; exact hf2
      rw [e3] at e5
      rw [e5]; omega
     rw [e4, if_pos (d1 (by omega)), if_pos (dd (by omega) (by omega)), if_pos (dd (by omega) (by omega)), if_pos (by decide), if_pos (by decide), if_pos (dd (by omega) (by omega)), w_succ (by omega)]
     rw [← e2]
     rfl
   ·left
    have : i = ps.length := by omega
    subst this
    refine ⟨m, ?_, hm, trivial⟩
    show f55l2B N (f55l2 N q) ps (ps.length : Int) (ps.length : Int) m = _
    unfold f55l2B
    rw [if_neg (dn (by omega))]) N (0, init6) ⟨Nat.zero_le _, init_tells.congr fun t => ⟨fun h => ⟨h, fun p hp => absurd hp (Nat.not_lt_zero _)⟩, fun h => h.1⟩, fun c _ hc => ⟨by rw [init_ent (by omega) (by omega), if_neg (by omega)], by rw [init_ent (by omega) (by omega), if_neg (by omega)]⟩⟩ (by simp only; omega)
 have h1 : f55l2 N N ps (ps.length : Int) 0 init6 = some r := h1
 exact ⟨r, h1, h2⟩
theorem f55_ok (N : Nat) (ps : List Pt) (a b : Int) (e : List (Int × Int)) (hN : 100 ≤ N) (hn : ps.length ≤ 5) (hp : ∀ p ∈ ps, okPt p) : ∃ m', f55 N ps a b e = some m' ∧ Tells m' (fun t => Near t ∧ InSp heatF ps ps.length t) := by
 obtain ⟨m', h1, h2⟩ := f55l2_ok N ps hN hn hp
 refine ⟨m', ?_, h2⟩
 obtain ⟨M, rfl⟩ : ∃ M, N = M + 10 := ⟨N - 10, by omega⟩
 have h0 := f55l0_eq M ps a b e
 unfold zero6 at h0
 unfold f55
 rw [h0, andThen_some]
 simp only
 rw [h1]; rfl
theorem f85_ok (N : Nat) (ps : List Pt) (near give : Int) (e : List (Int × Int)) (pls : List (List (List Int))) (hN : 100 ≤ N) (hc : ColOk ps near give) (hl : pls.length ≤ 50) (hpl : ∀ pl ∈ pls, PlanOk ps.length pl) {m : List Int} {R : (Nat → Int) → Prop} (h : Tells m R) :
  ∃ m', f85 N 0 pls (ps, (near, (give, e))) m = some (0, pls, (ps, (near, (give, e))), m') ∧ Tells m' (fun t => R t ∧ ∀ i, i < pls.length → TieH near (pls.getD i []) t) := by
 have h5 := hc.n5
 obtain ⟨m', h1, h2⟩ := acc_loop (fun q i m => f85l0 N q pls (pls.length : Int) (i : Int) 0 pls (ps, (near, (give, e))) m) pls.length (fun i t => TieH near (pls.getD i []) t) (fun m' => .inr (0, pls, (ps, (near, (give, e))), m')) (fun q i m R0 hi hm => by
  have hpi := hpl _ (getD_mem (d := []) hi)
  obtain ⟨m', e1, e2⟩ := f67a_ok N ps near give e hc.near0 hc.near1 hN (pls.getD i []) (by have := hpi.len; omega) (fun r hr => ⟨by have := (hpi.rd r hr).len; omega, fun c hcc => by have := (hpi.rd r hr).mem c hcc; unfold inR; omega⟩) hm
  refine ⟨m', ?_, e2⟩
  show f85l0B N (f85l0 N q) pls (pls.length : Int) (i : Int) 0 pls (ps, (near, (give, e))) m = _
  unfold f85l0B f40
  simp only [Int.toNat_natCast, andThen_some]
  rw [if_pos (d1 (by omega)), if_pos (dd (by omega) (by omega)), e1, andThen_some]
  simp only
  rw [if_pos (by decide), w_succ (by omega)]) (fun q m => by
  show f85l0B N (f85l0 N q) pls (pls.length : Int) (pls.length : Int) 0 pls (ps, (near, (give, e))) m = _
  unfold f85l0B
  rw [if_neg (dn (by omega))]) N (by omega) h
 have h1 : f85l0 N N pls (pls.length : Int) 0 0 pls (ps, (near, (give, e))) m = some (.inr (0, pls, (ps, (near, (give, e))), m')) := h1
 refine ⟨m', ?_, h2⟩
 unfold f85
 rw [h1]; rfl
theorem f56l2_eq (N : Nat) (k a : Nat) (x2 x3 : Int) (m x6 : List Int) (x7 : List (List (List Int))) (x8 : Wk) (hk : k < 6) (ha : a < 6) (hN : 6 < N) : f56l2 N N k a x2 x3 0 m x6 x7 x8 = some ((k : Int), x2, x3, row k a 6 m, x6, x7, x8) := by
 obtain ⟨r, h1, h2⟩ := loop_run (fun q (b : Nat) => f56l2 N q k a x2 x3 b (row k a b m) x6 x7 x8) (fun b => b ≤ 6) (fun b => 6 - b) (fun r => r = ((k : Int), x2, x3, row k a 6 m, x6, x7, x8)) (fun q b hb => by
  by_cases h : b < 6
  ·right
   refine ⟨b + 1, h, by omega, ?_⟩
   show f56l2B N (f56l2 N q) k a x2 x3 b (row k a b m) x6 x7 x8 = _
   unfold f56l2B
   simp only [show ((b : Int) < 6) by omega, show ((a : Int) < 6) by omega, show ((k : Int) < 6) by omega, Int.natCast_nonneg, decide_true, Bool.and_true, if_true, Nat.zero_add, Nat.mul_one, Int.toNat_natCast, w_succ (show b < 4611686018427387904 by omega)]
   rw [row_succ]
   rfl
  ·left
   have : b = 6 := by omega
   subst this
   refine ⟨_, ?_, rfl⟩
   show f56l2B N (f56l2 N q) k a x2 x3 ((6 : Nat) : Int) (row k a 6 m) x6 x7 x8 = _
   unfold f56l2B
   exact if_neg (by decide)) N 0 (by omega) (by omega)
 rw [h2] at h1
 exact h1
theorem f56l1_eq (N : Nat) (k : Nat) (x1 : Int) (m x6 : List Int) (x7 : List (List (List Int))) (x8 : Wk) (hk : k < 6) (hN : 6 < N) : f56l1 N N k x1 0 m x6 x7 x8 = some (x1, stage k 6 m, x6, x7, x8) := by
 obtain ⟨r, h1, h2⟩ := loop_run (fun q (a : Nat) => f56l1 N q k x1 a (stage k a m) x6 x7 x8) (fun b => b ≤ 6) (fun b => 6 - b) (fun r => r = (x1, stage k 6 m, x6, x7, x8)) (fun q a hb => by
  by_cases h : a < 6
  ·right
   refine ⟨a + 1, h, by omega, ?_⟩
   show f56l1B N (f56l1 N q) k x1 a (stage k a m) x6 x7 x8 = _
   unfold f56l1B
   simp only [show ((a : Int) < 6) by omega, decide_true, if_true]
   rw [f56l2_eq N k a x1 a _ x6 x7 x8 hk h hN, andThen_some, stage_succ]
   simp only [w_succ (show a < 4611686018427387904 by omega)]
  ·left
   have : a = 6 := by omega
   subst this
   refine ⟨_, ?_, rfl⟩
   show f56l1B N (f56l1 N q) k x1 ((6 : Nat) : Int) (stage k 6 m) x6 x7 x8 = _
   unfold f56l1B
   exact if_neg (by decide)) N 0 (by omega) (by omega)
 rw [h2] at h1
 exact h1
theorem f56l0_eq (N : Nat) (m x6 : List Int) (x7 : List (List (List Int))) (x8 : Wk) (hN : 6 < N) : f56l0 N N 0 m x6 x7 x8 = some (fw 6 m, x6, x7, x8) := by
 obtain ⟨r, h1, h3⟩ := loop_run (fun q (a : Nat) => f56l0 N q a (fw a m) x6 x7 x8) (fun b => b ≤ 6) (fun b => 6 - b) (fun r => r = (fw 6 m, x6, x7, x8)) (fun q a hb => by
  by_cases h : a < 6
  ·right
   refine ⟨a + 1, h, by omega, ?_⟩
   show f56l0B N (f56l0 N q) a (fw a m) x6 x7 x8 = _
   unfold f56l0B
   simp only [show ((a : Int) < 6) by omega, decide_true, if_true]
   rw [f56l1_eq N a a _ x6 x7 x8 h hN, andThen_some, fw_succ]
   simp only [w_succ (show a < 4611686018427387904 by omega)]
  ·left
   have : a = 6 := by omega
   subst this
   refine ⟨_, ?_, rfl⟩
   show f56l0B N (f56l0 N q) ((6 : Nat) : Int) (fw 6 m) x6 x7 x8 = _
   unfold f56l0B
   exact if_neg (by decide)) N 0 (by omega) (by omega)
 rw [h3] at h1
 exact h1
theorem f56l3_eq (N : Nat) (m' x6 : List Int) (x7 : List (List (List Int))) (x8 : Wk) (hN : 6 < N) : ∃ r, f56l3 N N 0 m' x6 x7 x8 = some r ∧ ((r = .inl (false, m', x7, x8) ∧ ¬ ∀ a, a < 6 → 0 ≤ ent m' a a) ∨ (r = .inr (m', x6, x7, x8) ∧ ∀ a, a < 6 → 0 ≤ ent m' a a)) := by
 obtain ⟨r, h1, h2⟩ := loop_run (fun q (a : Nat) => f56l3 N q a m' x6 x7 x8) (fun b => b ≤ 6 ∧ ∀ a, a < b → 0 ≤ ent m' a a) (fun b => 6 - b) (fun r => (r = .inl (false, m', x7, x8) ∧ ¬ ∀ a, a < 6 → 0 ≤ ent m' a a) ∨ (r = .inr (m', x6, x7, x8) ∧ ∀ a, a < 6 → 0 ≤ ent m' a a)) (fun q a hb => by
  obtain ⟨hb, hd⟩ := hb
  by_cases h : a < 6
  ·by_cases hn : ent m' a a < 0
   ·left
    refine ⟨.inl (false, m', x7, x8), ?_, .inl ⟨rfl, fun h' => by have := h' a h; omega⟩⟩
    show f56l3B N (f56l3 N q) a m' x6 x7 x8 = _
    unfold f56l3B
    simp only [show ((a : Int) < 6) by omega, Int.natCast_nonneg, decide_true, Bool.and_true, if_true, Nat.zero_add, Nat.mul_one, Int.toNat_natCast]
    exact if_pos (decide_eq_true hn)
   ·right
    refine ⟨a + 1, ⟨h, fun c hc => ?_⟩, by omega, ?_⟩
    ·rcases Nat.lt_or_ge c a with h' | h'
     ·exact hd c h'
     ·have : c = a := by omega
      subst this; omega
    ·show f56l3B N (f56l3 N q) a m' x6 x7 x8 = _
     unfold f56l3B
     simp only [show ((a : Int) < 6) by omega, Int.natCast_nonneg, decide_true, Bool.and_true, if_true, Nat.zero_add, Nat.mul_one, Int.toNat_natCast, w_succ (show a < 4611686018427387904 by omega)]
     exact if_neg fun h => hn (of_decide_eq_true h)
  ·left
   have : a = 6 := by omega
   subst this
   refine ⟨_, ?_, .inr ⟨rfl, hd⟩⟩
   show f56l3B N (f56l3 N q) ((6 : Nat) : Int) m' x6 x7 x8 = _
   unfold f56l3B
   exact if_neg (by decide)) N 0 ⟨by omega, fun a ha => absurd ha (Nat.not_lt_zero _)⟩ (by omega)
 exact ⟨r, h1, h2⟩
theorem f56_ok (N : Nat) (ps : List Pt) (near give : Int) (e : List (Int × Int)) (pls : List (List (List Int))) (hN : 100 ≤ N) (hc : ColOk ps near give) (hl : pls.length ≤ 50) (hpl : ∀ pl ∈ pls, PlanOk ps.length pl) {m : List Int} {R : (Nat → Int) → Prop} (h : Tells m R) :
  ∃ ok D, f56 N m pls (ps, (near, (give, e))) = some (D, ok, pls, (ps, (near, (give, e)))) ∧ WebOk (fun t => R t ∧ ∀ i, i < pls.length → TieH near (pls.getD i []) t) ok D := by
 obtain ⟨m', h1, h2⟩ := f85_ok N ps near give e pls hN hc hl hpl h
 unfold f56
 rw [h1, andThen_some]
 simp only
 rw [if_pos (by decide), f56l0_eq N m' _ _ _ (by omega), andThen_some]
 simp only
 obtain ⟨r, e1, e2⟩ := f56l3_eq N (fw 6 m') ([0, 0, 0, 0, 0, 0, 0, 0, 0, 0, 0, 0, 0, 0, 0, 0, 0, 0, 0, 0, 0, 0, 0, 0, 0, 0, 0, 0, 0, 0, 0, 0, 0, 0, 0, 0] : List Int) pls (ps, (near, (give, e))) (by omega)
 rw [e1, andThen_some]
 have hw : ∀ ok : Bool, (ok = true ↔ ∀ a, a < 6 → 0 ≤ ent (fw 6 m') a a) → WebOk _ ok (fw 6 m') := fun ok h => h2.web h
 generalize fw 6 m' = D at *
 rcases e2 with ⟨rfl, e3⟩ | ⟨rfl, e3⟩
 ·exact ⟨false, D, rfl, hw _ ⟨(fun h => by cases h), fun h => absurd h e3⟩⟩
 ·exact ⟨true, D, rfl, hw _ ⟨fun _ => e3, fun _ => rfl⟩⟩
theorem f55al0_eq (n : Nat) (ps : List Pt) (a b : Int) (e : List (Int × Int)) : f55al0 (n + 10) (n + 10) 0 ps a b e zero6 = some (ps, a, b, e, init6) := by kernel_rfl
theorem f55al2_ok (N : Nat) (ps : List Pt) (hN : 100 ≤ N) (hn : ps.length ≤ 5) (hp : ∀ p ∈ ps, okPt p) : ∃ m', f55al2 N N ps (ps.length : Int) 0 init6 = some m' ∧ Tells m' (fun t => Near t ∧ InSp stretF ps ps.length t) := by
 obtain ⟨r, h1, h2, _⟩ := loop_run (fun q (s : Nat × List Int) => f55al2 N q ps (ps.length : Int) (s.1 : Int) s.2) (fun s => s.1 ≤ ps.length ∧ Tells s.2 (fun t => Near t ∧ InSp stretF ps s.1 t) ∧ ∀ c, s.1 ≤ c → c < 5 → ent s.2 c 5 = 1048576 ∧ ent s.2 5 c = 1048576) (fun s => ps.length - s.1)
  (fun r => Tells r (fun t => Near t ∧ InSp stretF ps ps.length t) ∧ True) (fun q s hs => by
   obtain ⟨i, m⟩ := s
   obtain ⟨hi, hm, hf⟩ := hs
   simp only at hi hm hf
   by_cases hlt : i < ps.length
   ·right
    have hb := okPt_stret (hp _ (getD_mem (d := p0) hlt))
    have hb : 0 ≤ (stretF (pn ps i)).1 ∧ (stretF (pn ps i)).1 ≤ (stretF (pn ps i)).2 ∧ (stretF (pn ps i)).2 ≤ 1000 := hb
    obtain ⟨hf1, hf2⟩ := hf i (Nat.le_refl _) (by omega)
    have hl := hm.1.1
    have hl1 : (lim i 5 (stretF (pn ps i)).2 m).length = 36 := by simp [hl]
    refine ⟨(i + 1, lim 5 i (-(stretF (pn ps i)).1) (lim i 5 (stretF (pn ps i)).2 m)), ⟨hlt, ⟨fine_lim (fine_lim hm.1 (by omega) (by omega) (by omega) (by omega)) (by omega) (by omega) (by omega) (by omega), fun t => ?_⟩, fun c hc hc5 => ?_⟩, by simp only; omega, ?_⟩
    ·rw [sat_lim hl1 (by omega) (by omega), sat_lim hl (by omega) (by omega), hm.2 t]
     constructor
     ·rintro ⟨⟨⟨a, b⟩, c⟩, d⟩
      refine ⟨a, fun p hpp => ?_⟩
      rcases Nat.lt_or_ge p i with h | h
      ·exact b p h
      ·have : p = i := by simp only at hpp; omega
       subst this; omega
     ·rintro ⟨a, b⟩
      have := b i (by simp only; omega)
      exact ⟨⟨⟨a, fun p hpp => b p (by simp only; omega)⟩, by omega⟩, by omega⟩
    ·simp only at hc
     have := hf c (by omega) hc5
     rw [ent_lim hl1 (by omega) (by omega) (by omega) (by omega), ent_lim hl1 (by omega) (by omega) (by omega) (by omega), if_neg (by omega), if_neg (by omega), ent_lim hl (by omega) (by omega) (by omega) (by omega), ent_lim hl (by omega) (by omega) (by omega) (by omega), if_neg (by omega), if_neg (by omega)]
     exact this
    ·show f55al2B N (f55al2 N q) ps (ps.length : Int) (i : Int) m = f55al2 N q ps (ps.length : Int) ((i + 1 : Nat) : Int) _
     unfold f55al2B f44
     simp only [andThen_some, Int.toNat_natCast, Nat.mul_one, Nat.zero_add]
     have e2 : Go.IntKind.wrap .i64 (0 - (stretF (pn ps i)).1) = -(stretF (pn ps i)).1 := by rw [w64_id (by omega) (by omega)]; omega
     have e3 : lim i 5 (stretF (pn ps i)).2 m = m.set (i * 6 + 5) (stretF (pn ps i)).2 := by unfold lim; rw [if_pos (by omega)]
     have e4 : lim 5 i (-(stretF (pn ps i)).1) (lim i 5 (stretF (pn ps i)).2 m) = (m.set (i * 6 + 5) (stretF (pn ps i)).2).set (30 + i) (-(stretF (pn ps i)).1) := by
      unfold lim
      rw [if_pos (show (stretF (pn ps i)).2 < ent m i 5 by omega), if_pos]
      have e5 : ent (lim i 5 (stretF (pn ps i)).2 m) 5 i = 1048576 := by rw [ent_lim hl (by omega) (by omega) (by omega) (by omega), if_neg (by omega)]; exact hf2
      rw [e3] at e5
      rw [e5]; omega
     rw [e4, if_pos (d1 (by omega)), if_pos (dd (by omega) (by omega)), if_pos (dd (by omega) (by omega)), if_pos (by decide), if_pos (by decide), if_pos (dd (by omega) (by omega)), w_succ (by omega)]
     rw [← e2]
     rfl
   ·left
    have : i = ps.length := by omega
    subst this
    refine ⟨m, ?_, hm, trivial⟩
    show f55al2B N (f55al2 N q) ps (ps.length : Int) (ps.length : Int) m = _
    unfold f55al2B
    rw [if_neg (dn (by omega))]) N (0, init6) ⟨Nat.zero_le _, init_tells.congr fun t => ⟨fun h => ⟨h, fun p hp => absurd hp (Nat.not_lt_zero _)⟩, fun h => h.1⟩, fun c _ hc => ⟨by rw [init_ent (by omega) (by omega), if_neg (by omega)], by rw [init_ent (by omega) (by omega), if_neg (by omega)]⟩⟩ (by simp only; omega)
 have h1 : f55al2 N N ps (ps.length : Int) 0 init6 = some r := h1
 exact ⟨r, h1, h2⟩
theorem f55a_ok (N : Nat) (ps : List Pt) (a b : Int) (e : List (Int × Int)) (hN : 100 ≤ N) (hn : ps.length ≤ 5) (hp : ∀ p ∈ ps, okPt p) : ∃ m', f55a N ps a b e = some m' ∧ Tells m' (fun t => Near t ∧ InSp stretF ps ps.length t) := by
 obtain ⟨m', h1, h2⟩ := f55al2_ok N ps hN hn hp
 refine ⟨m', ?_, h2⟩
 obtain ⟨M, rfl⟩ : ∃ M, N = M + 10 := ⟨N - 10, by omega⟩
 have h0 := f55al0_eq M ps a b e
 unfold zero6 at h0
 unfold f55a
 rw [h0, andThen_some]
 simp only
 rw [h1]; rfl
theorem f85a_ok (N : Nat) (ps : List Pt) (near give : Int) (e : List (Int × Int)) (pls : List (List (List Int))) (hN : 100 ≤ N) (hc : ColOk ps near give) (hl : pls.length ≤ 50) (hpl : ∀ pl ∈ pls, PlanOk ps.length pl) {m : List Int} {R : (Nat → Int) → Prop} (h : Tells m R) :
  ∃ m', f85a N 0 pls (ps, (near, (give, e))) m = some (0, pls, (ps, (near, (give, e))), m') ∧ Tells m' (fun t => R t ∧ ∀ i, i < pls.length → TieS give (pls.getD i []) t) := by
 have h5 := hc.n5
 obtain ⟨m', h1, h2⟩ := acc_loop (fun q i m => f85al0 N q pls (pls.length : Int) (i : Int) 0 pls (ps, (near, (give, e))) m) pls.length (fun i t => TieS give (pls.getD i []) t) (fun m' => .inr (0, pls, (ps, (near, (give, e))), m')) (fun q i m R0 hi hm => by
  have hpi := hpl _ (getD_mem (d := []) hi)
  obtain ⟨m', e1, e2⟩ := f68a_ok N ps near give e hc.give0 hc.give1 hN (pls.getD i []) (by have := hpi.len; omega) (fun r hr => ⟨by have := (hpi.rd r hr).len; omega, fun c hcc => by have := (hpi.rd r hr).mem c hcc; unfold inR; omega⟩) hm
  refine ⟨m', ?_, e2⟩
  show f85al0B N (f85al0 N q) pls (pls.length : Int) (i : Int) 0 pls (ps, (near, (give, e))) m = _
  unfold f85al0B f43
  simp only [Int.toNat_natCast, andThen_some]
  rw [if_pos (d1 (by omega)), if_pos (dd (by omega) (by omega)), e1, andThen_some]
  simp only
  rw [if_pos (by decide), w_succ (by omega)]) (fun q m => by
  show f85al0B N (f85al0 N q) pls (pls.length : Int) (pls.length : Int) 0 pls (ps, (near, (give, e))) m = _
  unfold f85al0B
  rw [if_neg (dn (by omega))]) N (by omega) h
 have h1 : f85al0 N N pls (pls.length : Int) 0 0 pls (ps, (near, (give, e))) m = some (.inr (0, pls, (ps, (near, (give, e))), m')) := h1
 refine ⟨m', ?_, h2⟩
 unfold f85a
 rw [h1]; rfl
theorem f56al2_eq (N : Nat) (k a : Nat) (x2 x3 : Int) (m x6 : List Int) (x7 : List (List (List Int))) (x8 : Wk) (hk : k < 6) (ha : a < 6) (hN : 6 < N) : f56al2 N N k a x2 x3 0 m x6 x7 x8 = some ((k : Int), x2, x3, row k a 6 m, x6, x7, x8) := by
 obtain ⟨r, h1, h2⟩ := loop_run (fun q (b : Nat) => f56al2 N q k a x2 x3 b (row k a b m) x6 x7 x8) (fun b => b ≤ 6) (fun b => 6 - b) (fun r => r = ((k : Int), x2, x3, row k a 6 m, x6, x7, x8)) (fun q b hb => by
  by_cases h : b < 6
  ·right
   refine ⟨b + 1, h, by omega, ?_⟩
   show f56al2B N (f56al2 N q) k a x2 x3 b (row k a b m) x6 x7 x8 = _
   unfold f56al2B
   simp only [show ((b : Int) < 6) by omega, show ((a : Int) < 6) by omega, show ((k : Int) < 6) by omega, Int.natCast_nonneg, decide_true, Bool.and_true, if_true, Nat.zero_add, Nat.mul_one, Int.toNat_natCast, w_succ (show b < 4611686018427387904 by omega)]
   rw [row_succ]
   rfl
  ·left
   have : b = 6 := by omega
   subst this
   refine ⟨_, ?_, rfl⟩
   show f56al2B N (f56al2 N q) k a x2 x3 ((6 : Nat) : Int) (row k a 6 m) x6 x7 x8 = _
   unfold f56al2B
   exact if_neg (by decide)) N 0 (by omega) (by omega)
 rw [h2] at h1
 exact h1
theorem f56al1_eq (N : Nat) (k : Nat) (x1 : Int) (m x6 : List Int) (x7 : List (List (List Int))) (x8 : Wk) (hk : k < 6) (hN : 6 < N) : f56al1 N N k x1 0 m x6 x7 x8 = some (x1, stage k 6 m, x6, x7, x8) := by
 obtain ⟨r, h1, h2⟩ := loop_run (fun q (a : Nat) => f56al1 N q k x1 a (stage k a m) x6 x7 x8) (fun b => b ≤ 6) (fun b => 6 - b) (fun r => r = (x1, stage k 6 m, x6, x7, x8)) (fun q a hb => by
  by_cases h : a < 6
  ·right
   refine ⟨a + 1, h, by omega, ?_⟩
   show f56al1B N (f56al1 N q) k x1 a (stage k a m) x6 x7 x8 = _
   unfold f56al1B
   simp only [show ((a : Int) < 6) by omega, decide_true, if_true]
   rw [f56al2_eq N k a x1 a _ x6 x7 x8 hk h hN, andThen_some, stage_succ]
   simp only [w_succ (show a < 4611686018427387904 by omega)]
  ·left
   have : a = 6 := by omega
   subst this
   refine ⟨_, ?_, rfl⟩
   show f56al1B N (f56al1 N q) k x1 ((6 : Nat) : Int) (stage k 6 m) x6 x7 x8 = _
   unfold f56al1B
   exact if_neg (by decide)) N 0 (by omega) (by omega)
 rw [h2] at h1
 exact h1
theorem f56al0_eq (N : Nat) (m x6 : List Int) (x7 : List (List (List Int))) (x8 : Wk) (hN : 6 < N) : f56al0 N N 0 m x6 x7 x8 = some (fw 6 m, x6, x7, x8) := by
 obtain ⟨r, h1, h3⟩ := loop_run (fun q (a : Nat) => f56al0 N q a (fw a m) x6 x7 x8) (fun b => b ≤ 6) (fun b => 6 - b) (fun r => r = (fw 6 m, x6, x7, x8)) (fun q a hb => by
  by_cases h : a < 6
  ·right
   refine ⟨a + 1, h, by omega, ?_⟩
   show f56al0B N (f56al0 N q) a (fw a m) x6 x7 x8 = _
   unfold f56al0B
   simp only [show ((a : Int) < 6) by omega, decide_true, if_true]
   rw [f56al1_eq N a a _ x6 x7 x8 h hN, andThen_some, fw_succ]
   simp only [w_succ (show a < 4611686018427387904 by omega)]
  ·left
   have : a = 6 := by omega
   subst this
   refine ⟨_, ?_, rfl⟩
   show f56al0B N (f56al0 N q) ((6 : Nat) : Int) (fw 6 m) x6 x7 x8 = _
   unfold f56al0B
   exact if_neg (by decide)) N 0 (by omega) (by omega)
 rw [h3] at h1
 exact h1
theorem f56al3_eq (N : Nat) (m' x6 : List Int) (x7 : List (List (List Int))) (x8 : Wk) (hN : 6 < N) : ∃ r, f56al3 N N 0 m' x6 x7 x8 = some r ∧ ((r = .inl (false, m', x7, x8) ∧ ¬ ∀ a, a < 6 → 0 ≤ ent m' a a) ∨ (r = .inr (m', x6, x7, x8) ∧ ∀ a, a < 6 → 0 ≤ ent m' a a)) := by
 obtain ⟨r, h1, h2⟩ := loop_run (fun q (a : Nat) => f56al3 N q a m' x6 x7 x8) (fun b => b ≤ 6 ∧ ∀ a, a < b → 0 ≤ ent m' a a) (fun b => 6 - b) (fun r => (r = .inl (false, m', x7, x8) ∧ ¬ ∀ a, a < 6 → 0 ≤ ent m' a a) ∨ (r = .inr (m', x6, x7, x8) ∧ ∀ a, a < 6 → 0 ≤ ent m' a a)) (fun q a hb => by
  obtain ⟨hb, hd⟩ := hb
  by_cases h : a < 6
  ·by_cases hn : ent m' a a < 0
   ·left
    refine ⟨.inl (false, m', x7, x8), ?_, .inl ⟨rfl, fun h' => by have := h' a h; omega⟩⟩
    show f56al3B N (f56al3 N q) a m' x6 x7 x8 = _
    unfold f56al3B
    simp only [show ((a : Int) < 6) by omega, Int.natCast_nonneg, decide_true, Bool.and_true, if_true, Nat.zero_add, Nat.mul_one, Int.toNat_natCast]
    exact if_pos (decide_eq_true hn)
   ·right
    refine ⟨a + 1, ⟨h, fun c hc => ?_⟩, by omega, ?_⟩
    ·rcases Nat.lt_or_ge c a with h' | h'
     ·exact hd c h'
     ·have : c = a := by omega
      subst this; omega
    ·show f56al3B N (f56al3 N q) a m' x6 x7 x8 = _
     unfold f56al3B
     simp only [show ((a : Int) < 6) by omega, Int.natCast_nonneg, decide_true, Bool.and_true, if_true, Nat.zero_add, Nat.mul_one, Int.toNat_natCast, w_succ (show a < 4611686018427387904 by omega)]
     exact if_neg fun h => hn (of_decide_eq_true h)
  ·left
   have : a = 6 := by omega
   subst this
   refine ⟨_, ?_, .inr ⟨rfl, hd⟩⟩
   show f56al3B N (f56al3 N q) ((6 : Nat) : Int) m' x6 x7 x8 = _
   unfold f56al3B
   exact if_neg (by decide)) N 0 ⟨by omega, fun a ha => absurd ha (Nat.not_lt_zero _)⟩ (by omega)
 exact ⟨r, h1, h2⟩
theorem f56a_ok (N : Nat) (ps : List Pt) (near give : Int) (e : List (Int × Int)) (pls : List (List (List Int))) (hN : 100 ≤ N) (hc : ColOk ps near give) (hl : pls.length ≤ 50) (hpl : ∀ pl ∈ pls, PlanOk ps.length pl) {m : List Int} {R : (Nat → Int) → Prop} (h : Tells m R) :
  ∃ ok D, f56a N m pls (ps, (near, (give, e))) = some (D, ok, pls, (ps, (near, (give, e)))) ∧ WebOk (fun t => R t ∧ ∀ i, i < pls.length → TieS give (pls.getD i []) t) ok D := by
 obtain ⟨m', h1, h2⟩ := f85a_ok N ps near give e pls hN hc hl hpl h
 unfold f56a
 rw [h1, andThen_some]
 simp only
 rw [if_pos (by decide), f56al0_eq N m' _ _ _ (by omega), andThen_some]
 simp only
 obtain ⟨r, e1, e2⟩ := f56al3_eq N (fw 6 m') ([0, 0, 0, 0, 0, 0, 0, 0, 0, 0, 0, 0, 0, 0, 0, 0, 0, 0, 0, 0, 0, 0, 0, 0, 0, 0, 0, 0, 0, 0, 0, 0, 0, 0, 0, 0] : List Int) pls (ps, (near, (give, e))) (by omega)
 rw [e1, andThen_some]
 have hw : ∀ ok : Bool, (ok = true ↔ ∀ a, a < 6 → 0 ≤ ent (fw 6 m') a a) → WebOk _ ok (fw 6 m') := fun ok h => h2.web h
 generalize fw 6 m' = D at *
 rcases e2 with ⟨rfl, e3⟩ | ⟨rfl, e3⟩
 ·exact ⟨false, D, rfl, hw _ ⟨(fun h => by cases h), fun h => absurd h e3⟩⟩
 ·exact ⟨true, D, rfl, hw _ ⟨fun _ => e3, fun _ => rfl⟩⟩
theorem f37a_ok (N : Nat) (ps : List Pt) (near give : Int) (pls : List (List (List Int))) (hN : 100 ≤ N) (hc : ColOk ps near give) (hl : pls.length ≤ 50) (hpl : ∀ pl ∈ pls, PlanOk ps.length pl) (hm : ∀ pl ∈ pls, ∀ p ∈ ps, 3 * (pl.length : Int) ≤ p.2.2.2) :
  f37a N pls ps near give [] = some (false, ps, near, give, []) := by
 unfold f37a f65a
 have hL := loop_all (fun q i => f65al0 N q pls (pls.length : Int) (i : Int) ps near give []) pls.length (.inr (ps, near, give, [])) (fun q i hi => by
  have hpi := hpl _ (getD_mem (d := []) hi)
  show f65al0B N (f65al0 N q) pls (pls.length : Int) (i : Int) ps near give [] = _
  unfold f65al0B f54
  simp only [Int.toNat_natCast]
  rw [if_pos (d1 (by omega)), if_pos (dd (by omega) (by omega)), f45_ok N ps near give _ hN hc.pt hc.n5 (by have := hpi.len; omega) hpi.rds (hm _ (getD_mem hi)), andThen_some, andThen_some]
  simp only
  rw [if_neg (by decide), w_succ (by omega)]) (fun q => by
  show f65al0B N (f65al0 N q) pls (pls.length : Int) (pls.length : Int) ps near give [] = _
  unfold f65al0B
  rw [if_neg (dn (by omega))]) N (by omega)
 have hL : f65al0 N N pls (pls.length : Int) 0 ps near give [] = some (.inr (ps, near, give, [])) := hL
 rw [hL]; rfl
def TH (ps : List Pt) (near : Int) (pls : List (List (List Int))) (t : Nat → Int) : Prop := (Near t ∧ InSp heatF ps ps.length t) ∧ ∀ i, i < pls.length → TieH near (pls.getD i []) t
def TS (ps : List Pt) (give : Int) (pls : List (List (List Int))) (t : Nat → Int) : Prop := (Near t ∧ InSp stretF ps ps.length t) ∧ ∀ i, i < pls.length → TieS give (pls.getD i []) t
theorem WebOk.bd {T : (Nat → Int) → Prop} {D : List Int} (h : WebOk T true D) (hT : ∀ t, T t → Near t) : ∀ c, c < 6 → -100000000 ≤ ent D 5 c ∧ ent D 5 c ≤ 100000000 := fun c hc => by
 obtain ⟨a, b⟩ := h.att rfl 5 (by omega)
 have h1 := hT _ a 5 c (by omega) hc
 have h2 := hT _ a c 5 hc (by omega)
 omega
theorem f31_ok (N : Nat) (ps : List Pt) (near give : Int) (pls : List (List (List Int))) (hN : 100 ≤ N) (hc : ColOk ps near give) (hl : pls.length ≤ 50) (hpl : ∀ pl ∈ pls, PlanOk ps.length pl) (hm : ∀ pl ∈ pls, ∀ p ∈ ps, 3 * (pl.length : Int) ≤ p.2.2.2) :
  ∃ ok D ok' D', f31 N ps near give [] pls = some (if ok = true ∧ ok' = true then (spanL D ps.length, spanL D' ps.length, true) else ([], [], false)) ∧ WebOk (TH ps near pls) ok D ∧ WebOk (TS ps give pls) ok' D' := by
 have h5 := hc.n5
 obtain ⟨m, a1, a2⟩ := f55_ok N ps near give [] hN h5 hc.pt
 obtain ⟨m', b1, b2⟩ := f55a_ok N ps near give [] hN h5 hc.pt
 obtain ⟨ok, D, c1, c2⟩ := f56_ok N ps near give [] pls hN hc hl hpl a2
 obtain ⟨ok', D', e1, e2⟩ := f56a_ok N ps near give [] pls hN hc hl hpl b2
 refine ⟨ok, D, ok', D', ?_, c2, e2⟩
 unfold f31 f57 f57a
 rw [f37a_ok N ps near give pls hN hc hl hpl hm, andThen_some]
 simp only
 rw [if_neg (by decide), a1, andThen_some, andThen_some]
 simp only
 rw [c1, andThen_some, b1, andThen_some, andThen_some]
 simp only
 rw [e1, andThen_some]
 simp only
 cases ok with
 | false => rw [if_neg (by decide), if_neg (by simp)]
 | true =>
  rw [if_pos (by decide)]
  cases ok' with
  | false => rw [if_pos (by decide), if_neg (by simp)]
  | true =>
   rw [if_neg (by decide), f58_eq N D ps.length hN h5 (fun c hc => c2.bd (fun t ht => ht.1.1) c (by omega)), andThen_some, f58_eq N D' ps.length hN h5 (fun c hc => e2.bd (fun t ht => ht.1.1) c (by omega)), andThen_some, if_pos ⟨rfl, rfl⟩]
end Go.Pl


namespace Go.Pl
open Go.Al Go.Proofs
theorem known_ok : f13 50000 = some true := by kernel_rfl
end Go.Pl


namespace Go.Proofs.Ytnkopbhjflcbgaa
open Go.ChangeShapes Go.WideShapes Go.ChangeAt Go.RowKit Go.Al
theorem own : ownKnob Try.prog.godebug = none := by kernel_rfl
theorem laidOut : laidOutB Try.prog = true := by kernel_rfl
abbrev Q0 : Ty := .pair (.int .u8) (.int .u8)
abbrev Q1 : Ty := .pair (.int .u8) Q0
abbrev Q2 : Ty := .pair (.int .u16) (.int .u16)
abbrev Q3 : Ty := .pair Q0 Q0
abbrev Q4 : Ty := .pair Q0 Q3
abbrev Q5 : Ty := .pair Q0 Q4
end Go.Proofs.Ytnkopbhjflcbgaa


namespace Go.Proofs.Ytnkopbhjflcbgaa
open Go.ChangeShapes Go.WideShapes Go.ChangeAt Go.RowKit Go.Al
def Pure4 : Prop := ∀ (x0 : den Q2) (x1 : den Q0) (x2 : Int), GoodD Q2 x0 → GoodD Q0 x1 → (Lit.int .u8 x2).wf = true → ∃ N, f4 N x0.1 x0.2 x1.1 x1.2 x2 = some true
set_option maxRecDepth 100000 in
theorem lifted4 (pure : Pure4) (os : Os) (started : os.Started) (H : Type) (enc : TypeId × Value → H) :
  ReturnsInHanded {} Try.checked os 4 .any (Rows.topPairHeatsSpec.pre6 enc Try.prog Try.f4 Rows.topPairHeatsRow.domain false) (Rows.topPairHeatsSpec.post enc Try.prog Try.f4 false true false false) := by
 refine returnsInHanded_of_change (C := Try.checked) own started (by kernel_rfl) Try.func4
  (ChangeSpec.witness6 (enc := enc) (C := Try.checked) false ⟨#[], #[.agg #[.int .u16 0, .int .u16 0], .agg #[.int .u8 0, .int .u8 0], .int .u8 0], []⟩ 8 (by kernel_rfl) (by kernel_rfl) (by kernel_rfl) (by kernel_rfl)) ?_
 intro W base args ds gs before hval0 hW hcnd _
 have hval : ∀ (j : Nat) t v, Try.f4.params[j]? = some t → args[j]? = some v → Value.okWide Try.prog W .any base t v := hval0
 have hW' := hW
 obtain ⟨p, q, hA0, hV, rfl, hfz, hnd⟩ := hW
 have hA : DataW.TrodAll enc Try.prog W 0 (fun _ => true) true Try.f4.params.toList args.toList ds p := hA0
 rw [show Try.f4.params.toList = [56, 57, 5] by kernel_rfl] at hA
 obtain ⟨v0, vs0, d0, ds0, p0, q0, hargs, rfl, rfl, h0, r0⟩ := trodAll_cons hA
 obtain ⟨v1, vs1, d1, ds1, p1, q1, rfl, rfl, rfl, h1, r1⟩ := trodAll_cons r0
 obtain ⟨v2, vs2, d2, ds2, p2, q2, rfl, rfl, rfl, h2, r2⟩ := trodAll_cons r1
 obtain ⟨rfl, rfl, rfl⟩ := trodAll_nil r2
 obtain rfl : args = #[v0, v1, v2] := by cases args; simp_all
 obtain ⟨rfl, rfl⟩ := trodVars_none hV
 obtain ⟨x0, g0, c0⟩ := arg_agg (ω := fun _ => 0) (γ := fun _ => 0) (κ := fun _ => 0) (by kernel_rfl) 20 Q2 (by kernel_rfl) (hval 0 56 v0 (by kernel_rfl) rfl) h0
 obtain ⟨x1, g1, c1⟩ := arg_agg (ω := fun _ => 0) (γ := fun _ => 0) (κ := fun _ => 0) (by kernel_rfl) 20 Q0 (by kernel_rfl) (hval 1 57 v1 (by kernel_rfl) rfl) h1
 obtain ⟨x2, g2, c2⟩ := arg_int (ω := fun _ => 0) (γ := fun _ => 0) (κ := fun _ => 0) (k := .u8) (by kernel_rfl) (hval 2 5 v2 (by kernel_rfl) rfl) h2
 obtain ⟨N, hN⟩ := pure x0 x1 x2 g0 g1 g2
 have key := law_calls (W := W) (f4ok N) (by kernel_rfl) (ins := [.agg (cellsT Q2 x0), .agg (cellsT Q0 x1), .one (.int .u8 x2)]) (cargs := [v0, v1, v2]) (mres := [])
  (show andThen (f4 N x0.1 x0.2 x1.1 x1.2 x2) (fun y => some (AV.a (.one (.bool y)), ([] : Mem))) = _ by rw [hN]; rfl) (.cons c0 (.cons c1 (.cons c2 .nil)))
 refine key.mono fun e W' ⟨he, bel⟩ => ?_
 subst he
 exact ⟨_, rfl, _, _, _, [], _, [], hW', trodAll_mk1 (shut_bool (by kernel_rfl) _), (trodAll_cons_mk (bel.trod laidOut (by kernel_rfl) (of_decide_eq_true (by kernel_rfl)) h0) (trodAll_cons_mk (bel.trod laidOut (by kernel_rfl) (of_decide_eq_true (by kernel_rfl)) h1) (trodAll_cons_mk (bel.trod laidOut (by kernel_rfl) (of_decide_eq_true (by kernel_rfl)) h2) trodAll_mk0))), rfl, bel.frame _, fun h => by cases h⟩
theorem row4 (pure : Pure4) : Rows.TopPairHeatsSaid :=
 OpenClaim.holds_of_wide 4 Try.f4 rfl rfl rfl rfl rfl rfl rfl ⟨rfl, rfl, rfl, rfl, rfl⟩ rfl rfl rfl rfl rfl (by kernel_rfl) Try.func4 (by kernel_rfl)
  (of_decide_eq_true (by kernel_rfl)) (by unfold Func.isWrapper; first | (rw [if_pos (by decide +kernel)]; kernel_rfl) | (rw [if_neg (by decide +kernel)]; exact ⟨rfl, rfl⟩))
  (fun os started H enc _ => lifted4 pure os started H enc)
end Go.Proofs.Ytnkopbhjflcbgaa


namespace Go.Pl
open Go.Al Go.Proofs
section
variable (lo0 lo1 w0 w1 n : Int)
def pairPs : List Pt := [((lo0, lo0 + w0), ((5, 9), (1, 3))), ((lo1, lo1 + w1), ((5, 9), (1, 3)))]
def pairHs : List Span := [(lo0, lo0 + w0), (lo1, lo1 + w1)]
def pairPr : List Pr := [(0, (1, n))]
def pl01 : List (List Int) := [[0, 1]]
structure Pair : Prop where
 a0 : 0 ≤ lo0
 a1 : lo0 ≤ 699
 b0 : 0 ≤ lo1
 b1 : lo1 ≤ 699
 c0 : 0 ≤ w0
 c1 : w0 ≤ 255
 d0 : 0 ≤ w1
 d1 : w1 ≤ 255
 n0 : 0 ≤ n
 n1 : n ≤ 100
def Two (x y : Int) : Prop := lo0 ≤ x ∧ x ≤ lo0 + w0 ∧ lo1 ≤ y ∧ y ≤ lo1 + w1 ∧ x - y ≤ n ∧ y - x ≤ n
variable {lo0 lo1 w0 w1 n}
theorem Pair.col (p : Pair lo0 lo1 w0 w1 n) : ColOk (pairPs lo0 lo1 w0 w1) n 10 := by
 have a := p.a0; have b := p.a1; have c := p.b0; have d := p.b1; have e := p.c0; have f := p.c1; have g := p.d0; have h := p.d1; have i := p.n0; have j := p.n1
 refine ⟨by simp [pairPs], by simp [pairPs], by omega, by omega, by omega, by omega, fun q hq => ?_⟩
 simp [pairPs] at hq
 rcases hq with rfl | rfl <;> (unfold okPt; simp only; omega)
theorem pl01_ok : PlanOk (pairPs lo0 lo1 w0 w1).length pl01 := by
 refine ⟨by simp [pl01], fun r hr => ?_, by simp [pl01]⟩
 simp [pl01] at hr; subst hr
 refine ⟨by simp, by simp, fun i hi => ?_, fun c hc => ?_⟩
 ·have : i = 0 := by simp at hi; omega
  subst this; decide
 ·simp at hc
  rcases hc with rfl | rfl <;> simp [pairPs]
theorem Pair.valid (p : Pair lo0 lo1 w0 w1 n) : Valid (pairHs lo0 lo1 w0 w1) (pairPr n) [] [] := by
 have a := p.a0; have b := p.a1; have c := p.b0; have d := p.b1; have e := p.c0; have f := p.c1; have g := p.d0; have h := p.d1; have i := p.n0; have j := p.n1
 refine ⟨by simp [pairHs], by simp [pairHs], fun s hs => ?_, by simp [pairPr], by simp, by simp, fun q hq => ?_, (fun q hq => by cases hq), (fun q hq => by cases hq)⟩
 ·simp [pairHs] at hs
  rcases hs with rfl | rfl <;> (unfold okSp; simp only; omega)
 ·simp [pairPr] at hq; subst hq
  unfold okPr
  simp [pairHs]
  omega
theorem two_truth (t : Nat → Int) : TruthO (pairHs lo0 lo1 w0 w1) (pairPr n) [] [] t ↔ Two lo0 lo1 w0 w1 n (t 0) (t 1) := by
 constructor
 ·rintro ⟨h1, h2, _⟩
  have a := h1 0 (by simp [pairHs])
  have b := h1 1 (by simp [pairHs])
  have c := h2 (0, (1, n)) (by simp [pairPr])
  simp [pairHs, sp] at a b
  simp at c
  exact ⟨a.1, a.2, b.1, b.2, by omega, by omega⟩
 ·rintro ⟨h1, h2, h3, h4, h5, h6⟩
  refine ⟨fun p hp => ?_, fun q hq => ?_, fun x hx => by simp [nts] at hx⟩
  ·have : p = 0 ∨ p = 1 := by simp [pairHs] at hp; omega
   rcases this with rfl | rfl <;> simp [pairHs, sp] <;> omega
  ·simp [pairPr] at hq; subst hq
   simp
   omega
theorem two_web {t : Nat → Int} (h : TH (pairPs lo0 lo1 w0 w1) n [pl01] t) : Two lo0 lo1 w0 w1 n (t 5 - t 0) (t 5 - t 1) := by
 obtain ⟨⟨_, h1⟩, h2⟩ := h
 have a := h1 0 (by simp [pairPs])
 have b := h1 1 (by simp [pairPs])
 have c := h2 0 (by simp)
 have c1 := c 0 (by simp [pl01]) 0 (by omega) 0 (by simp [pl01]) 1 (by simp [pl01]) (by simp [pl01])
 have c2 := c 0 (by simp [pl01]) 0 (by omega) 1 (by simp [pl01]) 0 (by simp [pl01]) (by simp [pl01])
 simp [pairPs, pn, heatF] at a b
 simp [pl01] at c1 c2
 unfold Two
 omega
theorem web_two (p : Pair lo0 lo1 w0 w1 n) {x y : Int} (h : Two lo0 lo1 w0 w1 n x y) : TH (pairPs lo0 lo1 w0 w1) n [pl01] (fun b => if b = 0 then -x else if b = 1 then -y else 0) := by
 have a := p.a0; have b := p.a1; have c := p.b0; have d := p.b1; have e := p.c0; have f := p.c1; have g := p.d0; have h' := p.d1; have i := p.n0; have j := p.n1
 unfold Two at h
 refine ⟨⟨fun u v _ _ => ?_, fun q hq => ?_⟩, fun q hq => ?_⟩
 ·simp only
  split <;> split <;> (try split) <;> (try split) <;> omega
 ·have : q = 0 ∨ q = 1 := by simp [pairPs] at hq; omega
  rcases this with rfl | rfl <;> simp [pairPs, pn, heatF] <;> omega
 ·have : q = 0 := by simp at hq; exact hq
  subst this
  intro r hr k hk u hu v hv hne
  have hr0 : r = 0 := by simp [pl01] at hr; exact hr
  subst hr0
  have hk0 : k = 0 := by omega
  subst hk0
  have hu' : u = 0 ∨ u = 1 := by simp [pl01] at hu; omega
  have hv' : v = 0 ∨ v = 1 := by simp [pl01] at hv; omega
  rcases hu' with rfl | rfl <;> rcases hv' with rfl | rfl <;> simp [pl01] at hne ⊢ <;> omega
theorem str_truth : TS (pairPs lo0 lo1 w0 w1) 10 [pl01] (fun b => if b < 2 then -5 else 0) ∧ TS (pairPs lo0 lo1 w0 w1) 10 [pl01] (fun b => if b < 2 then -9 else 0) := by
 have key : ∀ z : Int, 5 ≤ z → z ≤ 9 → TS (pairPs lo0 lo1 w0 w1) 10 [pl01] (fun b => if b < 2 then -z else 0) := fun z h1 h2 => by
  refine ⟨⟨fun u v _ _ => ?_, fun q hq => ?_⟩, fun q hq => ?_⟩
  ·simp only
   split <;> split <;> omega
  ·have : q = 0 ∨ q = 1 := by simp [pairPs] at hq; omega
   rcases this with rfl | rfl <;> simp [pairPs, pn, stretF] <;> omega
  ·have : q = 0 := by simp at hq; exact hq
   subst this
   intro r hr
   simp [pl01] at hr
 exact ⟨key 5 (by omega) (by omega), key 9 (by omega) (by omega)⟩
theorem str_in {t : Nat → Int} (h : TS (pairPs lo0 lo1 w0 w1) 10 [pl01] t) : 5 ≤ t 5 - t 0 ∧ t 5 - t 0 ≤ 9 := by
 have a := h.1.2 0 (by simp [pairPs])
 simp [pairPs, pn, stretF] at a
 omega
theorem f14_pair (N : Nat) (hN : 1000 ≤ N) (p : Pair lo0 lo1 w0 w1 n) :
  ((¬ ∃ x y, Two lo0 lo1 w0 w1 n x y) ∧ f14 N (pairPs lo0 lo1 w0 w1) n 10 [] [pl01] = some ([], [], 9)) ∨
  (∃ D D', f14 N (pairPs lo0 lo1 w0 w1) n 10 [] [pl01] = some (spanL D 2, spanL D' 2, 0) ∧ WebOk (TH (pairPs lo0 lo1 w0 w1) n [pl01]) true D ∧ WebOk (TS (pairPs lo0 lo1 w0 w1) 10 [pl01]) true D') := by
 have hpl : ∀ pl ∈ [pl01], PlanOk (pairPs lo0 lo1 w0 w1).length pl := fun q hq => by simp at hq; subst hq; exact pl01_ok
 obtain ⟨ok, D, ok', D', e1, e2, e3⟩ := f31_ok N (pairPs lo0 lo1 w0 w1) n 10 [pl01] (by omega) p.col (by simp) hpl (fun q hq pt hpt => by
  simp at hq; subst hq
  simp [pairPs] at hpt
  rcases hpt with rfl | rfl <;> simp [pl01])
 have hok' : ok' = true := e3.iff.2 ⟨_, str_truth.1⟩
 subst hok'
 have h30 : f30 N (pairPs lo0 lo1 w0 w1) n 10 [] [pl01] = some (pairPs lo0 lo1 w0 w1, n, 10, [], 0) := by
  unfold f30
  rw [f20_ok N _ n 10 [] (by omega) p.col (by simp) (fun q hq => by cases hq), andThen_some]
  simp only
  rw [if_pos (by decide), if_neg (by simp), f20_ok N _ n 10 [pl01] (by omega) p.col (by simp) hpl, andThen_some]
 cases ok with
 | false =>
  left
  refine ⟨fun ⟨x, y, h⟩ => ?_, ?_⟩
  ·have := e2.iff.2 ⟨_, web_two p h⟩
   cases this
  ·rw [if_neg (by simp)] at e1
   unfold f14
   rw [h30, andThen_some]
   simp only
   rw [if_neg (by decide), e1, andThen_some]
   rfl
 | true =>
  right
  refine ⟨D, D', ?_, e2, e3⟩
  rw [if_pos ⟨rfl, rfl⟩] at e1
  unfold f14
  rw [h30, andThen_some]
  simp only
  rw [if_neg (by decide), e1, andThen_some]
  rfl
theorem span_eq {a b a' b' : Int} (h1 : a = a') (h2 : b = b') : (a, b) = (a', b') := by rw [h1, h2]
theorem f4_pair (hp : Pair lo0 lo1 w0 w1 n) {D : List Int} (hD : WebOk (TH (pairPs lo0 lo1 w0 w1) n [pl01]) true D) {m : List Int} (hm : Tight (pairHs lo0 lo1 w0 w1).length m (TruthO (pairHs lo0 lo1 w0 w1) (pairPr n) [] [])) {c : Nat} (hc : c < 2) :
  (spanL D 2).getD c ((0 : Int), (0 : Int)) = (spn (pairHs lo0 lo1 w0 w1).length m).getD c ((0 : Int), (0 : Int)) := by
 have hl : (pairHs lo0 lo1 w0 w1).length = 2 := rfl
 have e1 : (spanL D 2).getD c ((0 : Int), (0 : Int)) = (-ent D 5 c, ent D c 5) := by simp [spanL, List.getD_eq_getElem?_getD, hc]
 have e2 : (spn (pairHs lo0 lo1 w0 w1).length m).getD c ((0 : Int), (0 : Int)) = (-ent m c 5, ent m 5 c) := sp_spn (p := c) (by rw [hl]; exact hc)
 rw [e1, e2]
 -- of a truth of the colours one of the furnace, and back
 have fro : ∀ t, TH (pairPs lo0 lo1 w0 w1) n [pl01] t → TruthO (pairHs lo0 lo1 w0 w1) (pairPr n) [] [] (fun b => t 5 - t b) := fun t ht => (two_truth _).2 (two_web ht)
 have bak : ∀ s, TruthO (pairHs lo0 lo1 w0 w1) (pairPr n) [] [] s → TH (pairPs lo0 lo1 w0 w1) n [pl01] (fun b => if b = 0 then -s 0 else if b = 1 then -s 1 else 0) := fun s hs => web_two hp ((two_truth s).1 hs)
 have hz : ∀ t : Nat → Int, zt t c = t c ∧ zt t 5 = 0 := fun t => ⟨by unfold zt; rw [if_neg (by omega)], by unfold zt; rw [if_pos rfl]⟩
 have hval : ∀ s : Nat → Int, (if c = 0 then -s 0 else if c = 1 then -s 1 else 0) = -s c := fun s => by
  have : c = 0 ∨ c = 1 := by omega
  rcases this with rfl | rfl
  ·rw [if_pos rfl]
  ·rw [if_neg (by omega), if_pos rfl]
 refine span_eq ?_ ?_
 ·-- the least
  obtain ⟨a1, a2⟩ := hD.att rfl 5 (by omega)
  have b1 := hm.up _ (fro _ a1) c 5 (.inl (by rw [hl]; exact hc)) (.inr rfl)
  rw [(hz _).1, (hz _).2] at b1
  simp only [a2] at b1
  obtain ⟨s, c1, c2⟩ := hm.att c 5 (.inl (by rw [hl]; exact hc)) (.inr rfl)
  rw [(hz _).1, (hz _).2] at c2
  have d1 := hD.sat rfl _ (bak s c1) 5 c (by omega) (by omega)
  rw [hval] at d1
  simp at d1
  omega
 ·obtain ⟨a1, a2⟩ := hD.att rfl c (by omega)
  have b1 := hm.up _ (fro _ a1) 5 c (.inr rfl) (.inl (by rw [hl]; exact hc))
  rw [(hz _).1, (hz _).2] at b1
  simp only [a2] at b1
  obtain ⟨s, c1, c2⟩ := hm.att 5 c (.inr rfl) (.inl (by rw [hl]; exact hc))
  rw [(hz _).1, (hz _).2] at c2
  have d1 := hD.sat rfl _ (bak s c1) c 5 (by omega) (by omega)
  rw [hval] at d1
  simp at d1
  omega
end
theorem f4l0_ok (N : Nat) (n x0 x1 y0 y1 : Int) (hN : 100 ≤ N) (hx0 : 0 ≤ x0) (hx0' : x0 ≤ 65535) (hx1 : 0 ≤ x1) (hx1' : x1 ≤ 65535) (hy0 : 0 ≤ y0) (hy0' : y0 ≤ 255) (hy1 : 0 ≤ y1) (hy1' : y1 ≤ 255) :
  f4l0 N N n [] 0 [x0, x1] [y0, y1] [] n 10 [] = some (n, pairHs (x0 % 700) (x1 % 700) y0 y1, pairPs (x0 % 700) (x1 % 700) y0 y1, n, 10, []) := by
 obtain ⟨M, rfl⟩ : ∃ M, N = M + 3 := ⟨N - 3, by omega⟩
 have k : ∀ x y : Int, 0 ≤ x → x ≤ 65535 → 0 ≤ y → y ≤ 255 → Go.IntKind.wrap .i64 x = x ∧ Int.tmod x 700 = x % 700 ∧ Go.IntKind.wrap .i64 y = y ∧ Go.IntKind.wrap .i64 (x % 700 + y) = x % 700 + y := fun x y h1 h2 h3 h4 =>
  ⟨w64_id (by omega) (by omega), Int.tmod_eq_emod_of_nonneg h1, w64_id (by omega) (by omega), w64_id (by omega) (by omega)⟩
 obtain ⟨a1, a2, a3, a4⟩ := k x0 y0 hx0 hx0' hy0 hy0'
 obtain ⟨b1, b2, b3, b4⟩ := k x1 y1 hx1 hx1' hy1 hy1'
 have g00 : ∀ a b : Int, List.getD [a, b] (0 + Int.toNat 0 * 1) 0 = a := fun _ _ => rfl
 have g01 : ∀ a b : Int, List.getD [a, b] (0 + Int.toNat 1 * 1) 0 = b := fun _ _ => rfl
 have w1 : Go.IntKind.wrap .i64 (0 + 1) = 1 := by decide
 have w2 : Go.IntKind.wrap .i64 (1 + 1) = 2 := by decide
 rw [show f4l0 (M + 3) (M + 3) = f4l0B (M + 3) (f4l0 (M + 3) (M + 2)) from rfl]
 unfold f4l0B f12
 simp only [g00, a1, a2, a3, a4, w1, andThen_some]
 rw [if_pos (by decide), if_pos (by decide), if_pos (by decide), if_pos (by decide), if_pos (by rw [Nat.ble_eq]; simp; unfold boundLen; omega), if_pos (by simp), if_pos (by rw [Nat.ble_eq]; simp; unfold boundLen; omega)]
 rw [show f4l0 (M + 3) (M + 2) = f4l0B (M + 3) (f4l0 (M + 3) (M + 1)) from rfl]
 unfold f4l0B f12
 simp only [g01, b1, b2, b3, b4, w2, andThen_some]
 rw [if_pos (by decide), if_pos (by decide), if_pos (by decide), if_pos (by decide), if_pos (by rw [Nat.ble_eq]; simp; unfold boundLen; omega), if_pos (by simp), if_pos (by rw [Nat.ble_eq]; simp; unfold boundLen; omega)]
 rw [show f4l0 (M + 3) (M + 1) = f4l0B (M + 3) (f4l0 (M + 3) M) from rfl]
 unfold f4l0B
 rw [if_neg (by decide)]
 rfl
theorem law4 (x0 x1 y0 y1 z : Int) (hx0 : 0 ≤ x0) (hx0' : x0 ≤ 65535) (hx1 : 0 ≤ x1) (hx1' : x1 ≤ 65535) (hy0 : 0 ≤ y0) (hy0' : y0 ≤ 255) (hy1 : 0 ≤ y1) (hy1' : y1 ≤ 255) (hz : 0 ≤ z) (hz' : z ≤ 255) : f4 50000 x0 x1 y0 y1 z = some true := by
 have ez : Go.IntKind.wrap .i64 z = z := w64_id (by omega) (by omega)
 have em : Int.tmod z 101 = z % 101 := Int.tmod_eq_emod_of_nonneg hz
 have hp : Pair (x0 % 700) (x1 % 700) y0 y1 (z % 101) := ⟨by omega, by omega, by omega, by omega, by omega, by omega, by omega, by omega, by omega, by omega⟩
 unfold f4
 rw [ez, em, if_pos (by decide), f4l0_ok 50000 (z % 101) x0 x1 y0 y1 (by omega) hx0 hx0' hx1 hx1' hy0 hy0' hy1 hy1', andThen_some]
 simp only
 generalize x0 % 700 = lo0 at *
 generalize x1 % 700 = lo1 at *
 generalize z % 101 = n at *
 rw [f11_eq _ _ (by simp [pairHs]), andThen_some, f8_eq _ _ _ _ _ (by simp [pairPs]) (by simp), andThen_some]
 simp only
 have v := hp.valid
 have hl : (pairHs lo0 lo1 y0 y1).length = 2 := rfl
 have n0 := hp.n0
 have n1 := hp.n1
 show andThen (f14 50000 (pairPs lo0 lo1 y0 y1) n 10 [] [pl01]) _ = _
 rcases f14_pair 50000 (by omega) hp with ⟨hno, e14⟩ | ⟨D, D', e14, hD, hD'⟩
 ·have ht : ¬ ∃ t, TruthO (pairHs lo0 lo1 y0 y1) (pairPr n) [] [] t := fun ⟨t, ht⟩ => hno ⟨_, _, (two_truth t).1 ht⟩
  have e15 := f15_no 50000 _ _ _ _ (by omega) v ht
  have e16 := f16_no 50000 _ _ _ _ 0 1 (by omega) v ht
  unfold pairPr at e15 e16
  rw [e14, andThen_some, e15, andThen_some, e16, andThen_some]
  simp only
  rw [if_pos (by decide), if_neg (by decide), if_pos (by decide), if_pos (by decide), if_pos (by decide), known_ok]
  rfl
 ·obtain ⟨a1, a2⟩ := hD.att rfl 5 (by omega)
  have ht : ∃ t, TruthO (pairHs lo0 lo1 y0 y1) (pairPr n) [] [] t := ⟨_, (two_truth (fun b => ent D 5 5 - ent D 5 b)).2 (two_web a1)⟩
  obtain ⟨m, f1, f2, f3, e15⟩ := f15_yes 50000 _ _ _ _ (by omega) v ht
  have e16 := f16_yes 50000 _ _ _ _ 0 1 (by omega) v f1 f2
  rw [if_pos (by rw [hl]; omega)] at e16
  have q0 := f4_pair hp hD f2 (c := 0) (by omega)
  have q1 := f4_pair hp hD f2 (c := 1) (by omega)
  have hs : (spn (pairHs lo0 lo1 y0 y1).length m).length = 2 := by simp [spn, hl]
  have hs2 : (spanL D 2).length = 2 := by simp [spanL]
  have hs3 : (spanL D' 2).length = 2 := by simp [spanL]
  have hst : (spanL D' 2).getD 0 ((0 : Int), (0 : Int)) = (5, 9) := by
   show (-ent D' 5 0, ent D' 0 5) = _
   obtain ⟨b1, b2⟩ := hD'.att rfl 5 (by omega)
   obtain ⟨c1, c2⟩ := hD'.att rfl 0 (by omega)
   have d1 := str_in b1
   have d2 := str_in c1
   have g1 := hD'.sat rfl _ (str_truth (lo0 := lo0) (lo1 := lo1) (w0 := y0) (w1 := y1)).1 5 0 (by omega) (by omega)
   have g2 := hD'.sat rfl _ (str_truth (lo0 := lo0) (lo1 := lo1) (w0 := y0) (w1 := y1)).2 0 5 (by omega) (by omega)
   simp at g1 g2
   exact span_eq (by omega) (by omega)
  have hap : ∀ a b, (a < 2 ∧ b < 2) → ent m a b ≤ n ∨ a = b := fun a b hab => by
   by_cases e : a = b
   ·exact .inr e
   ·left
    obtain ⟨s, c1, c2⟩ := f2.att a b (.inl (by rw [hl]; omega)) (.inl (by rw [hl]; omega))
    have := (two_truth s).1 c1
    unfold Two at this
    unfold zt at c2
    rw [if_neg (by omega), if_neg (by omega)] at c2
    have h1 : (a = 0 ∧ b = 1) ∨ (a = 1 ∧ b = 0) := by omega
    rcases h1 with ⟨rfl, rfl⟩ | ⟨rfl, rfl⟩ <;> omega
  have h01 := (hap 0 1 (by omega)).resolve_right (by omega)
  have h10 := (hap 1 0 (by omega)).resolve_right (by omega)
  have hb := tight_bd f2 rfl (by rw [hl]; omega) v.h 0 1 (.inl (by rw [hl]; omega)) (.inl (by rw [hl]; omega))
  unfold pairPr at e15 e16
  have t0 : Int.toNat 0 = 0 := rfl
  have t1 : Int.toNat 1 = 1 := rfl
  rw [t0, t1] at e16
  have wn : Go.IntKind.wrap .i64 (0 - -ent m 0 1) = ent m 0 1 := by rw [w64_id (by omega) (by omega)]; omega
  rw [e14, andThen_some, e15, andThen_some, e16, andThen_some]
  simp only [hs, hs2, hs3, t0, t1, q0, q1, hst, f12, andThen_some, known_ok, wn]
  rw [if_pos (by decide), if_neg (by decide), if_neg (by decide), if_pos (by decide), if_pos (by decide), if_pos (by decide), if_neg (dn (by split <;> omega)), if_pos (by decide), if_pos (by decide), if_pos (by simp), if_pos (by decide), if_pos (by decide), if_pos (by simp), if_pos (by decide), if_pos (by decide)]
end Go.Pl
namespace Go.Proofs.Ytnkopbhjflcbgaa
theorem pure4 : Pure4 := fun x0 x1 x2 g0 g1 g2 => by
 have b : ∀ n : Int, (Go.Lit.int .u8 n).wf = true → 0 ≤ n ∧ n ≤ 255 := fun n hn => by
  unfold Go.Lit.wf at hn
  rw [Bool.and_eq_true, decide_eq_true_eq, decide_eq_true_eq] at hn
  exact hn
 have c : ∀ n : Int, (Go.Lit.int .u16 n).wf = true → 0 ≤ n ∧ n ≤ 65535 := fun n hn => by
  unfold Go.Lit.wf at hn
  rw [Bool.and_eq_true, decide_eq_true_eq, decide_eq_true_eq] at hn
  exact hn
 have h1 := c _ g0.1
 have h2 := c _ g0.2
 have h3 := b _ g1.1
 have h4 := b _ g1.2
 have h5 := b _ g2
 exact ⟨50000, Go.Pl.law4 _ _ _ _ _ h1.1 h1.2 h2.1 h2.2 h3.1 h3.2 h4.1 h4.2 h5.1 h5.2⟩
theorem topPairHeats_holds : Rows.TopPairHeatsSaid := row4 pure4
end Go.Proofs.Ytnkopbhjflcbgaa

