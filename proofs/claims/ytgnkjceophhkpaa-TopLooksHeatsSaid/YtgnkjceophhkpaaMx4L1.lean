/- The law. Gaps of a word that was laid look as wide as places of a furnace are hot, which differ by the spread of Lay at most, and not by less; no condition. -/
import Derived.Test.YtgnkjceophhkpaaAlUse
import Derived.KernelRfl
import Derived.Test.YtgnkjceophhkpaaRows
import Derived.Test.YtgnkjceophhkpaaAlRow
import Derived.Test.YtgnkjceophhkpaaMx4F3
set_option linter.unusedVariables false
set_option linter.unusedSimpArgs false
namespace Go.Pl
abbrev w64 (z : Int) : Int := Go.IntKind.wrap .i64 z
theorem w64_id {z : Int} (h1 : -9223372036854775808 ≤ z) (h2 : z < 9223372036854775808) : Go.IntKind.wrap .i64 z = z := by
 simp [IntKind.wrap, IntKind.signed, IntKind.bits]
 split <;> omega
def ent (m : List Int) (a b : Nat) : Int := m.getD (a * 6 + b) 0
def lim (a b : Nat) (v : Int) (m : List Int) : List Int := m.set (a * 6 + b) (if v < ent m a b then v else ent m a b)
@[simp] theorem lim_len (a b : Nat) (v : Int) (m : List Int) : (lim a b v m).length = m.length := by simp [lim]
theorem ent_lim {a b c d : Nat} {v : Int} {m : List Int} (hl : m.length = 36) (ha : a < 6) (hb : b < 6) (hc : c < 6) (hd : d < 6) :
  ent (lim a b v m) c d = if c = a ∧ d = b then (if v < ent m a b then v else ent m a b) else ent m c d := by
 unfold ent lim
 by_cases h : c = a ∧ d = b
 ·obtain ⟨rfl, rfl⟩ := h
  rw [if_pos (show c = c ∧ d = d from ⟨rfl, rfl⟩), List.getD_eq_getElem?_getD, List.getElem?_set_self (by omega)]
  rfl
 ·rw [if_neg h, List.getD_eq_getElem?_getD, List.getElem?_set_ne (by omega), ← List.getD_eq_getElem?_getD]
def Sat (m : List Int) (t : Nat → Int) : Prop := ∀ a b, a < 6 → b < 6 → t b - t a ≤ ent m a b
theorem sat_lim {a b : Nat} {v : Int} {m : List Int} {t : Nat → Int} (hl : m.length = 36) (ha : a < 6) (hb : b < 6) : Sat (lim a b v m) t ↔ Sat m t ∧ t b - t a ≤ v := by
 constructor
 ·intro h
  refine ⟨fun c d hc hd => ?_, ?_⟩
  ·have := h c d hc hd
   rw [ent_lim hl ha hb hc hd] at this
   split at this
   ·rename_i e; obtain ⟨rfl, rfl⟩ := e; split at this <;> omega
   ·exact this
  ·have := h a b ha hb
   rw [ent_lim hl ha hb ha hb, if_pos ⟨rfl, rfl⟩] at this
   split at this <;> omega
 ·rintro ⟨h, hv⟩ c d hc hd
  rw [ent_lim hl ha hb hc hd]
  split
  ·rename_i e; obtain ⟨rfl, rfl⟩ := e
   have := h c d hc hd
   split <;> omega
  ·exact h c d hc hd
def relax (k a b : Nat) (m : List Int) : List Int := lim a b (w64 (ent m a k + ent m k b)) m
def row (k a n : Nat) (m : List Int) : List Int := (List.range n).foldl (fun m b => relax k a b m) m
def stage (k n : Nat) (m : List Int) : List Int := (List.range n).foldl (fun m a => row k a 6 m) m
def fw (n : Nat) (m : List Int) : List Int := (List.range n).foldl (fun m k => stage k 6 m) m
theorem row_succ (k a n : Nat) (m : List Int) : row k a (n + 1) m = relax k a n (row k a n m) := by simp [row, List.range_succ]
theorem stage_succ (k n : Nat) (m : List Int) : stage k (n + 1) m = row k n 6 (stage k n m) := by simp [stage, List.range_succ]
theorem fw_succ (n : Nat) (m : List Int) : fw (n + 1) m = stage n 6 (fw n m) := by simp [fw, List.range_succ]
theorem fw_inv {I : List Int → Prop} (h : ∀ k a b m, k < 6 → a < 6 → b < 6 → I m → I (relax k a b m)) : ∀ n, n ≤ 6 → ∀ m, I m → I (fw n m) := by
 have h1 : ∀ k a n m, k < 6 → a < 6 → n ≤ 6 → I m → I (row k a n m) := fun k a n m hk ha hn hm => by
  induction n with
  | zero => exact hm
  | succ n ih => rw [row_succ]; exact h k a n _ hk ha (by omega) (ih (by omega))
 have h2 : ∀ k n m, k < 6 → n ≤ 6 → I m → I (stage k n m) := fun k n m hk hn hm => by
  induction n with
  | zero => exact hm
  | succ n ih => rw [stage_succ]; exact h1 k n 6 _ hk (by omega) (Nat.le_refl _) (ih (by omega))
 intro n hn m hm
 induction n with
 | zero => exact hm
 | succ n ih => rw [fw_succ]; exact h2 n 6 _ (by omega) (Nat.le_refl _) (ih (by omega))
def LeM (m' m : List Int) : Prop := m'.length = 36 ∧ ∀ a b, a < 6 → b < 6 → ent m' a b ≤ ent m a b
theorem relax_le {k a b : Nat} {m m0 : List Int} (ha : a < 6) (hb : b < 6) (h : LeM m m0) : LeM (relax k a b m) m0 := by
 refine ⟨by simp [relax, h.1], fun c d hc hd => ?_⟩
 unfold relax
 rw [ent_lim h.1 ha hb hc hd]
 have h1 := h.2 c d hc hd
 split
 ·rename_i e; obtain ⟨rfl, rfl⟩ := e; split <;> omega
 ·exact h1
theorem row_le {k a n : Nat} {m m0 : List Int} (ha : a < 6) (hn : n ≤ 6) (h : LeM m m0) : LeM (row k a n m) m0 := by
 induction n with
 | zero => exact h
 | succ n ih => rw [row_succ]; exact relax_le ha (by omega) (ih (by omega))
theorem stage_le {k n : Nat} {m m0 : List Int} (hn : n ≤ 6) (h : LeM m m0) : LeM (stage k n m) m0 := by
 induction n with
 | zero => exact h
 | succ n ih => rw [stage_succ]; exact row_le (by omega) (Nat.le_refl _) (ih (by omega))
theorem fw_le {m : List Int} (hl : m.length = 36) : ∀ n, n ≤ 6 → ∀ k, k ≤ n → LeM (fw n m) (fw k m) := by
 intro n
 induction n with
 | zero => intro _ k hk; cases Nat.le_zero.1 hk; exact ⟨hl, fun _ _ _ _ => Int.le_refl _⟩
 | succ n ih =>
  intro hn k hk
  have hl' : LeM (fw n m) (fw n m) := ⟨(ih (by omega) 0 (by omega)).1, fun _ _ _ _ => Int.le_refl _⟩
  rcases Nat.lt_or_ge k (n + 1) with h | h
  ·rw [fw_succ]; exact stage_le (Nat.le_refl _) (ih (by omega) k (by omega))
  ·have : k = n + 1 := by omega
   subst this
   rw [fw_succ]
   exact ⟨(stage_le (Nat.le_refl _) hl').1, fun _ _ _ _ => Int.le_refl _⟩
theorem fw_sat {m : List Int} {t : Nat → Int} (hl : m.length = 36) (hb : ∀ a b, a < 6 → b < 6 → ent m a b ≤ 1048576) (ht : ∀ a b, a < 6 → b < 6 → -1048576 ≤ t b - t a) (hs : Sat m t) : Sat (fw 6 m) t := by
 have := fw_inv (I := fun m => m.length = 36 ∧ (∀ a b, a < 6 → b < 6 → ent m a b ≤ 1048576) ∧ Sat m t) (fun k a b m hk ha hb ⟨h1, h2, h3⟩ => by
  have e1 := h2 a k ha hk
  have e2 := h2 k b hk hb
  have f1 := h3 a k ha hk
  have f2 := h3 k b hk hb
  have g1 := ht a k ha hk
  have g2 := ht k b hk hb
  have ew : w64 (ent m a k + ent m k b) = ent m a k + ent m k b := w64_id (by omega) (by omega)
  refine ⟨by simp [relax, h1], fun c d hc hd => ?_, ?_⟩
  ·have := (relax_le (k := k) ha hb (m0 := m) ⟨h1, fun _ _ _ _ => Int.le_refl _⟩).2 c d hc hd
   have := h2 c d hc hd
   omega
  ·unfold relax
   rw [sat_lim h1 ha hb, ew]
   exact ⟨h3, by omega⟩) 6 (Nat.le_refl _) m ⟨hl, hb, hs⟩
 exact this.2.2
theorem row_eq {m D : List Int} {k a : Nat} (hk : k < 6) (ha : a < 6) (hl : m.length = 36) (hkk : 0 ≤ ent D k k) (hB : ∀ x y, x < 6 → y < 6 → -1099511627776 ≤ ent D x y ∧ ent D x y ≤ 1099511627776)
  (hm : ∀ x y, x < 6 → y < 6 → ent m x y = if x < a then min (ent D x y) (ent D x k + ent D k y) else ent D x y) : ∀ n, n ≤ 6 → (row k a n m).length = 36 ∧
  ∀ x y, x < 6 → y < 6 → ent (row k a n m) x y = if x < a ∨ (x = a ∧ y < n) then min (ent D x y) (ent D x k + ent D k y) else ent D x y := by
 intro n
 induction n with
 | zero => intro _; exact ⟨hl, fun x y hx hy => by show ent m x y = _; rw [hm x y hx hy]; simp⟩
 | succ n ih =>
  intro hn
  obtain ⟨i1, i2⟩ := ih (by omega)
  rw [row_succ]
  refine ⟨by simp [relax, i1], fun x y hx hy => ?_⟩
  unfold relax
  have r1 : ent (row k a n m) a k = ent D a k := by rw [i2 a k ha hk]; split <;> omega
  have r2 : ent (row k a n m) k n = ent D k n := by rw [i2 k n hk (by omega)]; split <;> omega
  have b1 := hB a k ha hk
  have b2 := hB k n hk (by omega)
  rw [ent_lim i1 ha (by omega) hx hy, r1, r2, show w64 (ent D a k + ent D k n) = ent D a k + ent D k n from w64_id (by omega) (by omega)]
  by_cases e : x = a ∧ y = n
  ·obtain ⟨rfl, rfl⟩ := e
   have e2 := i2 x y hx hy
   rw [if_neg (by omega)] at e2
   rw [if_pos (show x = x ∧ y = y from ⟨rfl, rfl⟩), if_pos (show x < x ∨ x = x ∧ y < y + 1 from .inr ⟨rfl, Nat.lt_succ_self _⟩), e2]
   split <;> omega
  ·rw [if_neg e, i2 x y hx hy]
   by_cases h : x < a ∨ x = a ∧ y < n
   ·rw [if_pos h, if_pos (by omega)]
   ·rw [if_neg h, if_neg (by omega)]
theorem stage_eq {D : List Int} {k : Nat} (hk : k < 6) (hl : D.length = 36) (hkk : 0 ≤ ent D k k) (hB : ∀ x y, x < 6 → y < 6 → -1099511627776 ≤ ent D x y ∧ ent D x y ≤ 1099511627776) : ∀ n, n ≤ 6 → (stage k n D).length = 36 ∧
  ∀ x y, x < 6 → y < 6 → ent (stage k n D) x y = if x < n then min (ent D x y) (ent D x k + ent D k y) else ent D x y := by
 intro n
 induction n with
 | zero => intro _; exact ⟨hl, fun x y hx hy => by simp [stage]⟩
 | succ n ih =>
  intro hn
  obtain ⟨i1, i2⟩ := ih (by omega)
  rw [stage_succ]
  obtain ⟨j1, j2⟩ := row_eq hk (by omega) i1 hkk hB i2 6 (Nat.le_refl _)
  refine ⟨j1, fun x y hx hy => ?_⟩
  rw [j2 x y hx hy]
  by_cases h : x < n + 1
  ·rw [if_pos h, if_pos (by omega)]
  ·rw [if_neg h, if_neg (by omega)]
def Closed (n : Nat) (m : List Int) : Prop := ∀ k a b, k < n → a < 6 → b < 6 → ent m a b ≤ ent m a k + ent m k b
theorem fw_closed {m : List Int} (hl : m.length = 36) (hb : ∀ a b, a < 6 → b < 6 → -1048576 ≤ ent m a b ∧ ent m a b ≤ 1048576) (hd : ∀ a, a < 6 → 0 ≤ ent (fw 6 m) a a) :
  ∀ n, n ≤ 6 → Closed n (fw n m) ∧ ∀ a b, a < 6 → b < 6 → -(1048576 * 2 ^ n) ≤ ent (fw n m) a b ∧ ent (fw n m) a b ≤ 1048576 := by
 intro n
 induction n with
 | zero => intro _; exact ⟨fun k _ _ h => absurd h (Nat.not_lt_zero _), fun a b ha hb' => by have := hb a b ha hb'; rw [show fw 0 m = m from rfl]; omega⟩
 | succ n ih =>
  intro hn
  obtain ⟨hc, hbd⟩ := ih (by omega)
  have hln : (fw n m).length = 36 := (fw_le hl n (by omega) 0 (by omega)).1
  have hkk : ∀ a, a < 6 → 0 ≤ ent (fw n m) a a := fun a ha => Int.le_trans (hd a ha) ((fw_le hl 6 (Nat.le_refl _) n (by omega)).2 a a ha ha)
  have hpow : (1048576 : Int) * 2 ^ n ≤ 1048576 * 64 ∧ 0 ≤ (1048576 : Int) * 2 ^ n := by
   have : n = 0 ∨ n = 1 ∨ n = 2 ∨ n = 3 ∨ n = 4 ∨ n = 5 := by omega
   rcases this with rfl | rfl | rfl | rfl | rfl | rfl <;> decide
  have hB : ∀ x y, x < 6 → y < 6 → -1099511627776 ≤ ent (fw n m) x y ∧ ent (fw n m) x y ≤ 1099511627776 := fun x y hx hy => by
   have := hbd x y hx hy
   omega
  obtain ⟨_, he⟩ := stage_eq (k := n) (by omega) hln (hkk n (by omega)) hB 6 (Nat.le_refl _)
  have he : ∀ x y, x < 6 → y < 6 → ent (fw (n + 1) m) x y = min (ent (fw n m) x y) (ent (fw n m) x n + ent (fw n m) n y) := fun x y hx hy => by
   rw [fw_succ, he x y hx hy, if_pos hx]
  have h0 := hkk n (by omega)
  refine ⟨fun k a b hk ha hb' => ?_, fun a b ha hb' => ?_⟩
  ·rw [he a b ha hb', he a k ha (by omega), he k b (by omega) hb']
   rcases Nat.lt_or_ge k n with h | h
   ·have c1 := hc k a b h ha hb'
    have c2 := hc k a n h ha (by omega)
    have c3 := hc k n b h (by omega) hb'
    have c4 := hc k n n h (by omega) (by omega)
    omega
   ·have : k = n := by omega
    subst this
    omega
  ·have p1 := hbd a b ha hb'
   have p2 := hbd a n ha (by omega)
   have p3 := hbd n b (by omega) hb'
   rw [he a b ha hb']
   have : (1048576 : Int) * 2 ^ (n + 1) = 1048576 * 2 ^ n * 2 := by rw [Int.pow_succ, Int.mul_assoc]
   rw [this]
   generalize (1048576 : Int) * 2 ^ n = q at *
   rcases Int.le_total (ent (fw n m) a b) (ent (fw n m) a n + ent (fw n m) n b) with h | h
   ·rw [Int.min_eq_left h]; omega
   ·rw [Int.min_eq_right h]; omega
theorem fw_spec {m : List Int} (hl : m.length = 36) (hb : ∀ a b, a < 6 → b < 6 → -1048576 ≤ ent m a b ∧ ent m a b ≤ 1048576) (hz : ∀ a, a < 6 → ent m a a ≤ 0) :
  (fw 6 m).length = 36 ∧ ((∀ a, a < 6 → 0 ≤ ent (fw 6 m) a a) ↔ ∃ t, Sat m t) ∧ (∀ t, Sat m t → Sat (fw 6 m) t) ∧
  ((∀ a, a < 6 → 0 ≤ ent (fw 6 m) a a) → ∀ c, c < 6 → Sat m (fun b => ent (fw 6 m) c b) ∧ ent (fw 6 m) c c = 0) := by
 have hle := fw_le hl 6 (Nat.le_refl _) 0 (by omega)
 have hs : ∀ t, Sat m t → Sat (fw 6 m) t := fun t ht => fw_sat hl (fun a b ha hb' => (hb a b ha hb').2) (fun a b ha hb' => by
  have := ht b a hb' ha
  have := (hb b a hb' ha).2
  omega) ht
 have hc : (∀ a, a < 6 → 0 ≤ ent (fw 6 m) a a) → ∀ c, c < 6 → Sat m (fun b => ent (fw 6 m) c b) ∧ ent (fw 6 m) c c = 0 := fun hd c hc => by
  obtain ⟨h1, _⟩ := fw_closed hl hb hd 6 (Nat.le_refl _)
  refine ⟨fun a b ha hb' => ?_, ?_⟩
  ·have := h1 a c b ha hc hb'
   have := hle.2 a b ha hb'
   have e : ent (fw 0 m) a b = ent m a b := rfl
   show ent (fw 6 m) c b - ent (fw 6 m) c a ≤ ent m a b
   omega
  ·have := hle.2 c c hc hc
   have := hz c hc
   have := hd c hc
   have e : ent (fw 0 m) c c = ent m c c := rfl
   omega
 refine ⟨hle.1, ⟨fun hd => ⟨_, (hc hd 0 (by omega)).1⟩, fun ⟨t, ht⟩ a ha => ?_⟩, hs, hc⟩
 have := hs t ht a a ha ha
 omega
end Go.Pl


namespace Go.Pl
open Go.Al
@[simp] theorem andThen_some {α R : Type} (x : α) (k : α → Option R) : andThen (some x) k = k x := rfl
@[simp] theorem either_inl {α β R : Type} (x : α) (f : α → R) (g : β → R) : either (.inl x) f g = f x := rfl
@[simp] theorem either_inr {α β R : Type} (x : β) (f : α → R) (g : β → R) : either (.inr x) f g = g x := rfl
theorem w_succ {i : Nat} (h : i < 4611686018427387904) : Go.IntKind.wrap .i64 ((i : Int) + 1) = ((i + 1 : Nat) : Int) := by
 rw [w64_id (by omega) (by omega)]; rfl
theorem loop_run {S R : Type} (L : Nat → S → Option R) (I : S → Prop) (m : S → Nat) (Q : R → Prop)
  (step : ∀ q s, I s → (∃ r, L (q + 1) s = some r ∧ Q r) ∨ (∃ s', I s' ∧ m s' < m s ∧ L (q + 1) s = L q s')) : ∀ q s, I s → m s < q → ∃ r, L q s = some r ∧ Q r := by
 intro q
 induction q with
 | zero => intro s _ h; exact absurd h (Nat.not_lt_zero _)
 | succ q ih =>
  intro s hs hm
  rcases step q s hs with h | ⟨s', h1, h2, h3⟩
  ·exact h
  ·rw [h3]; exact ih s' h1 (by omega)
theorem getD_set {α : Type} (l : List α) (a b : Nat) (x d : α) : (l.set a x).getD b d = if a = b ∧ a < l.length then x else l.getD b d := by
 by_cases h : a = b
 ·subst h
  by_cases hl : a < l.length
  ·simp [hl]
  ·simp [hl]
 ·simp [h, List.getD_eq_getElem?_getD, List.getElem?_set_ne h]
abbrev Span := Int × Int
abbrev Pr := Int × (Int × Int)
abbrev Cn := Int × (Int × Bool)
abbrev Sg := Int × ((Int × Int) × Int)
def sp (l : List Span) (p : Nat) : Span := l.getD p (0, 0)
def Box (l : List Span) (t : Nat → Int) : Prop := ∀ p, p < l.length → (sp l p).1 ≤ t p ∧ t p ≤ (sp l p).2
def Prs (ps : List Pr) (t : Nat → Int) : Prop := ∀ q ∈ ps, t q.1.toNat - t q.2.1.toNat ≤ q.2.2 ∧ t q.2.1.toNat - t q.1.toNat ≤ q.2.2
def okPr (n : Nat) (q : Pr) : Prop := 0 ≤ q.1 ∧ q.1 < n ∧ 0 ≤ q.2.1 ∧ q.2.1 < n ∧ q.1 ≠ q.2.1 ∧ 0 ≤ q.2.2 ∧ q.2.2 ≤ 1000
end Go.Pl


namespace Go.Pl
open Go.Al Go.Proofs
theorem f70_eq (N : Nat) {a b : Int} (v : Int) (m : List Int) (ha : 0 ≤ a) (ha' : a < 6) (hb : 0 ≤ b) (hb' : b < 6) : f70 N a b v m = some (lim a.toNat b.toNat v m) := by
 unfold f70
 simp only [ha, ha', hb, hb', decide_true, Bool.and_true, if_true, Nat.zero_add, Nat.mul_one]
 rfl
theorem f71l2_eq (N : Nat) (k a : Nat) (x2 x3 : Int) (m : List Int) (hk : k < 6) (ha : a < 6) (hN : 6 < N) : f71l2 N N k a x2 x3 0 m = some ((k : Int), x2, x3, row k a 6 m) := by
 obtain ⟨r, h1, rfl⟩ := loop_run (fun q (b : Nat) => f71l2 N q k a x2 x3 b (row k a b m)) (fun b => b ≤ 6) (fun b => 6 - b) (fun r => r = ((k : Int), x2, x3, row k a 6 m)) (fun q b hb => by
  by_cases h : b < 6
  ·right
   refine ⟨b + 1, h, by omega, ?_⟩
   show f71l2B N (f71l2 N q) k a x2 x3 b (row k a b m) = _
   unfold f71l2B
   simp only [show ((b : Int) < 6) by omega, show ((a : Int) < 6) by omega, show ((k : Int) < 6) by omega, Int.natCast_nonneg, decide_true, Bool.and_true, if_true, Nat.zero_add, Nat.mul_one, Int.toNat_natCast, w_succ (show b < 4611686018427387904 by omega)]
   rw [f70_eq N _ _ (by omega) (by omega) (by omega) (by omega), andThen_some, row_succ]
   rfl
  ·left
   have : b = 6 := by omega
   subst this
   exact ⟨_, rfl, rfl⟩) N 0 (by omega) (by omega)
 exact h1
theorem f71l1_eq (N : Nat) (k : Nat) (x1 : Int) (m : List Int) (hk : k < 6) (hN : 6 < N) : f71l1 N N k x1 0 m = some (x1, stage k 6 m) := by
 obtain ⟨r, h1, rfl⟩ := loop_run (fun q (a : Nat) => f71l1 N q k x1 a (stage k a m)) (fun b => b ≤ 6) (fun b => 6 - b) (fun r => r = (x1, stage k 6 m)) (fun q a hb => by
  by_cases h : a < 6
  ·right
   refine ⟨a + 1, h, by omega, ?_⟩
   show f71l1B N (f71l1 N q) k x1 a (stage k a m) = _
   unfold f71l1B
   simp only [show ((a : Int) < 6) by omega, decide_true, if_true]
   rw [f71l2_eq N k a x1 a _ hk h hN, andThen_some, stage_succ]
   simp only [w_succ (show a < 4611686018427387904 by omega)]
  ·left
   have : a = 6 := by omega
   subst this
   exact ⟨_, rfl, rfl⟩) N 0 (by omega) (by omega)
 exact h1
theorem f71l0_eq (N : Nat) (m : List Int) (hN : 6 < N) : f71l0 N N 0 m = some (fw 6 m) := by
 obtain ⟨r, h1, h3⟩ := loop_run (fun q (a : Nat) => f71l0 N q a (fw a m)) (fun b => b ≤ 6) (fun b => 6 - b) (fun r => r = fw 6 m) (fun q a hb => by
  by_cases h : a < 6
  ·right
   refine ⟨a + 1, h, by omega, ?_⟩
   show f71l0B N (f71l0 N q) a (fw a m) = _
   unfold f71l0B
   simp only [show ((a : Int) < 6) by omega, decide_true, if_true]
   rw [f71l1_eq N a a _ h hN, andThen_some, fw_succ]
   simp only [w_succ (show a < 4611686018427387904 by omega)]
  ·left
   have : a = 6 := by omega
   subst this
   refine ⟨_, ?_, rfl⟩
   show f71l0B N (f71l0 N q) ((6 : Nat) : Int) (fw 6 m) = _
   unfold f71l0B
   exact if_neg (by decide)) N 0 (by omega) (by omega)
 rw [h3] at h1
 exact h1
theorem f71_eq (N : Nat) (m : List Int) (hN : 6 < N) : ∃ ok, f71 N m = some (ok, fw 6 m) ∧ (ok = true ↔ ∀ a, a < 6 → 0 ≤ ent (fw 6 m) a a) := by
 generalize hf : fw 6 m = m'
 obtain ⟨r, h1, h2⟩ := loop_run (fun q (a : Nat) => f71l3 N q a m') (fun b => b ≤ 6 ∧ ∀ a, a < b → 0 ≤ ent m' a a) (fun b => 6 - b) (fun r => (r = .inl (false, m') ∧ ¬ ∀ a, a < 6 → 0 ≤ ent m' a a) ∨ (r = .inr m' ∧ ∀ a, a < 6 → 0 ≤ ent m' a a)) (fun q a hb => by
  obtain ⟨hb, hd⟩ := hb
  by_cases h : a < 6
  ·by_cases hn : ent m' a a < 0
   ·left
    refine ⟨.inl (false, m'), ?_, .inl ⟨rfl, fun h' => by have := h' a h; omega⟩⟩
    show f71l3B N (f71l3 N q) a m' = _
    unfold f71l3B
    simp only [show ((a : Int) < 6) by omega, Int.natCast_nonneg, decide_true, Bool.and_true, if_true, Nat.zero_add, Nat.mul_one, Int.toNat_natCast]
    exact if_pos (decide_eq_true hn)
   ·right
    refine ⟨a + 1, ⟨h, fun c hc => ?_⟩, by omega, ?_⟩
    ·rcases Nat.lt_or_ge c a with h' | h'
     ·exact hd c h'
     ·have : c = a := by omega
      subst this; omega
    ·show f71l3B N (f71l3 N q) a m' = _
     unfold f71l3B
     simp only [show ((a : Int) < 6) by omega, Int.natCast_nonneg, decide_true, Bool.and_true, if_true, Nat.zero_add, Nat.mul_one, Int.toNat_natCast, w_succ (show a < 4611686018427387904 by omega)]
     exact if_neg fun h => hn (of_decide_eq_true h)
  ·left
   have : a = 6 := by omega
   subst this
   exact ⟨_, rfl, .inr ⟨rfl, hd⟩⟩) N 0 ⟨by omega, fun a ha => absurd ha (Nat.not_lt_zero _)⟩ (by omega)
 unfold f71
 rw [f71l0_eq N m hN, andThen_some, hf]
 simp only [show f71l3 N N (0 : Int) m' = some r from h1, andThen_some]
 rcases h2 with ⟨rfl, h2⟩ | ⟨rfl, h2⟩
 ·exact ⟨false, rfl, by simpa using h2⟩
 ·exact ⟨true, rfl, by simpa using h2⟩
def Fine (m : List Int) : Prop := m.length = 36 ∧ (∀ a b, a < 6 → b < 6 → -1048576 ≤ ent m a b ∧ ent m a b ≤ 1048576) ∧ ∀ a, a < 6 → ent m a a ≤ 0
theorem fine_lim {m : List Int} {a b : Nat} {v : Int} (h : Fine m) (ha : a < 6) (hb : b < 6) (hv : -1048576 ≤ v) (hv' : v ≤ 1048576) : Fine (lim a b v m) := by
 refine ⟨by simp [h.1], fun c d hc hd => ?_, fun c hc => ?_⟩
 ·rw [ent_lim h.1 ha hb hc hd]
  have := h.2.1 c d hc hd
  have := h.2.1 a b ha hb
  split
  ·split <;> omega
  ·omega
 ·rw [ent_lim h.1 ha hb hc hc]
  have := h.2.2 c hc
  split
  ·rename_i e; obtain ⟨rfl, e⟩ := e; subst e; split <;> omega
  ·omega
abbrev Nt := Cn ⊕ Sg
def NoteT : Nt → Int → Prop
 | .inl c, u => if c.2.2 = true then c.2.1 ≤ u else u ≤ c.2.1 - 1
 | .inr s, u => if s.2.2 = 3 then s.2.1.2 ≤ u else if s.2.2 = 2 then s.2.1.1 ≤ u ∧ u ≤ s.2.1.2 - 1 else u ≤ s.2.1.1 - 1
def plc : Nt → Int
 | .inl c => c.1
 | .inr s => s.1
def okCn (n : Nat) (c : Cn) : Prop := 0 ≤ c.1 ∧ c.1 < n ∧ 1 ≤ c.2.1 ∧ c.2.1 ≤ 1000
def okWr (w : Span) : Prop := 0 ≤ w.1 ∧ w.1 < w.2 ∧ w.2 ≤ 1000
def okSg (n : Nat) (s : Sg) : Prop := 0 ≤ s.1 ∧ s.1 < n ∧ okWr s.2.1 ∧ 1 ≤ s.2.2 ∧ s.2.2 ≤ 3
def okNt (n : Nat) : Nt → Prop
 | .inl c => okCn n c
 | .inr s => okSg n s
def Tells (m : List Int) (R : (Nat → Int) → Prop) : Prop := Fine m ∧ ∀ t, Sat m t ↔ R t
theorem above_eq (N : Nat) {p : Int} {v : Int} {m : List Int} {R : (Nat → Int) → Prop} (h : Tells m R) (hp : 0 ≤ p) (hp' : p < 5) (hv : -100000 ≤ v) (hv' : v ≤ 100000) :
  ∃ m', f68 N p v m = some m' ∧ Tells m' fun t => R t ∧ v ≤ t p.toNat - t 5 := by
 unfold f68
 rw [w64_id (by omega) (by omega), f70_eq N _ _ hp (by omega) (by omega) (by omega)]
 refine ⟨_, rfl, fine_lim h.1 (by omega) (by decide) (by omega) (by omega), fun t => ?_⟩
 rw [sat_lim h.1.1 (by omega) (by decide), h.2]
 show R t ∧ t 5 - t p.toNat ≤ 0 - v ↔ _
 constructor <;> rintro ⟨h1, h2⟩ <;> exact ⟨h1, by omega⟩
theorem below_eq (N : Nat) {p : Int} {v : Int} {m : List Int} {R : (Nat → Int) → Prop} (h : Tells m R) (hp : 0 ≤ p) (hp' : p < 5) (hv : -100000 ≤ v) (hv' : v ≤ 100000) :
  ∃ m', f69 N p v m = some m' ∧ Tells m' fun t => R t ∧ t p.toNat - t 5 ≤ v := by
 unfold f69
 rw [f70_eq N _ _ (by omega) (by omega) hp (by omega)]
 refine ⟨_, rfl, fine_lim h.1 (by decide) (by omega) (by omega) (by omega), fun t => ?_⟩
 rw [sat_lim h.1.1 (by decide) (by omega), h.2]
 exact Iff.rfl
theorem Tells.congr {m : List Int} {R R' : (Nat → Int) → Prop} (h : Tells m R) (e : ∀ t, R t ↔ R' t) : Tells m R' := ⟨h.1, fun t => (h.2 t).trans (e t)⟩
theorem cone_eq (N : Nat) {c : Cn} {n : Nat} {m : List Int} {R : (Nat → Int) → Prop} (h : Tells m R) (hn : n ≤ 5) (hc : okCn n c) :
  ∃ m', f99 N c.1 c.2.1 c.2.2 m = some m' ∧ Tells m' fun t => R t ∧ NoteT (.inl c) (t c.1.toNat - t 5) := by
 obtain ⟨h1, h2, h3, h4⟩ := hc
 unfold f99
 by_cases e : c.2.2 = true
 ·rw [if_pos e]
  obtain ⟨m', e1, e2⟩ := above_eq N h h1 (by omega) (v := c.2.1) (by omega) (by omega)
  rw [e1]
  exact ⟨m', rfl, e2.congr fun t => by simp [NoteT, e]⟩
 ·rw [if_neg e, w64_id (by omega) (by omega)]
  obtain ⟨m', e1, e2⟩ := below_eq N h h1 (by omega) (v := c.2.1 - 1) (by omega) (by omega)
  rw [e1]
  exact ⟨m', rfl, e2.congr fun t => by simp [NoteT, e]⟩
theorem sign_eq (N : Nat) {s : Sg} {n : Nat} {m : List Int} {R : (Nat → Int) → Prop} (h : Tells m R) (hn : n ≤ 5) (hs : okSg n s) :
  ∃ m', f100 N s.1 s.2.1.1 s.2.1.2 s.2.2 m = some m' ∧ Tells m' fun t => R t ∧ NoteT (.inr s) (t s.1.toNat - t 5) := by
 obtain ⟨h1, h2, ⟨h3, h4, h5⟩, h6, h7⟩ := hs
 unfold f100
 by_cases e : s.2.2 = 3
 ·rw [if_pos (by simp [e])]
  obtain ⟨m', e1, e2⟩ := above_eq N h h1 (by omega) (v := s.2.1.2) (by omega) (by omega)
  rw [e1]
  exact ⟨m', rfl, e2.congr fun t => by simp [NoteT, e]⟩
 ·rw [if_neg (by simp [e])]
  by_cases e' : s.2.2 = 2
  ·rw [if_pos (by simp [e']), w64_id (by omega) (by omega)]
   obtain ⟨m1, e1, e2⟩ := below_eq N h h1 (by omega) (v := s.2.1.2 - 1) (by omega) (by omega)
   rw [e1, andThen_some]
   obtain ⟨m2, e3, e4⟩ := above_eq N e2 h1 (by omega) (v := s.2.1.1) (by omega) (by omega)
   rw [e3]
   refine ⟨m2, rfl, e4.congr fun t => ?_⟩
   simp only [NoteT]
   rw [if_neg e, if_pos e']
   constructor
   ·rintro ⟨⟨a, b⟩, c⟩; exact ⟨a, c, b⟩
   ·rintro ⟨a, c, b⟩; exact ⟨⟨a, b⟩, c⟩
  ·rw [if_neg (by simp [e']), w64_id (by omega) (by omega)]
   obtain ⟨m', e1, e2⟩ := below_eq N h h1 (by omega) (v := s.2.1.1 - 1) (by omega) (by omega)
   rw [e1]
   exact ⟨m', rfl, e2.congr fun t => by simp [NoteT, e, e']⟩
end Go.Pl


namespace Go.Pl
open Go.Al Go.Proofs
def init6 : List Int := [0, 1048576, 1048576, 1048576, 1048576, 1048576, 1048576, 0, 1048576, 1048576, 1048576, 1048576, 1048576, 1048576, 0, 1048576, 1048576, 1048576, 1048576, 1048576, 1048576, 0, 1048576, 1048576, 1048576, 1048576, 1048576, 1048576, 0, 1048576, 1048576, 1048576, 1048576, 1048576, 1048576, 0]
def zero6 : List Int := [0, 0, 0, 0, 0, 0, 0, 0, 0, 0, 0, 0, 0, 0, 0, 0, 0, 0, 0, 0, 0, 0, 0, 0, 0, 0, 0, 0, 0, 0, 0, 0, 0, 0, 0, 0]
theorem f46l0_eq (n : Nat) (w : Int) (more : List Nt) (hs : List Span) (ps : List Pr) (cs : List Cn) (ss : List Sg) (ns : List Nt) :
  f46l0 (n + 10) (n + 10) w more 0 hs ps cs ss ns zero6 = some (w, more, hs, ps, cs, ss, ns, init6) := by kernel_rfl
theorem init_ent {a b : Nat} (ha : a < 6) (hb : b < 6) : ent init6 a b = if a = b then 0 else 1048576 := by
 have : ∀ a, a < 6 → ∀ b, b < 6 → ent init6 a b = if a = b then 0 else 1048576 := by decide
 exact this a ha b hb
def Near (t : Nat → Int) : Prop := ∀ a b, a < 6 → b < 6 → t b - t a ≤ 1048576
theorem init_tells : Tells init6 Near := by
 refine ⟨⟨rfl, fun a b ha hb => ?_, fun a ha => ?_⟩, fun t => ⟨fun h a b ha hb => ?_, fun h a b ha hb => ?_⟩⟩
 ·rw [init_ent ha hb]; split <;> omega
 ·rw [init_ent ha ha]; simp
 ·have := h a b ha hb
  rw [init_ent ha hb] at this
  split at this <;> omega
 ·rw [init_ent ha hb]
  split
  ·rename_i e; subst e; omega
  ·exact h a b ha hb
def okSp (s : Span) : Prop := 0 ≤ s.1 ∧ s.1 ≤ s.2 ∧ s.2 ≤ 1000
theorem f46l2_eq (N : Nat) (w : Int) (more : List Nt) (hs : List Span) (ps : List Pr) (cs : List Cn) (ss : List Sg) (ns : List Nt) (hN : hs.length < N) (hn : hs.length ≤ 5) (hok : ∀ s ∈ hs, okSp s) {m : List Int} {R : (Nat → Int) → Prop} (hm : Tells m R) :
  ∃ m', f46l2 N N w more hs (hs.length : Int) 0 hs ps cs ss ns m = some (w, more, hs, ps, cs, ss, ns, m') ∧ Tells m' fun t => R t ∧ ∀ p, p < hs.length → (sp hs p).1 ≤ t p - t 5 ∧ t p - t 5 ≤ (sp hs p).2 := by
 obtain ⟨r, h1, m', h2, h3⟩ := loop_run (fun q (s : Nat × List Int) => f46l2 N q w more hs (hs.length : Int) (s.1 : Int) hs ps cs ss ns s.2)
  (fun s => s.1 ≤ hs.length ∧ Tells s.2 fun t => R t ∧ ∀ p, p < s.1 → (sp hs p).1 ≤ t p - t 5 ∧ t p - t 5 ≤ (sp hs p).2) (fun s => hs.length - s.1)
  (fun r => ∃ m', r = (w, more, hs, ps, cs, ss, ns, m') ∧ Tells m' fun t => R t ∧ ∀ p, p < hs.length → (sp hs p).1 ≤ t p - t 5 ∧ t p - t 5 ≤ (sp hs p).2) (by
   rintro q ⟨i, m1⟩ ⟨i1, i2⟩
   simp only at i1 i2 ⊢
   by_cases hi : i < hs.length
   ·right
    have hsp : okSp (sp hs i) := hok _ (by unfold sp; rw [List.getD_eq_getElem?_getD, List.getElem?_eq_getElem hi]; exact List.getElem_mem hi)
    obtain ⟨o1, o2, o3⟩ := hsp
    obtain ⟨m2, e1, e2⟩ := above_eq N (p := (i : Int)) i2 (by omega) (by omega) (v := (sp hs i).1) (by omega) (by omega)
    obtain ⟨m3, e3, e4⟩ := below_eq N (p := (i : Int)) e2 (by omega) (by omega) (v := (sp hs i).2) (by omega) (by omega)
    refine ⟨(i + 1, m3), ⟨hi, e4.congr fun t => ?_⟩, show hs.length - (i + 1) < hs.length - i by omega, ?_⟩
    ·simp only [Int.toNat_natCast]
     constructor
     ·rintro ⟨⟨⟨a, b⟩, c⟩, d⟩
      refine ⟨a, fun p hp => ?_⟩
      rcases Nat.lt_or_ge p i with h | h
      ·exact b p h
      ·have : p = i := by omega
       subst this; exact ⟨c, d⟩
     ·rintro ⟨a, b⟩
      exact ⟨⟨⟨a, fun p hp => b p (by omega)⟩, (b i (by omega)).1⟩, (b i (by omega)).2⟩
    ·show f46l2B N (f46l2 N q) w more hs (hs.length : Int) (i : Int) hs ps cs ss ns m1 = _
     unfold f46l2B
     unfold sp at e1 e3
     simp only [show ((i : Int) < (hs.length : Int)) by omega, Int.natCast_nonneg, decide_true, Bool.and_true, if_true, Int.toNat_natCast, e1, andThen_some, e3, w_succ (show i < 4611686018427387904 by omega)]
   ·left
    have : i = hs.length := by omega
    subst this
    refine ⟨_, ?_, m1, rfl, i2⟩
    show f46l2B N (f46l2 N q) w more hs (hs.length : Int) (hs.length : Int) hs ps cs ss ns m1 = _
    unfold f46l2B
    rw [if_neg (by simp)]) N (0, m) ⟨Nat.zero_le _, hm.congr fun t => ⟨fun h => ⟨h, fun p hp => absurd hp (Nat.not_lt_zero _)⟩, fun h => h.1⟩⟩ (by simpa using hN)
 rw [h2] at h1
 exact ⟨m', h1, h3⟩
theorem f46l3_eq (N : Nat) (w : Int) (more : List Nt) (hs : List Span) (ps : List Pr) (cs : List Cn) (ss : List Sg) (ns : List Nt) (n : Nat) (hn : n ≤ 5) (hN : ps.length < N) (hl : ps.length < 1000000) (hok : ∀ q ∈ ps, okPr n q) {m : List Int} {R : (Nat → Int) → Prop} (hm : Tells m R) :
  ∃ m', f46l3 N N w more ps (ps.length : Int) 0 hs ps cs ss ns m = some (w, more, hs, ps, cs, ss, ns, m') ∧ Tells m' fun t => R t ∧ Prs ps t := by
 have hgood : ∀ t : Nat → Int, (∀ j, j < ps.length → Prs [ps.getD j ((0 : Int), ((0 : Int), (0 : Int)))] t) ↔ Prs ps t := fun t => by
  constructor
  ·intro h q hq
   obtain ⟨j, hj, e⟩ := List.getElem_of_mem hq
   have := h j hj
   rw [List.getD_eq_getElem?_getD, List.getElem?_eq_getElem hj] at this
   exact this q (by simp [e])
  ·intro h j hj q hq
   rw [List.getD_eq_getElem?_getD, List.getElem?_eq_getElem hj] at hq
   simp at hq; subst hq
   exact h _ (List.getElem_mem hj)
 obtain ⟨r, h1, m', h2, h3⟩ := loop_run (fun q (s : Nat × List Int) => f46l3 N q w more ps (ps.length : Int) (s.1 : Int) hs ps cs ss ns s.2)
  (fun s => s.1 ≤ ps.length ∧ Tells s.2 fun t => R t ∧ ∀ j, j < s.1 → Prs [ps.getD j ((0 : Int), ((0 : Int), (0 : Int)))] t) (fun s => ps.length - s.1)
  (fun r => ∃ m', r = (w, more, hs, ps, cs, ss, ns, m') ∧ Tells m' fun t => R t ∧ ∀ j, j < ps.length → Prs [ps.getD j ((0 : Int), ((0 : Int), (0 : Int)))] t) (by
   rintro q ⟨i, m1⟩ ⟨i1, i2⟩
   simp only at i1 i2 ⊢
   by_cases hi : i < ps.length
   ·right
    have hpr : okPr n (ps.getD i ((0 : Int), ((0 : Int), (0 : Int)))) := hok _ (by rw [List.getD_eq_getElem?_getD, List.getElem?_eq_getElem hi]; exact List.getElem_mem hi)
    generalize hz : ps.getD i ((0 : Int), ((0 : Int), (0 : Int))) = z at *
    obtain ⟨o1, o2, o3, o4, o5, o6, o7⟩ := hpr
    refine ⟨(i + 1, lim z.2.1.toNat z.1.toNat z.2.2 (lim z.1.toNat z.2.1.toNat z.2.2 m1)), ⟨hi, ?_⟩, show ps.length - (i + 1) < ps.length - i by omega, ?_⟩
    ·have f1 := fine_lim i2.1 (a := z.1.toNat) (b := z.2.1.toNat) (v := z.2.2) (by omega) (by omega) (by omega) (by omega)
     refine ⟨fine_lim f1 (by omega) (by omega) (by omega) (by omega), fun t => ?_⟩
     rw [sat_lim f1.1 (by omega) (by omega), sat_lim i2.1.1 (by omega) (by omega), i2.2]
     constructor
     ·rintro ⟨⟨⟨a, b⟩, c⟩, d⟩
      refine ⟨a, fun j hj => ?_⟩
      rcases Nat.lt_or_ge j i with h | h
      ·exact b j h
      ·have : j = i := by omega
       subst this
       rw [hz]
       intro x hx
       simp at hx; subst hx
       omega
     ·rintro ⟨a, b⟩
      have := b i (by omega)
      rw [hz] at this
      have := this z (by simp)
      exact ⟨⟨⟨a, fun j hj => b j (by omega)⟩, by omega⟩, by omega⟩
    ·show f46l3B N (f46l3 N q) w more ps (ps.length : Int) (i : Int) hs ps cs ss ns m1 = _
     unfold f46l3B
     simp only [show ((i : Int) < (ps.length : Int)) by omega, Int.natCast_nonneg, decide_true, Bool.and_true, if_true, Int.toNat_natCast, hz]
     rw [f70_eq N _ _ o1 (by omega) o3 (by omega), andThen_some, f70_eq N _ _ o3 (by omega) o1 (by omega), andThen_some]
     simp only [w_succ (show i < 4611686018427387904 by omega)]
   ·left
    have : i = ps.length := by omega
    subst this
    refine ⟨_, ?_, m1, rfl, i2⟩
    show f46l3B N (f46l3 N q) w more ps (ps.length : Int) (ps.length : Int) hs ps cs ss ns m1 = _
    unfold f46l3B
    rw [if_neg (by simp)]) N (0, m) ⟨Nat.zero_le _, hm.congr fun t => ⟨fun h => ⟨h, fun p hp => absurd hp (Nat.not_lt_zero _)⟩, fun h => h.1⟩⟩ (by simpa using hN)
 rw [h2] at h1
 exact ⟨m', h1, h3.congr fun t => by rw [hgood]⟩
def bitOff (w : Int) (i : Nat) : Bool := Go.IntKind.wrap .i64 (((((BitVec.ofInt (Go.IntKind.bits .i64) (Int.fdiv w (2 ^ (min i (Go.IntKind.bits .i64))))) &&& (BitVec.ofInt (Go.IntKind.bits .i64) (1 : Int)))).toNat : Nat) : Int) == (0 : Int)
theorem bitOff_zero (i : Nat) : bitOff 0 i = true := by
 unfold bitOff
 rw [Int.zero_fdiv]
 rfl
def nt (ns : List Nt) (i : Nat) : Nt := ns.getD i (Sum.inl ((0 : Int), ((0 : Int), false)))
def NoteOk (x : Nt) (t : Nat → Int) : Prop := NoteT x (t (plc x).toNat)
theorem note_eq (N : Nat) {x : Nt} {n : Nat} {m : List Int} {R : (Nat → Int) → Prop} (h : Tells m R) (hn : n ≤ 5) (hx : okNt n x) {S : Type} (k : List Int → Option S) :
  ∃ m', either x (fun z => andThen (f99 N z.1 z.2.1 z.2.2 m) k) (fun z => andThen (f100 N z.1 z.2.1.1 z.2.1.2 z.2.2 m) k) = k m' ∧ Tells m' fun t => R t ∧ NoteT x (t (plc x).toNat - t 5) := by
 cases x with
 | inl c =>
  obtain ⟨m', e1, e2⟩ := cone_eq N h hn hx
  exact ⟨m', by rw [either_inl, e1, andThen_some], e2⟩
 | inr s =>
  obtain ⟨m', e1, e2⟩ := sign_eq N h hn hx
  exact ⟨m', by rw [either_inr, e1, andThen_some], e2⟩
theorem f46l4_eq (N : Nat) (w : Int) (more ns : List Nt) (n : Nat) (hn : n ≤ 5) (hN : ns.length < N) (hl : ns.length < 1000000) (hok : ∀ x ∈ ns, okNt n x) {m : List Int} {R : (Nat → Int) → Prop} (hm : Tells m R) :
  ∃ m', f46l4 N N w more ns (ns.length : Int) 0 m = some (more, m') ∧ Tells m' fun t => R t ∧ ∀ i, i < ns.length → bitOff w i = true → NoteT (nt ns i) (t (plc (nt ns i)).toNat - t 5) := by
 obtain ⟨r, h1, m', h2, h3⟩ := loop_run (fun q (s : Nat × List Int) => f46l4 N q w more ns (ns.length : Int) (s.1 : Int) s.2)
  (fun s => s.1 ≤ ns.length ∧ Tells s.2 fun t => R t ∧ ∀ i, i < s.1 → bitOff w i = true → NoteT (nt ns i) (t (plc (nt ns i)).toNat - t 5)) (fun s => ns.length - s.1)
  (fun r => ∃ m', r = (more, m') ∧ Tells m' fun t => R t ∧ ∀ i, i < ns.length → bitOff w i = true → NoteT (nt ns i) (t (plc (nt ns i)).toNat - t 5)) (by
   rintro q ⟨i, m1⟩ ⟨i1, i2⟩
   simp only at i1 i2 ⊢
   by_cases hi : i < ns.length
   ·right
    have hx : okNt n (nt ns i) := hok _ (by unfold nt; rw [List.getD_eq_getElem?_getD, List.getElem?_eq_getElem hi]; exact List.getElem_mem hi)
    have hstep : ∀ k : Int → List Nt → List Nt → Int → Int → List Int → Option (List Nt × List Int), f46l4B N k w more ns (ns.length : Int) (i : Int) m1 =
      if bitOff w i = true then either (nt ns i) (fun z => andThen (f99 N z.1 z.2.1 z.2.2 m1) (fun y => k w more ns (ns.length : Int) ((i + 1 : Nat) : Int) y)) (fun z => andThen (f100 N z.1 z.2.1.1 z.2.1.2 z.2.2 m1) (fun y => k w more ns (ns.length : Int) ((i + 1 : Nat) : Int) y)) else k w more ns (ns.length : Int) ((i + 1 : Nat) : Int) m1 := fun k => by
     unfold f46l4B
     simp only [show ((i : Int) < (ns.length : Int)) by omega, Int.natCast_nonneg, decide_true, Bool.and_true, if_true, Int.toNat_natCast, w_succ (show i < 4611686018427387904 by omega)]
     rfl
    by_cases hb : bitOff w i = true
    ·obtain ⟨m2, e1, e2⟩ := note_eq N i2 hn hx (fun y => f46l4 N q w more ns (ns.length : Int) ((i + 1 : Nat) : Int) y)
     refine ⟨(i + 1, m2), ⟨hi, e2.congr fun t => ?_⟩, show ns.length - (i + 1) < ns.length - i by omega, ?_⟩
     ·constructor
      ·rintro ⟨⟨a, b⟩, c⟩
       refine ⟨a, fun j hj => ?_⟩
       rcases Nat.lt_or_ge j i with h | h
       ·exact b j h
       ·have : j = i := by omega
        subst this; exact fun _ => c
      ·rintro ⟨a, b⟩
       exact ⟨⟨a, fun j hj => b j (by omega)⟩, b i (by omega) hb⟩
     ·show f46l4B N (f46l4 N q) w more ns (ns.length : Int) (i : Int) m1 = _
      rw [hstep, if_pos hb, e1]
    ·refine ⟨(i + 1, m1), ⟨hi, i2.congr fun t => ?_⟩, show ns.length - (i + 1) < ns.length - i by omega, ?_⟩
     ·constructor
      ·rintro ⟨a, b⟩
       refine ⟨a, fun j hj => ?_⟩
       rcases Nat.lt_or_ge j i with h | h
       ·exact b j h
       ·have : j = i := by omega
        subst this; exact fun h => absurd h hb
      ·rintro ⟨a, b⟩
       exact ⟨a, fun j hj => b j (by omega)⟩
     ·show f46l4B N (f46l4 N q) w more ns (ns.length : Int) (i : Int) m1 = _
      rw [hstep, if_neg hb]
   ·left
    have : i = ns.length := by omega
    subst this
    refine ⟨_, ?_, m1, rfl, i2⟩
    show f46l4B N (f46l4 N q) w more ns (ns.length : Int) (ns.length : Int) m1 = _
    unfold f46l4B
    rw [if_neg (by simp)]) N (0, m) ⟨Nat.zero_le _, hm.congr fun t => ⟨fun h => ⟨h, fun p hp => absurd hp (Nat.not_lt_zero _)⟩, fun h => h.1⟩⟩ (by simpa using hN)
 rw [h2] at h1
 exact ⟨m', h1, h3⟩
theorem f46l5_eq (N : Nat) (ns : List Nt) (n : Nat) (hn : n ≤ 5) (hN : ns.length < N) (hl : ns.length < 1000000) (hok : ∀ x ∈ ns, okNt n x) {m : List Int} {R : (Nat → Int) → Prop} (hm : Tells m R) :
  ∃ m', f46l5 N N ns (ns.length : Int) 0 m = some m' ∧ Tells m' fun t => R t ∧ ∀ i, i < ns.length → NoteT (nt ns i) (t (plc (nt ns i)).toNat - t 5) := by
 obtain ⟨r, h1, m', h2, h3⟩ := loop_run (fun q (s : Nat × List Int) => f46l5 N q ns (ns.length : Int) (s.1 : Int) s.2)
  (fun s => s.1 ≤ ns.length ∧ Tells s.2 fun t => R t ∧ ∀ i, i < s.1 → NoteT (nt ns i) (t (plc (nt ns i)).toNat - t 5)) (fun s => ns.length - s.1)
  (fun r => ∃ m', r = m' ∧ Tells m' fun t => R t ∧ ∀ i, i < ns.length → NoteT (nt ns i) (t (plc (nt ns i)).toNat - t 5)) (by
   rintro q ⟨i, m1⟩ ⟨i1, i2⟩
   simp only at i1 i2 ⊢
   by_cases hi : i < ns.length
   ·right
    have hx : okNt n (nt ns i) := hok _ (by unfold nt; rw [List.getD_eq_getElem?_getD, List.getElem?_eq_getElem hi]; exact List.getElem_mem hi)
    obtain ⟨m2, e1, e2⟩ := note_eq N i2 hn hx (fun y => f46l5 N q ns (ns.length : Int) ((i + 1 : Nat) : Int) y)
    refine ⟨(i + 1, m2), ⟨hi, e2.congr fun t => ?_⟩, show ns.length - (i + 1) < ns.length - i by omega, ?_⟩
    ·constructor
     ·rintro ⟨⟨a, b⟩, c⟩
      refine ⟨a, fun j hj => ?_⟩
      rcases Nat.lt_or_ge j i with h | h
      ·exact b j h
      ·have : j = i := by omega
       subst this; exact c
     ·rintro ⟨a, b⟩
      exact ⟨⟨a, fun j hj => b j (by omega)⟩, b i (by omega)⟩
    ·show f46l5B N (f46l5 N q) ns (ns.length : Int) (i : Int) m1 = _
     unfold f46l5B
     simp only [show ((i : Int) < (ns.length : Int)) by omega, Int.natCast_nonneg, decide_true, Bool.and_true, if_true, Int.toNat_natCast, w_succ (show i < 4611686018427387904 by omega)]
     exact e1
   ·left
    have : i = ns.length := by omega
    subst this
    refine ⟨_, ?_, m1, rfl, i2⟩
    show f46l5B N (f46l5 N q) ns (ns.length : Int) (ns.length : Int) m1 = _
    unfold f46l5B
    rw [if_neg (by simp)]) N (0, m) ⟨Nat.zero_le _, hm.congr fun t => ⟨fun h => ⟨h, fun p hp => absurd hp (Nat.not_lt_zero _)⟩, fun h => h.1⟩⟩ (by simpa using hN)
 rw [h2] at h1
 exact ⟨m', h1, h3⟩
def Truth (hs : List Span) (ps : List Pr) (K : Nt → Prop) (t : Nat → Int) : Prop := Box hs t ∧ Prs ps t ∧ ∀ x, K x → NoteOk x t
def zt (t : Nat → Int) (a : Nat) : Int := if a = 5 then 0 else t a
structure Tight (n : Nat) (m : List Int) (T : (Nat → Int) → Prop) : Prop where
 len : m.length = 36
 up : ∀ t, T t → ∀ a b, (a < n ∨ a = 5) → (b < n ∨ b = 5) → zt t b - zt t a ≤ ent m a b
 att : ∀ a b, (a < n ∨ a = 5) → (b < n ∨ b = 5) → ∃ t, T t ∧ zt t b - zt t a = ent m a b
 all : ∀ a, (a < n ∨ a = 5) → ∃ t, T t ∧ ∀ b, (b < n ∨ b = 5) → zt t b - zt t a = ent m a b
 fine : Fine m
 to : ∀ t, T t → Sat m (fun a => if a < n then t a else 0)
 fro : ∀ t, Sat m t → T (fun a => t a - t 5)
theorem truth_shift {hs : List Span} {ps : List Pr} {K : Nt → Prop} {t t' : Nat → Int} {n : Nat} (hn : hs.length = n) (hp : ∀ q ∈ ps, okPr n q) (hK : ∀ x, K x → okNt n x) (h : ∀ p, p < n → t' p = t p) (ht : Truth hs ps K t) : Truth hs ps K t' := by
 refine ⟨fun p hp' => by rw [h p (by omega)]; exact ht.1 p hp', fun q hq => ?_, fun x hx => ?_⟩
 ·obtain ⟨o1, o2, o3, o4, _⟩ := hp q hq
  rw [h q.1.toNat (by omega), h q.2.1.toNat (by omega)]
  exact ht.2.1 q hq
 ·have : (plc x).toNat < n := by
   have := hK x hx
   cases x with
   | inl c => obtain ⟨o1, o2, _⟩ := this; show c.1.toNat < n; omega
   | inr s => obtain ⟨o1, o2, _⟩ := this; show s.1.toNat < n; omega
  unfold NoteOk
  rw [h _ this]
  exact ht.2.2 x hx
theorem gaps_spec (N : Nat) (w : Int) (hs : List Span) (ps : List Pr) (cs : List Cn) (ss : List Sg) (ns more : List Nt) (hN : 1000 ≤ N) (hn : 1 ≤ hs.length) (hn5 : hs.length ≤ 5) (hok : ∀ s ∈ hs, okSp s) (hp : ∀ q ∈ ps, okPr hs.length q)
  (hpl : ps.length ≤ 12) (hns : ∀ x ∈ ns, okNt hs.length x) (hnl : ns.length ≤ 24) (hmo : ∀ x ∈ more, okNt hs.length x) (hml : more.length ≤ 24) :
  ∃ m ok, f46 N hs ps cs ss ns w more = some (m, ok) ∧ (ok = true ↔ ∃ t, Truth hs ps (fun x => (∃ i, i < ns.length ∧ bitOff w i = true ∧ x = nt ns i) ∨ x ∈ more) t) ∧
   (ok = true → Tight hs.length m (Truth hs ps (fun x => (∃ i, i < ns.length ∧ bitOff w i = true ∧ x = nt ns i) ∨ x ∈ more))) := by
 have hKok : ∀ x, ((∃ i, i < ns.length ∧ bitOff w i = true ∧ x = nt ns i) ∨ x ∈ more) → okNt hs.length x := fun x hx => by
  rcases hx with ⟨i, hi, _, rfl⟩ | hx
  ·exact hns _ (by unfold nt; rw [List.getD_eq_getElem?_getD, List.getElem?_eq_getElem hi]; exact List.getElem_mem hi)
  ·exact hmo x hx
 generalize hT : Truth hs ps (fun x => (∃ i, i < ns.length ∧ bitOff w i = true ∧ x = nt ns i) ∨ x ∈ more) = T
 have hTd : ∀ t, T t ↔ Box hs t ∧ Prs ps t ∧ (∀ i, i < ns.length → bitOff w i = true → NoteOk (nt ns i) t) ∧ ∀ x ∈ more, NoteOk x t := fun t => by
  rw [← hT]
  constructor
  ·rintro ⟨a, b, c⟩
   exact ⟨a, b, fun i hi hb => c _ (.inl ⟨i, hi, hb, rfl⟩), fun x hx => c x (.inr hx)⟩
  ·rintro ⟨a, b, c, d⟩
   refine ⟨a, b, fun x hx => ?_⟩
   rcases hx with ⟨i, hi, hb, rfl⟩ | hx
   ·exact c i hi hb
   ·exact d x hx
 have hsh : ∀ t t' : Nat → Int, (∀ p, p < hs.length → t' p = t p) → T t → T t' := fun t t' h ht => by rw [← hT] at ht ⊢; exact truth_shift rfl hp hKok h ht
 obtain ⟨k, rfl⟩ : ∃ k, N = k + 10 := ⟨N - 10, by omega⟩
 obtain ⟨m1, e1, t1⟩ := f46l2_eq (k + 10) w more hs ps cs ss ns (by omega) hn5 hok init_tells
 obtain ⟨m2, e2, t2⟩ := f46l3_eq (k + 10) w more hs ps cs ss ns hs.length hn5 (by omega) (by omega) hp t1
 obtain ⟨m3, e3, t3⟩ := f46l4_eq (k + 10) w more ns hs.length hn5 (by omega) (by omega) hns t2
 obtain ⟨m4, e4, t4⟩ := f46l5_eq (k + 10) more hs.length hn5 (by omega) (by omega) hmo t3
 obtain ⟨ok, e5, h5⟩ := f71_eq (k + 10) m4 (by omega)
 obtain ⟨s1, s2, s3, s4⟩ := fw_spec t4.1.1 t4.1.2.1 t4.1.2.2
 -- what the matrix says is what the furnace says
 have to : ∀ t, T t → Sat m4 (fun a => if a < hs.length then t a else 0) := fun t ht => by
  rw [t4.2]
  obtain ⟨a, b, c, d⟩ := (hTd t).1 ht
  have hbx : ∀ p, p < hs.length → 0 ≤ t p ∧ t p ≤ 1000 := fun p hp' => by
   have h1 := a p hp'
   have h2 : okSp (sp hs p) := hok _ (by unfold sp; rw [List.getD_eq_getElem?_getD, List.getElem?_eq_getElem hp']; exact List.getElem_mem hp')
   obtain ⟨o1, o2, o3⟩ := h2
   omega
  have h50 : ¬ 5 < hs.length := by omega
  have hpl : ∀ x, okNt hs.length x → (plc x).toNat < hs.length := fun x hx => by
   cases x with
   | inl c => obtain ⟨o1, o2, _⟩ := hx; show c.1.toNat < hs.length; omega
   | inr s => obtain ⟨o1, o2, _⟩ := hx; show s.1.toNat < hs.length; omega
  refine ⟨⟨⟨⟨fun x y hx hy => ?_, fun p hp' => ?_⟩, fun q hq => ?_⟩, fun i hi hb => ?_⟩, fun i hi => ?_⟩
  ·have h1 := hbx x
   have h2 := hbx y
   show (if y < hs.length then t y else 0) - (if x < hs.length then t x else 0) ≤ 1048576
   split <;> split <;> omega
  ·simp only [if_pos hp', if_neg h50]
   have := a p hp'
   omega
  ·obtain ⟨o1, o2, o3, o4, _⟩ := hp q hq
   simp only [if_pos (show q.1.toNat < hs.length by omega), if_pos (show q.2.1.toNat < hs.length by omega)]
   exact b q hq
  ·have hx := hKok _ (.inl ⟨i, hi, hb, rfl⟩)
   simp only [if_pos (hpl _ hx), if_neg h50, Int.sub_zero]
   exact c i hi hb
  ·have hm : nt more i ∈ more := by unfold nt; rw [List.getD_eq_getElem?_getD, List.getElem?_eq_getElem hi]; exact List.getElem_mem hi
   simp only [if_pos (hpl _ (hmo _ hm)), if_neg h50, Int.sub_zero]
   exact d _ hm
 have fro : ∀ t, Sat m4 t → T (fun a => t a - t 5) := fun t ht => by
  rw [t4.2] at ht
  obtain ⟨⟨⟨⟨_, b⟩, c⟩, d⟩, e⟩ := ht
  refine (hTd _).2 ⟨b, fun q hq => ?_, d, fun x hx => ?_⟩
  ·have := c q hq
   show (t q.1.toNat - t 5) - (t q.2.1.toNat - t 5) ≤ q.2.2 ∧ (t q.2.1.toNat - t 5) - (t q.1.toNat - t 5) ≤ q.2.2
   omega
  ·obtain ⟨i, hi, e'⟩ := List.getElem_of_mem hx
   have := e i hi
   unfold nt at this
   rw [List.getD_eq_getElem?_getD, List.getElem?_eq_getElem hi] at this
   simp only [Option.getD_some, e'] at this
   exact this
 refine ⟨fw 6 m4, ok, ?_, ?_, fun hk => ?_⟩
 ·unfold f46
  have e0 := f46l0_eq k w more hs ps cs ss ns
  unfold zero6 at e0
  rw [e0, andThen_some]
  simp only [e1, e2, e3, e4, e5, andThen_some]
 ·rw [h5, s2]
  exact ⟨fun ⟨t, ht⟩ => ⟨_, fro t ht⟩, fun ⟨t, ht⟩ => ⟨_, to t ht⟩⟩
 ·have hd := h5.1 hk
  have hup : ∀ t, T t → ∀ a b, (a < hs.length ∨ a = 5) → (b < hs.length ∨ b = 5) → zt t b - zt t a ≤ ent (fw 6 m4) a b := fun t ht a b ha hb => by
   have := s3 _ (to t ht) a b (by omega) (by omega)
   have ez : ∀ x, (x < hs.length ∨ x = 5) → (if x < hs.length then t x else 0) = zt t x := fun x hx => by
    unfold zt
    by_cases h5 : x = 5
    ·rw [if_pos h5, if_neg (by omega)]
    ·rw [if_neg h5, if_pos (by omega)]
   simp only [ez a ha, ez b hb] at this
   exact this
  have hall : ∀ a, (a < hs.length ∨ a = 5) → ∃ t, T t ∧ ∀ b, (b < hs.length ∨ b = 5) → zt t b - zt t a = ent (fw 6 m4) a b := fun a ha => by
   obtain ⟨c1, c2⟩ := s4 hd a (by omega)
   refine ⟨_, fro _ c1, fun b hb => ?_⟩
   unfold zt
   by_cases hb5 : b = 5 <;> by_cases ha5 : a = 5
   ·subst hb5; subst ha5; simp [c2]
   ·subst hb5; simp [ha5, c2]
   ·subst ha5; simp [hb5, c2]
   ·simp [ha5, hb5, c2]
  have hle := fw_le t4.1.1 6 (Nat.le_refl _) 0 (by omega)
  refine ⟨s1, hup, fun a b ha hb => by obtain ⟨t, h1, h2⟩ := hall a ha; exact ⟨t, h1, h2 b hb⟩, hall, ⟨s1, fun a b ha hb => ?_, fun a ha => ?_⟩, fun t ht => s3 _ (to t ht), fun t ht => fro t fun a b ha hb => Int.le_trans (ht a b ha hb) (hle.2 a b ha hb)⟩
  ·obtain ⟨t, ht, _⟩ := hall 5 (.inr rfl)
   have h1 := s3 _ (to t ht) a b ha hb
   have h2 := hle.2 a b ha hb
   have h3 : ent (fw 0 m4) a b = ent m4 a b := rfl
   have h4 := (t4.1.2.1 a b ha hb).2
   have hbx : ∀ p, p < hs.length → 0 ≤ t p ∧ t p ≤ 1000 := fun p hp' => by
    have h1 := ((hTd t).1 ht).1 p hp'
    have h2 : okSp (sp hs p) := hok _ (by unfold sp; rw [List.getD_eq_getElem?_getD, List.getElem?_eq_getElem hp']; exact List.getElem_mem hp')
    obtain ⟨o1, o2, o3⟩ := h2
    omega
   have g1 := hbx a
   have g2 := hbx b
   have h1 : (if b < hs.length then t b else 0) - (if a < hs.length then t a else 0) ≤ ent (fw 6 m4) a b := h1
   split at h1 <;> split at h1 <;> omega
  ·exact Int.le_of_eq (s4 hd a ha).2
end Go.Pl


namespace Go.Pl
open Go.Al Go.Proofs
theorem search {R : Type} (L : Nat → Nat → Option R) (n : Nat) (p : Nat → Bool) (hit : Nat → R) (miss : R) (step : ∀ q i, i < n → L (q + 1) i = if p i = true then some (hit i) else L q (i + 1)) (stop : ∀ q, L (q + 1) n = some miss)
  (N : Nat) (hN : n < N) : (∃ i, i < n ∧ p i = true ∧ (∀ j, j < i → p j = false) ∧ L N 0 = some (hit i)) ∨ ((∀ i, i < n → p i = false) ∧ L N 0 = some miss) := by
 obtain ⟨r, h1, h2⟩ := loop_run L (fun i => i ≤ n ∧ ∀ j, j < i → p j = false) (fun i => n - i) (fun r => (∃ i, i < n ∧ p i = true ∧ (∀ j, j < i → p j = false) ∧ r = hit i) ∨ ((∀ i, i < n → p i = false) ∧ r = miss)) (fun q i hi => by
  by_cases h : i < n
  ·by_cases hp : p i = true
   ·left; exact ⟨hit i, by rw [step q i h, if_pos hp], .inl ⟨i, h, hp, hi.2, rfl⟩⟩
   ·right
    refine ⟨i + 1, ⟨h, fun j hj => ?_⟩, by omega, by rw [step q i h, if_neg hp]⟩
    rcases Nat.lt_or_ge j i with h' | h'
    ·exact hi.2 j h'
    ·have : j = i := by omega
     subst this; simpa using hp
  ·left
   have : i = n := by omega
   subst this
   exact ⟨miss, stop q, .inr ⟨hi.2, rfl⟩⟩) N 0 ⟨by omega, fun j hj => absurd hj (Nat.not_lt_zero _)⟩ (by simpa using hN)
 rcases h2 with ⟨i, a, b, c, rfl⟩ | ⟨a, rfl⟩
 ·exact .inl ⟨i, a, b, c, h1⟩
 ·exact .inr ⟨a, h1⟩
theorem getD_mem {α : Type} {l : List α} {d : α} {i : Nat} (hi : i < l.length) : l.getD i d ∈ l := by
 rw [List.getD_eq_getElem?_getD, List.getElem?_eq_getElem hi]; exact List.getElem_mem hi
theorem getD_of_mem {α : Type} {l : List α} {x : α} (d : α) (hx : x ∈ l) : ∃ i, i < l.length ∧ l.getD i d = x := by
 obtain ⟨i, hi, e⟩ := List.getElem_of_mem hx
 exact ⟨i, hi, by rw [List.getD_eq_getElem?_getD, List.getElem?_eq_getElem hi]; exact e⟩
theorem searchL {α R : Type} (l : List α) (d : α) (P : α → Bool) (L : Nat → Nat → Option R) (hit : Nat → R) (miss : R) (step : ∀ q i, i < l.length → L (q + 1) i = if P (l.getD i d) = true then some (hit i) else L q (i + 1)) (stop : ∀ q, L (q + 1) l.length = some miss)
  (N : Nat) (hN : l.length < N) : (∃ i, i < l.length ∧ l.any P = true ∧ L N 0 = some (hit i)) ∨ (l.any P = false ∧ L N 0 = some miss) := by
 rcases search L l.length (fun i => P (l.getD i d)) hit miss step stop N hN with ⟨i, h1, h2, _, h4⟩ | ⟨h1, h2⟩
 ·exact .inl ⟨i, h1, List.any_eq_true.2 ⟨_, getD_mem h1, h2⟩, h4⟩
 ·refine .inr ⟨?_, h2⟩
  rw [List.any_eq_false]
  intro x hx
  obtain ⟨i, hi, e⟩ := getD_of_mem d hx
  have := h1 i hi
  simp only [e] at this
  simp [this]
def inB (lo hi n : Int) : Bool := decide (lo ≤ n) && decide (n ≤ hi)
theorem f47_eq (N : Nat) (x lo hi : Int) : f47 N x lo hi = some (!inB lo hi x, lo, hi) := by
 unfold f47 inB
 by_cases h : x < lo
 ·have : ¬ lo ≤ x := by omega
  simp [h, this]
 ·have h' : lo ≤ x := by omega
  have e : decide (x > hi) = !decide (x ≤ hi) := by rw [← decide_not, decide_eq_decide]; omega
  simp [h, h', e]
theorem f58a_eq (N : Nat) (l : List Int) (lo hi : Int) (hN : l.length < N) (hl : l.length < 1000000) : ∃ r, f58a N l lo hi = some (r, lo, hi) ∧ decide (r ≥ 0) = l.any fun n => !inB lo hi n := by
 unfold f58a
 rcases searchL l (0 : Int) (fun n => !inB lo hi n) (fun q i => f58al0 N q l (l.length : Int) (i : Int) lo hi) (fun i => .inl ((i : Int), lo, hi)) (.inr (lo, hi)) (fun q i hi' => by
  show f58al0B N (f58al0 N q) l (l.length : Int) (i : Int) lo hi = _
  unfold f58al0B
  simp only [show ((i : Int) < (l.length : Int)) by omega, Int.natCast_nonneg, decide_true, Bool.and_true, if_true, Int.toNat_natCast, w_succ (show i < 4611686018427387904 by omega), f47_eq, andThen_some]) (fun q => by
  show f58al0B N (f58al0 N q) l (l.length : Int) (l.length : Int) lo hi = _
  unfold f58al0B
  rw [if_neg (by simp)]) N hN with ⟨i, hi', ha, hr⟩ | ⟨ha, hr⟩
 ·have hr : f58al0 N N l (l.length : Int) 0 lo hi = some (.inl ((i : Int), lo, hi)) := hr
  exact ⟨i, by rw [hr]; rfl, by rw [ha]; simp⟩
 ·have hr : f58al0 N N l (l.length : Int) 0 lo hi = some (.inr (lo, hi)) := hr
  exact ⟨-1, by rw [hr]; rfl, by rw [ha]; rfl⟩
theorem f24_eq (N : Nat) (l : List Int) (lo hi : Int) (hN : l.length < N) (hl : l.length < 1000000) : f24 N lo hi l = some (l.all (inB lo hi)) := by
 obtain ⟨r, h1, h2⟩ := f58a_eq N l lo hi hN hl
 unfold f24 f42a
 rw [h1, andThen_some, andThen_some, h2]
 simp [List.all_eq_not_any_not]
instance (s : Span) : Decidable (okSp s) := by unfold okSp; infer_instance
instance (n : Nat) (q : Pr) : Decidable (okPr n q) := by unfold okPr; infer_instance
instance (n : Nat) (q : Cn) : Decidable (okCn n q) := by unfold okCn; infer_instance
instance (s : Span) : Decidable (okWr s) := by unfold okWr; infer_instance
instance (n : Nat) (q : Sg) : Decidable (okSg n q) := by unfold okSg; infer_instance
theorem f59_eq (N : Nat) (s : Span) (hN : 100 ≤ N) : f59 N s.1 s.2 = some (!decide (okSp s)) := by
 unfold f59
 rw [f24_eq N _ _ _ (by simp; omega) (by simp)]
 simp only [andThen_some, List.all_cons, List.all_nil, inB, Bool.and_true]
 by_cases h1 : 0 ≤ s.1 <;> by_cases h2 : s.1 ≤ 1000 <;> by_cases h3 : 0 ≤ s.2 <;> by_cases h4 : s.2 ≤ 1000 <;> by_cases h5 : s.1 ≤ s.2 <;> simp [okSp, h1, h2, h3, h4, h5] <;> omega
theorem f60_eq (N : Nat) (l : List Int) (hs : List Span) (ps : List Pr) (cs : List Cn) (ss : List Sg) (hN : 100 ≤ N) (hl : l.length < 100) (hn : hs.length < 1000000) : f60 N l hs ps cs ss = some (l.all (inB 0 ((hs.length : Int) - 1)), hs, ps, cs, ss) := by
 unfold f60
 rw [w64_id (by omega) (by omega), f24_eq N _ _ _ (by omega) (by omega)]
 rfl
theorem f61_eq (N : Nat) (q : Pr) (hs : List Span) (ps : List Pr) (cs : List Cn) (ss : List Sg) (hN : 100 ≤ N) (hn : hs.length < 1000000) : f61 N q.1 q.2.1 q.2.2 hs ps cs ss = some (!decide (okPr hs.length q), hs, ps, cs, ss) := by
 unfold f61
 rw [f60_eq N _ _ _ _ _ hN (by simp) hn, f24_eq N _ _ _ (by simp; omega) (by simp)]
 simp only [andThen_some, List.all_cons, List.all_nil, inB, Bool.and_true]
 have e : ∀ x : Int, decide (x ≤ (hs.length : Int) - 1) = decide (x < (hs.length : Int)) := fun x => by rw [decide_eq_decide]; omega
 simp only [e, okPr]
 by_cases h1 : 0 ≤ q.1 <;> by_cases h2 : q.1 < hs.length <;> by_cases h3 : 0 ≤ q.2.1 <;> by_cases h4 : q.2.1 < hs.length <;> by_cases h5 : q.1 = q.2.1 <;> simp [h1, h2, h3, h4, h5]
theorem f62_eq (N : Nat) (q : Cn) (hs : List Span) (ps : List Pr) (cs : List Cn) (ss : List Sg) (hN : 100 ≤ N) (hn : hs.length < 1000000) : f62 N q.1 q.2.1 q.2.2 hs ps cs ss = some (!decide (okCn hs.length q), hs, ps, cs, ss) := by
 unfold f62
 rw [f60_eq N _ _ _ _ _ hN (by simp) hn, f24_eq N _ _ _ (by simp; omega) (by simp)]
 simp only [andThen_some, List.all_cons, List.all_nil, inB, Bool.and_true]
 have e : ∀ x : Int, decide (x ≤ (hs.length : Int) - 1) = decide (x < (hs.length : Int)) := fun x => by rw [decide_eq_decide]; omega
 simp only [e, okCn]
 by_cases h1 : 0 ≤ q.1 <;> by_cases h2 : q.1 < hs.length <;> simp [*]
theorem f25_eq (N : Nat) (w : Span) (hN : 100 ≤ N) : f25 N w.1 w.2 = some (decide (okWr w)) := by
 unfold f25
 rw [f24_eq N _ _ _ (by simp; omega) (by simp)]
 simp only [andThen_some, List.all_cons, List.all_nil, inB, Bool.and_true]
 by_cases h1 : 0 ≤ w.1 <;> by_cases h2 : w.1 ≤ 1000 <;> by_cases h3 : 0 ≤ w.2 <;> by_cases h4 : w.2 ≤ 1000 <;> by_cases h5 : w.1 < w.2 <;> simp [okWr, h1, h2, h3, h4, h5] <;> omega
theorem f63_eq (N : Nat) (q : Sg) (hs : List Span) (ps : List Pr) (cs : List Cn) (ss : List Sg) (hN : 100 ≤ N) (hn : hs.length < 1000000) : f63 N q.1 q.2.1.1 q.2.1.2 q.2.2 hs ps cs ss = some (!decide (okSg hs.length q), hs, ps, cs, ss) := by
 unfold f63
 rw [f60_eq N _ _ _ _ _ hN (by simp) hn, f25_eq N _ hN]
 simp only [andThen_some, List.all_cons, List.all_nil, inB, Bool.and_true]
 have e : ∀ x : Int, decide (x ≤ (hs.length : Int) - 1) = decide (x < (hs.length : Int)) := fun x => by rw [decide_eq_decide]; omega
 simp only [e, okSg]
 by_cases h1 : 0 ≤ q.1 <;> by_cases h2 : q.1 < hs.length <;> by_cases h3 : okWr q.2.1 <;> by_cases h4 : q.2.2 < 1 <;> by_cases h5 : q.2.2 > 3 <;> simp [h1, h2, h3, h4, h5] <;> omega
theorem any_all {α : Type} (l : List α) (P : α → Prop) [DecidablePred P] : (l.any fun x => !decide (P x)) = !decide (∀ x ∈ l, P x) := by
 rw [Bool.eq_iff_iff]
 simp
theorem f64_eq (N : Nat) (hs : List Span) (hN : 100 ≤ N) (hn : hs.length < 100) : f64 N hs = some (!decide (∀ s ∈ hs, okSp s)) := by
 unfold f64 f77
 rcases searchL hs ((0 : Int), (0 : Int)) (fun s => !decide (okSp s)) (fun q i => f77l0 N q hs (hs.length : Int) (i : Int)) (fun i => .inl (i : Int)) (.inr ()) (fun q i hi => by
  show f77l0B N (f77l0 N q) hs (hs.length : Int) (i : Int) = _
  unfold f77l0B
  simp only [show ((i : Int) < (hs.length : Int)) by omega, Int.natCast_nonneg, decide_true, Bool.and_true, if_true, Int.toNat_natCast, w_succ (show i < 4611686018427387904 by omega), f59_eq N _ hN, andThen_some]) (fun q => by
  show f77l0B N (f77l0 N q) hs (hs.length : Int) (hs.length : Int) = _
  unfold f77l0B
  rw [if_neg (by simp)]) N (by omega) with ⟨i, hi', ha, hr⟩ | ⟨ha, hr⟩
 ·have hr : f77l0 N N hs (hs.length : Int) 0 = some (.inl (i : Int)) := hr
  rw [hr, ← any_all, ha]; simp
 ·have hr : f77l0 N N hs (hs.length : Int) 0 = some (.inr ()) := hr
  rw [hr, ← any_all, ha]; rfl
theorem f65_eq (N : Nat) (l : List Pr) (hs : List Span) (ps : List Pr) (cs : List Cn) (ss : List Sg) (hN : 100 ≤ N) (hn : hs.length < 100) (hl : l.length < 100) : f65 N l hs ps cs ss = some (!decide (∀ q ∈ l, okPr hs.length q), hs, ps, cs, ss) := by
 unfold f65 f78
 rcases searchL l ((0 : Int), ((0 : Int), (0 : Int))) (fun s => !decide (okPr hs.length s)) (fun q i => f78l0 N q l (l.length : Int) (i : Int) hs ps cs ss) (fun i => .inl ((i : Int), hs, ps, cs, ss)) (.inr (hs, ps, cs, ss)) (fun q i hi => by
  show f78l0B N (f78l0 N q) l (l.length : Int) (i : Int) hs ps cs ss = _
  unfold f78l0B
  simp only [show ((i : Int) < (l.length : Int)) by omega, Int.natCast_nonneg, decide_true, Bool.and_true, if_true, Int.toNat_natCast, w_succ (show i < 4611686018427387904 by omega), f61_eq N _ _ _ _ _ hN (show hs.length < 1000000 by omega), andThen_some]) (fun q => by
  show f78l0B N (f78l0 N q) l (l.length : Int) (l.length : Int) hs ps cs ss = _
  unfold f78l0B
  rw [if_neg (by simp)]) N (by omega) with ⟨i, hi', ha, hr⟩ | ⟨ha, hr⟩
 ·have hr : f78l0 N N l (l.length : Int) 0 hs ps cs ss = some (.inl ((i : Int), hs, ps, cs, ss)) := hr
  rw [hr, ← any_all, ha]; simp
 ·have hr : f78l0 N N l (l.length : Int) 0 hs ps cs ss = some (.inr (hs, ps, cs, ss)) := hr
  rw [hr, ← any_all, ha]; rfl
theorem f66_eq (N : Nat) (l : List Cn) (hs : List Span) (ps : List Pr) (cs : List Cn) (ss : List Sg) (hN : 100 ≤ N) (hn : hs.length < 100) (hl : l.length < 100) : f66 N l hs ps cs ss = some (!decide (∀ q ∈ l, okCn hs.length q), hs, ps, cs, ss) := by
 unfold f66 f79
 rcases searchL l ((0 : Int), ((0 : Int), false)) (fun s => !decide (okCn hs.length s)) (fun q i => f79l0 N q l (l.length : Int) (i : Int) hs ps cs ss) (fun i => .inl ((i : Int), hs, ps, cs, ss)) (.inr (hs, ps, cs, ss)) (fun q i hi => by
  show f79l0B N (f79l0 N q) l (l.length : Int) (i : Int) hs ps cs ss = _
  unfold f79l0B
  simp only [show ((i : Int) < (l.length : Int)) by omega, Int.natCast_nonneg, decide_true, Bool.and_true, if_true, Int.toNat_natCast, w_succ (show i < 4611686018427387904 by omega), f62_eq N _ _ _ _ _ hN (show hs.length < 1000000 by omega), andThen_some]) (fun q => by
  show f79l0B N (f79l0 N q) l (l.length : Int) (l.length : Int) hs ps cs ss = _
  unfold f79l0B
  rw [if_neg (by simp)]) N (by omega) with ⟨i, hi', ha, hr⟩ | ⟨ha, hr⟩
 ·have hr : f79l0 N N l (l.length : Int) 0 hs ps cs ss = some (.inl ((i : Int), hs, ps, cs, ss)) := hr
  rw [hr, ← any_all, ha]; simp
 ·have hr : f79l0 N N l (l.length : Int) 0 hs ps cs ss = some (.inr (hs, ps, cs, ss)) := hr
  rw [hr, ← any_all, ha]; rfl
theorem f67_eq (N : Nat) (l : List Sg) (hs : List Span) (ps : List Pr) (cs : List Cn) (ss : List Sg) (hN : 100 ≤ N) (hn : hs.length < 100) (hl : l.length < 100) : f67 N l hs ps cs ss = some (!decide (∀ q ∈ l, okSg hs.length q), hs, ps, cs, ss) := by
 unfold f67 f80
 rcases searchL l ((0 : Int), (((0 : Int), (0 : Int)), (0 : Int))) (fun s => !decide (okSg hs.length s)) (fun q i => f80l0 N q l (l.length : Int) (i : Int) hs ps cs ss) (fun i => .inl ((i : Int), hs, ps, cs, ss)) (.inr (hs, ps, cs, ss)) (fun q i hi => by
  show f80l0B N (f80l0 N q) l (l.length : Int) (i : Int) hs ps cs ss = _
  unfold f80l0B
  simp only [show ((i : Int) < (l.length : Int)) by omega, Int.natCast_nonneg, decide_true, Bool.and_true, if_true, Int.toNat_natCast, w_succ (show i < 4611686018427387904 by omega), f63_eq N _ _ _ _ _ hN (show hs.length < 1000000 by omega), andThen_some]) (fun q => by
  show f80l0B N (f80l0 N q) l (l.length : Int) (l.length : Int) hs ps cs ss = _
  unfold f80l0B
  rw [if_neg (by simp)]) N (by omega) with ⟨i, hi', ha, hr⟩ | ⟨ha, hr⟩
 ·have hr : f80l0 N N l (l.length : Int) 0 hs ps cs ss = some (.inl ((i : Int), hs, ps, cs, ss)) := hr
  rw [hr, ← any_all, ha]; simp
 ·have hr : f80l0 N N l (l.length : Int) 0 hs ps cs ss = some (.inr (hs, ps, cs, ss)) := hr
  rw [hr, ← any_all, ha]; rfl
def chk (hs : List Span) (ps : List Pr) (cs : List Cn) (ss : List Sg) : Int :=
 if ¬ (1 ≤ hs.length ∧ hs.length ≤ 5) then 4 else if ¬ (∀ s ∈ hs, okSp s) then 4
 else if ¬ (ps.length ≤ 8) then 5 else if ¬ (cs.length ≤ 6) then 5 else if ¬ (ss.length ≤ 4) then 5
 else if ¬ (∀ q ∈ ps, okPr hs.length q) then 2 else if ¬ (∀ c ∈ cs, okCn hs.length c) then 2 else if ¬ (∀ s ∈ ss, okSg hs.length s) then 2 else 0
theorem f44_eq (N : Nat) (hs : List Span) (ps : List Pr) (cs : List Cn) (ss : List Sg) (hN : 100 ≤ N) (h1 : hs.length < 100) (h2 : ps.length < 100) (h3 : cs.length < 100) (h4 : ss.length < 100) : f44 N hs ps cs ss = some (chk hs ps cs ss) := by
 unfold f44 chk
 rw [f24_eq N _ _ _ (by simp; omega) (by simp), f64_eq N hs hN h1, f65_eq N ps hs ps cs ss hN h1 h2]
 simp only [andThen_some, f66_eq N cs hs ps cs ss hN h1 h3, f67_eq N ss hs ps cs ss hN h1 h4, List.all_cons, List.all_nil, inB, Bool.and_true]
 have d1 : decide ((ps.length : Int) > 8) = !decide (ps.length ≤ 8) := by rw [← decide_not, decide_eq_decide]; omega
 have d2 : decide ((cs.length : Int) > 6) = !decide (cs.length ≤ 6) := by rw [← decide_not, decide_eq_decide]; omega
 have d3 : decide ((ss.length : Int) > 4) = !decide (ss.length ≤ 4) := by rw [← decide_not, decide_eq_decide]; omega
 have d4 : (decide ((1 : Int) ≤ (hs.length : Int)) && decide ((hs.length : Int) ≤ 5)) = decide (1 ≤ hs.length ∧ hs.length ≤ 5) := by rw [← Bool.decide_and, decide_eq_decide]; omega
 rw [d1, d2, d3, d4]
 have ifn : ∀ (P : Prop) [Decidable P] (a b : Int), (if ¬ P then a else b) = (if (!decide P) = true then a else b) := fun P _ a b => by by_cases h : P <;> simp [h]
 simp only [ifn]
 generalize decide (1 ≤ hs.length ∧ hs.length ≤ 5) = b1
 generalize decide (∀ s ∈ hs, okSp s) = b2
 generalize decide (ps.length ≤ 8) = b3
 generalize decide (cs.length ≤ 6) = b4
 generalize decide (ss.length ≤ 4) = b5
 generalize decide (∀ q ∈ ps, okPr hs.length q) = b6
 generalize decide (∀ q ∈ cs, okCn hs.length q) = b7
 generalize decide (∀ q ∈ ss, okSg hs.length q) = b8
 cases b1 <;> cases b2 <;> cases b3 <;> cases b4 <;> cases b5 <;> cases b6 <;> cases b7 <;> cases b8 <;> rfl
theorem badSp_eq {R : Type} (s : Span) (a b : R) : (if (!inB 0 s.2 s.1) = false then (if decide (s.2 > 1000) = true then a else b) else a) = if (!decide (okSp s)) = true then a else b := by
 by_cases h1 : 0 ≤ s.1 ∧ s.1 ≤ s.2
 ·have e : inB 0 s.2 s.1 = true := by simp [inB, h1]
  rw [e, if_pos (show (!true) = false from rfl)]
  by_cases h3 : s.2 > 1000
  ·rw [if_pos (decide_eq_true h3), if_pos (by rw [decide_eq_false (by unfold okSp; omega)]; rfl)]
  ·rw [if_neg (fun h => h3 (of_decide_eq_true h)), if_neg (by rw [decide_eq_true (by unfold okSp; omega)]; decide)]
 ·have e : inB 0 s.2 s.1 = false := by
   rw [inB, ← Bool.decide_and]; exact decide_eq_false h1
  rw [e, if_neg (show ¬ (!false) = false by decide), if_pos (by rw [decide_eq_false (by unfold okSp; omega)]; rfl)]
structure Valid (hs : List Span) (ps : List Pr) (cs : List Cn) (ss : List Sg) : Prop where
 n1 : 1 ≤ hs.length
 n5 : hs.length ≤ 5
 h : ∀ s ∈ hs, okSp s
 p8 : ps.length ≤ 8
 c6 : cs.length ≤ 6
 s4 : ss.length ≤ 4
 p : ∀ q ∈ ps, okPr hs.length q
 c : ∀ c ∈ cs, okCn hs.length c
 s : ∀ s ∈ ss, okSg hs.length s
theorem chk_valid {hs : List Span} {ps : List Pr} {cs : List Cn} {ss : List Sg} : chk hs ps cs ss = 0 ↔ Valid hs ps cs ss := by
 unfold chk
 constructor
 ·intro h
  split at h; cases h
  split at h; cases h
  split at h; cases h
  split at h; cases h
  split at h; cases h
  split at h; cases h
  split at h; cases h
  split at h; cases h
  rename_i a b c d e f g i
  have a := Classical.not_not.1 a
  exact ⟨a.1, a.2, Classical.not_not.1 b, Classical.not_not.1 c, Classical.not_not.1 d, Classical.not_not.1 e, Classical.not_not.1 f, Classical.not_not.1 g, Classical.not_not.1 i⟩
 ·intro h
  rw [if_neg (not_not_intro ⟨h.n1, h.n5⟩), if_neg (not_not_intro h.h), if_neg (not_not_intro h.p8), if_neg (not_not_intro h.c6), if_neg (not_not_intro h.s4), if_neg (not_not_intro h.p), if_neg (not_not_intro h.c), if_neg (not_not_intro h.s)]
end Go.Pl


namespace Go.Pl
open Go.Al Go.Proofs
theorem loop_all {R : Type} (L : Nat → Nat → Option R) (n : Nat) (r : R) (step : ∀ q i, i < n → L (q + 1) i = L q (i + 1)) (stop : ∀ q, L (q + 1) n = some r) (N : Nat) (hN : n < N) : L N 0 = some r := by
 obtain ⟨r', h1, h2⟩ := loop_run L (fun i => i ≤ n) (fun i => n - i) (fun x => x = r) (fun q i hi => by
  by_cases h : i < n
  ·right; exact ⟨i + 1, h, by omega, step q i h⟩
  ·left
   have : i = n := by omega
   subst this
   exact ⟨r, stop q, rfl⟩) N 0 (Nat.zero_le _) (by simpa using hN)
 rw [h2] at h1; exact h1
end Go.Pl


namespace Go.Pl
open Go.Al Go.Proofs
theorem dd {p q : Prop} [Decidable p] [Decidable q] (hp : p) (hq : q) : (decide p && decide q) = true := by simp [hp, hq]
theorem d1 {p : Prop} [Decidable p] (hp : p) : decide p = true := decide_eq_true hp
theorem dn {p : Prop} [Decidable p] (hp : ¬ p) : ¬ decide p = true := by simp [hp]
theorem take_getL {α : Type} (l : List α) (d : α) {i : Nat} (hi : i < l.length) : l.take (i + 1) = l.take i ++ [l.getD i d] := by
 rw [List.getD_eq_getElem?_getD, List.getElem?_eq_getElem hi, Option.getD_some, List.take_append_getElem]
theorem ble_b {a b : Nat} (h : a + b ≤ 1000000) : Nat.ble (a + b) boundLen = true := by rw [Nat.ble_eq]; unfold boundLen; omega
theorem acc_run {S R : Type} (L : Nat → Nat → S → Option R) (n : Nat) (a : Nat → S) (r : R) (step : ∀ q i, i < n → L (q + 1) i (a i) = L q (i + 1) (a (i + 1))) (stop : ∀ q, L (q + 1) n (a n) = some r) (N : Nat) (hN : n < N) : L N 0 (a 0) = some r := by
 obtain ⟨r', h1, h2⟩ := loop_run (fun q i => L q i (a i)) (fun i => i ≤ n) (fun i => n - i) (fun x => x = r) (fun q i hi => by
  by_cases h : i < n
  ·right; exact ⟨i + 1, h, by omega, step q i h⟩
  ·left
   have : i = n := by omega
   subst this
   exact ⟨r, stop q, rfl⟩) N 0 (Nat.zero_le _) (by simpa using hN)
 rw [h2] at h1; exact h1
abbrev LP := Int × (Int × Int)
abbrev Mp := List ((Int × Int) × Int)
theorem f43_eq (N : Nat) (x lo hi : Int) : f43 N x lo hi = some (!inB lo hi x, lo, hi) := by
 unfold f43 inB
 by_cases h : x < lo
 ·have : ¬ lo ≤ x := by omega
  simp [h, this]
 ·have h' : lo ≤ x := by omega
  have e : decide (x > hi) = !decide (x ≤ hi) := by rw [← decide_not, decide_eq_decide]; omega
  simp [h, h', e]
theorem f58_eq (N : Nat) (l : List Int) (lo hi : Int) (hN : l.length < N) (hl : l.length < 1000000) : ∃ r, f58 N l lo hi = some (r, lo, hi) ∧ decide (r ≥ 0) = l.any fun n => !inB lo hi n := by
 unfold f58
 rcases searchL l (0 : Int) (fun n => !inB lo hi n) (fun q i => f58l0 N q l (l.length : Int) (i : Int) lo hi) (fun i => .inl ((i : Int), lo, hi)) (.inr (lo, hi)) (fun q i hi' => by
  show f58l0B N (f58l0 N q) l (l.length : Int) (i : Int) lo hi = _
  unfold f58l0B
  simp only [show ((i : Int) < (l.length : Int)) by omega, Int.natCast_nonneg, decide_true, Bool.and_true, if_true, Int.toNat_natCast, w_succ (show i < 4611686018427387904 by omega), f43_eq, andThen_some]) (fun q => by
  show f58l0B N (f58l0 N q) l (l.length : Int) (l.length : Int) lo hi = _
  unfold f58l0B
  rw [if_neg (by simp)]) N hN with ⟨i, hi', ha, hr⟩ | ⟨ha, hr⟩
 ·have hr : f58l0 N N l (l.length : Int) 0 lo hi = some (.inl ((i : Int), lo, hi)) := hr
  exact ⟨i, by rw [hr]; rfl, by rw [ha]; simp⟩
 ·have hr : f58l0 N N l (l.length : Int) 0 lo hi = some (.inr (lo, hi)) := hr
  exact ⟨-1, by rw [hr]; rfl, by rw [ha]; rfl⟩
theorem f20_eq (N : Nat) (l : List Int) (lo hi : Int) (hN : l.length < N) (hl : l.length < 1000000) : f20 N lo hi l = some (l.all (inB lo hi)) := by
 obtain ⟨r, h1, h2⟩ := f58_eq N l lo hi hN hl
 unfold f20 f42
 rw [h1, andThen_some, andThen_some, h2]
 simp [List.all_eq_not_any_not]
theorem inB_iff {lo hi x : Int} : inB lo hi x = true ↔ lo ≤ x ∧ x ≤ hi := by unfold inB; simp
theorem eqK_T0 (a b : Int × Int) : eqK T0 a b = (a.1 == b.1 && a.2 == b.2) := rfl
def mi (ps : List LP) (i : Nat) : Mp := (ps.take i).foldl (fun m p => mput T0 (p.1, p.2.1) p.2.2 m) []
def mmap (ps : List LP) : Mp := mi ps ps.length
theorem mi_succ {ps : List LP} {i : Nat} (hi : i < ps.length) : mi ps (i + 1) = mput T0 ((ps.getD i (0, (0, 0))).1, (ps.getD i (0, (0, 0))).2.1) (ps.getD i (0, (0, 0))).2.2 (mi ps i) := by
 unfold mi
 rw [take_getL ps (0, (0, 0)) hi, List.foldl_append]; rfl
theorem f38_eq (N : Nat) (ws : List Int) (ps : List LP) (a b c : Int) (hN : 100 ≤ N) (hl : ps.length < 100) : f38 N ws ps a b c = some (mmap ps) := by
 have h := acc_run (fun q i (m : Mp) => f38l0 N q ps (ps.length : Int) (i : Int) m) ps.length (mi ps) (mmap ps) (fun q i hi => by
  show f38l0B N (f38l0 N q) ps (ps.length : Int) (i : Int) (mi ps i) = _
  unfold f38l0B
  rw [if_pos (d1 (by omega)), if_pos (dd (by omega) (by omega)), w_succ (by omega)]
  simp only [Int.toNat_natCast]
  rw [mi_succ hi]; rfl) (fun q => by
  show f38l0B N (f38l0 N q) ps (ps.length : Int) (ps.length : Int) (mi ps ps.length) = _
  unfold f38l0B
  rw [if_neg (by simp)]; rfl) N (by omega)
 have h : f38l0 N N ps (ps.length : Int) 0 [] = some (mmap ps) := h
 unfold f38
 rw [h]; rfl
theorem mem_mput {k : Int × Int} {v : Int} : ∀ {m : Mp} {e : (Int × Int) × Int}, e ∈ mput T0 k v m → e ∈ m ∨ e = (k, v)
 | [], e, h => by simp [mput] at h; exact .inr h
 | x :: r, e, h => by
  unfold mput at h
  cases hb : eqK T0 k x.1 with
  | true =>
   rw [hb] at h
   rcases List.mem_cons.1 h with h | h
   ·right
    have : k = x.1 := eqK_eq hb
    rw [h, this]
   ·exact .inl (List.mem_cons_of_mem _ h)
  | false =>
   rw [hb] at h
   rcases List.mem_cons.1 h with h | h
   ·exact .inl (by rw [h]; exact List.mem_cons_self)
   ·rcases mem_mput h with h | h
    ·exact .inl (List.mem_cons_of_mem _ h)
    ·exact .inr h
theorem mi_mem {ps : List LP} : ∀ {i : Nat}, i ≤ ps.length → ∀ e ∈ mi ps i, ∃ p ∈ ps, e = ((p.1, p.2.1), p.2.2)
 | 0, _, e, h => by simp [mi] at h
 | i + 1, hi, e, h => by
  rw [mi_succ (by omega)] at h
  rcases mem_mput h with h | h
  ·exact mi_mem (by omega) e h
  ·exact ⟨_, getD_mem (d := (0, (0, 0))) (by omega), h⟩
theorem mget_or {k : Int × Int} : ∀ {m : Mp}, mget T0 k 0 m = 0 ∨ ∃ e ∈ m, e.1 = k ∧ mget T0 k 0 m = e.2
 | [] => .inl rfl
 | x :: r => by
  unfold mget
  cases hb : eqK T0 k x.1 with
  | true => exact .inr ⟨x, List.mem_cons_self, (eqK_eq hb).symm, rfl⟩
  | false =>
   rcases mget_or (k := k) (m := r) with h | ⟨e, h1, h2, h3⟩
   ·exact .inl h
   ·exact .inr ⟨e, List.mem_cons_of_mem _ h1, h2, h3⟩
theorem len_mput {k : Int × Int} {v : Int} : ∀ {m : Mp}, (∀ e ∈ m, e.1 ≠ k) → (mput T0 k v m).length = m.length + 1
 | [], _ => rfl
 | x :: r, h => by
  unfold mput
  cases hb : eqK T0 k x.1 with
  | true => exact absurd (eqK_eq hb).symm (h x List.mem_cons_self)
  | false =>
   show (x :: mput T0 k v r).length = _
   rw [List.length_cons, List.length_cons, len_mput fun e he => h e (List.mem_cons_of_mem _ he)]
def NoTwice (ps : List LP) : Prop := ∀ i j, i < j → j < ps.length → ¬ ((ps.getD i (0, (0, 0))).1 = (ps.getD j (0, (0, 0))).1 ∧ (ps.getD i (0, (0, 0))).2.1 = (ps.getD j (0, (0, 0))).2.1)
theorem mi_keys {ps : List LP} : ∀ {i : Nat}, i ≤ ps.length → ∀ e ∈ mi ps i, ∃ j, j < i ∧ e.1 = ((ps.getD j (0, (0, 0))).1, (ps.getD j (0, (0, 0))).2.1)
 | 0, _, e, h => by simp [mi] at h
 | i + 1, hi, e, h => by
  rw [mi_succ (by omega)] at h
  rcases mem_mput h with h | h
  ·obtain ⟨j, h1, h2⟩ := mi_keys (by omega) e h
   exact ⟨j, by omega, h2⟩
  ·exact ⟨i, by omega, by rw [h]⟩
theorem mi_len {ps : List LP} (h : NoTwice ps) : ∀ {i : Nat}, i ≤ ps.length → (mi ps i).length = i
 | 0, _ => by simp [mi]
 | i + 1, hi => by
  rw [mi_succ (by omega), len_mput, mi_len h (by omega)]
  intro e he e2
  obtain ⟨j, h1, h2⟩ := mi_keys (by omega) e he
  rw [h2] at e2
  simp only [Prod.mk.injEq] at e2
  exact h j i h1 (by omega) e2
structure LV (ws : List Int) (ps : List LP) (rim least blank : Int) : Prop where
 n1 : 1 ≤ ws.length
 n8 : ws.length ≤ 8
 w : ∀ x ∈ ws, 1 ≤ x ∧ x ≤ 30
 r : 0 ≤ rim ∧ rim ≤ 20
 l : 0 ≤ least ∧ least ≤ 10
 b : 0 ≤ blank ∧ blank ≤ 30
 pl : ps.length ≤ 10
 p : ∀ q ∈ ps, 0 ≤ q.1 ∧ q.1 < ws.length ∧ 0 ≤ q.2.1 ∧ q.2.1 < ws.length ∧ -5 ≤ q.2.2 ∧ q.2.2 ≤ 5
 nt : NoTwice ps
theorem allB {l : List Int} {lo hi : Int} (h : ∀ x ∈ l, lo ≤ x ∧ x ≤ hi) : l.all (inB lo hi) = true := by
 rw [List.all_eq_true]; intro x hx; exact inB_iff.2 (h x hx)
theorem f56_ok (N : Nat) {ws : List Int} {ps : List LP} {rim least blank : Int} (hN : 100 ≤ N) (v : LV ws ps rim least blank) : f56 N ps ws ps rim least blank = some (false, ws, ps, rim, least, blank) := by
 have n8 := v.n8; have n1 := v.n1; have hpl := v.pl
 have h : f76l0 N N ps (ps.length : Int) 0 ws ps rim least blank = some (.inr (ws, ps, rim, least, blank)) :=
  loop_all (fun q i => f76l0 N q ps (ps.length : Int) (i : Int) ws ps rim least blank) ps.length _ (fun q i hi => by
   show f76l0B N (f76l0 N q) ps (ps.length : Int) (i : Int) ws ps rim least blank = _
   unfold f76l0B
   have hp := v.p _ (getD_mem (d := (0, (0, 0))) hi)
   simp only [Int.toNat_natCast]
   generalize List.getD ps i ((0 : Int), ((0 : Int), (0 : Int))) = z at *
   rw [if_pos (d1 (by omega)), if_pos (dd (by omega) (by omega))]
   unfold f55
   rw [w64_id (by omega) (by omega), f20_eq N _ _ _ (by simp; omega) (by simp), andThen_some, allB (by simp; omega), if_pos (by rfl), f20_eq N _ _ _ (by simp; omega) (by simp), andThen_some, allB (by simp; omega), andThen_some]
   simp only
   rw [if_neg (by simp), w_succ (by omega)]) (fun q => by
   show f76l0B N (f76l0 N q) ps (ps.length : Int) (ps.length : Int) ws ps rim least blank = _
   unfold f76l0B
   rw [if_neg (by simp)]) N (by omega)
 unfold f56 f76
 rw [h, andThen_some, either_inr, andThen_some]
 rfl
theorem f37_ok (N : Nat) {ws : List Int} {ps : List LP} {rim least blank : Int} (hN : 100 ≤ N) (v : LV ws ps rim least blank) : f37 N ws ps rim least blank = some 0 := by
 have n8 := v.n8; have n1 := v.n1; have hpl := v.pl; have hr := v.r; have hl := v.l; have hb := v.b
 unfold f37
 rw [f20_eq N _ _ _ (by simp; omega) (by simp), andThen_some, allB (by simp; omega), if_neg (by simp), f20_eq N _ _ _ (by omega) (by omega), andThen_some, allB v.w, if_neg (by simp), f20_eq N _ _ _ (by simp; omega) (by simp), andThen_some, allB (by simp; omega), if_neg (by simp),
  f20_eq N _ _ _ (by simp; omega) (by simp), andThen_some, allB (by simp; omega), if_neg (by simp), f20_eq N _ _ _ (by simp; omega) (by simp), andThen_some, allB (by simp; omega), if_neg (by simp), if_neg (by simp; omega), f56_ok N hN v, andThen_some]
 simp only
 rw [if_neg (by simp), f38_eq N _ _ _ _ _ hN (by omega), andThen_some, if_neg (by
  rw [mmap, mi_len v.nt (Nat.le_refl _)]; simp)]
structure WOk (n : Nat) (w : List Int) : Prop where
 l1 : 1 ≤ w.length
 l7 : w.length ≤ 7
 m : ∀ x ∈ w, 0 ≤ x ∧ x < n
theorem f41_ok (N : Nat) {ws : List Int} {ps : List LP} {rim least blank : Int} {w : List Int} {m : Mp} (hN : 100 ≤ N) (hn : ws.length ≤ 8) (h : WOk ws.length w) : f41 N ws ps rim least blank w 0 m = some (true, m) := by
 have h1 := h.l1; have h7 := h.l7
 unfold f41
 rw [f20_eq N _ _ _ (by simp; omega) (by simp), andThen_some, allB (by simp; omega), if_pos rfl, w64_id (by omega) (by omega), f20_eq N _ _ _ (by omega) (by omega), andThen_some, allB (fun x hx => by have := h.m x hx; omega)]
theorem f39_ok (N : Nat) {ws : List Int} {ps : List LP} {rim least blank : Int} {l : List (List Int)} {m : Mp} (hN : 100 ≤ N) (hn : ws.length ≤ 8) (hl : l.length < 50) (h : ∀ w ∈ l, WOk ws.length w) : f39 N l ws ps rim least blank m = some (false, ws, ps, rim, least, blank, m) := by
 have h : f57l0 N N l (l.length : Int) 0 ws ps rim least blank m = some (.inr (ws, ps, rim, least, blank, m)) :=
  loop_all (fun q i => f57l0 N q l (l.length : Int) (i : Int) ws ps rim least blank m) l.length _ (fun q i hi => by
   show f57l0B N (f57l0 N q) l (l.length : Int) (i : Int) ws ps rim least blank m = _
   unfold f57l0B f40
   simp only [Int.toNat_natCast]
   rw [if_pos (d1 (by omega)), if_pos (dd (by omega) (by omega)), f41_ok N hN hn (h _ (getD_mem hi)), andThen_some, andThen_some]
   simp only
   rw [if_neg (by simp), w_succ (by omega)]) (fun q => by
   show f57l0B N (f57l0 N q) l (l.length : Int) (l.length : Int) ws ps rim least blank m = _
   unfold f57l0B
   rw [if_neg (by simp)]) N (by omega)
 unfold f39 f57
 rw [h, andThen_some, either_inr, andThen_some]
 rfl
theorem f18_ok (N : Nat) {ws : List Int} {ps : List LP} {rim least blank : Int} {l : List (List Int)} (hN : 100 ≤ N) (v : LV ws ps rim least blank) (hl : l.length < 50) (h : ∀ w ∈ l, WOk ws.length w) : f18 N ws ps rim least blank l = some (.inr (ws, ps, rim, least, blank, 0, mmap ps)) := by
 unfold f18
 rw [f37_ok N hN v, andThen_some, if_neg (by simp), f38_eq N _ _ _ _ _ hN (by have := v.pl; omega), andThen_some, f39_ok N hN v.n8 hl h, andThen_some]
 simp only
 rw [if_neg (by simp)]
def lk (m : Mp) (a b : Int) : Int := mget T0 (a, b) 0 m
def loose (m : Mp) (w : List Int) (i : Nat) : List Int := (List.range i).map fun j => lk m (w.getD j 0) (w.getD (j + 1) 0)
def wsum (ws w : List Int) (i : Nat) : Int := ((w.take i).map fun x => ws.getD x.toNat 0).sum
def gsum (least : Int) (l : List Int) (i : Nat) : Int := ((l.take i).map fun x => if least - x > 0 then least - x else 0).sum
def MOk (m : Mp) : Prop := ∀ e ∈ m, -5 ≤ e.2 ∧ e.2 ≤ 5
theorem lk_bd {m : Mp} (h : MOk m) (a b : Int) : -5 ≤ lk m a b ∧ lk m a b ≤ 5 := by
 unfold lk
 rcases mget_or (k := (a, b)) (m := m) with e | ⟨x, h1, _, h3⟩
 ·rw [e]; omega
 ·rw [h3]; exact h x h1
theorem LV.mok {ws : List Int} {ps : List LP} {rim least blank : Int} (v : LV ws ps rim least blank) : MOk (mmap ps) := fun e he => by
 obtain ⟨p, h1, h2⟩ := mi_mem (Nat.le_refl _) e he
 have := v.p p h1
 rw [h2]; simp only; omega
theorem f34a_eq (N : Nat) (ws : List Int) (ps : List LP) (a b c : Int) (w : List Int) (m : Mp) (hN : 100 ≤ N) (h1 : 1 ≤ w.length) (hl : w.length ≤ 20) : f34a N ws ps a b c w m = some (loose m w (w.length - 1), m) := by
 have hW : Go.IntKind.wrap .i64 ((w.length : Int) - 1) = ((w.length - 1 : Nat) : Int) := by rw [w64_id (by omega) (by omega)]; omega
 have h := acc_run (fun q i (l : List Int) => f34al0 N q w l ((w.length - 1 : Nat) : Int) (i : Int) ws ps a b c m) (w.length - 1) (loose m w) (loose m w (w.length - 1), m) (fun q i hi => by
  show f34al0B N (f34al0 N q) w (loose m w i) ((w.length - 1 : Nat) : Int) (i : Int) ws ps a b c m = _
  unfold f34al0B
  have h2 : Go.IntKind.wrap .i64 ((i : Int) + 2) = ((i + 2 : Nat) : Int) := by rw [w64_id (by omega) (by omega)]; omega
  have hcut : cut w i (i + 2) = [w.getD i 0, w.getD (i + 1) 0] := by
   unfold cut
   have e1 : i < w.length := by omega
   have e2 : i + 1 < w.length := by omega
   rw [List.drop_eq_getElem_cons e1, List.drop_eq_getElem_cons e2, show i + 2 - i = 2 by omega, List.getD_eq_getElem?_getD, List.getD_eq_getElem?_getD, List.getElem?_eq_getElem e1, List.getElem?_eq_getElem e2]
   rfl
  simp only [h2, Int.toNat_natCast, hcut]
  rw [if_pos (d1 (by omega)), if_pos (by simp; omega), if_pos (by rfl), if_pos (ble_b (by simp [loose]; omega)), w_succ (by omega)]
  show f34al0 N q w (loose m w i ++ [lk m (w.getD i 0) (w.getD (i + 1) 0)]) _ _ ws ps a b c m = _
  have : loose m w (i + 1) = loose m w i ++ [lk m (w.getD i 0) (w.getD (i + 1) 0)] := by unfold loose; rw [List.range_succ, List.map_append]; rfl
  rw [this]) (fun q => by
  show f34al0B N (f34al0 N q) w (loose m w (w.length - 1)) ((w.length - 1 : Nat) : Int) ((w.length - 1 : Nat) : Int) ws ps a b c m = _
  unfold f34al0B
  rw [if_neg (by simp)]) N (by omega)
 have h : f34al0 N N w [] ((w.length - 1 : Nat) : Int) 0 ws ps a b c m = some (loose m w (w.length - 1), m) := h
 unfold f34a
 rw [hW, h]; rfl
theorem wsum_succ {ws w : List Int} {i : Nat} (hi : i < w.length) : wsum ws w (i + 1) = wsum ws w i + ws.getD (w.getD i 0).toNat 0 := by
 unfold wsum; rw [take_getL w 0 hi]; simp
theorem gsum_succ {least : Int} {l : List Int} {i : Nat} (hi : i < l.length) : gsum least l (i + 1) = gsum least l i + (if least - l.getD i 0 > 0 then least - l.getD i 0 else 0) := by
 unfold gsum; rw [take_getL l 0 hi]; simp
theorem wsum_bd {ws w : List Int} (h : ∀ x ∈ ws, 1 ≤ x ∧ x ≤ 30) (hw : ∀ x ∈ w, 0 ≤ x ∧ x < ws.length) : ∀ {i : Nat}, i ≤ w.length → (i : Int) ≤ wsum ws w i ∧ wsum ws w i ≤ 30 * (i : Int)
 | 0, _ => by simp [wsum]
 | i + 1, hi => by
  have ih := wsum_bd h hw (i := i) (by omega)
  rw [wsum_succ (by omega)]
  have h1 := hw _ (getD_mem (d := 0) (show i < w.length by omega))
  have h2 := h _ (getD_mem (d := 0) (show (w.getD i 0).toNat < ws.length by omega))
  omega
theorem f30a_eq (N : Nat) (ws : List Int) (ps : List LP) (rim b c : Int) (w : List Int) (m : Mp) (hN : 100 ≤ N) (hr : 0 ≤ rim ∧ rim ≤ 20) (hl : w.length ≤ 20) (hws : ∀ x ∈ ws, 1 ≤ x ∧ x ≤ 30) (hw : ∀ x ∈ w, 0 ≤ x ∧ x < ws.length) : f30a N ws ps rim b c w m = some (2 * rim + wsum ws w w.length, m) := by
 have h := acc_run (fun q i (s : Int) => f30al0 N q s w (w.length : Int) (i : Int) ws ps rim b c m) w.length (fun i => 2 * rim + wsum ws w i) (2 * rim + wsum ws w w.length, m) (fun q i hi => by
  show f30al0B N (f30al0 N q) (2 * rim + wsum ws w i) w (w.length : Int) (i : Int) ws ps rim b c m = _
  unfold f30al0B
  have h1 := hw _ (getD_mem (d := 0) hi)
  have h2 := hws _ (getD_mem (d := 0) (show (w.getD i 0).toNat < ws.length by omega))
  have h3 := wsum_bd hws hw (i := i) (by omega)
  simp only [Int.toNat_natCast]
  rw [wsum_succ hi]
  generalize ws.getD (w.getD i 0).toNat 0 = z at *
  rw [if_pos (d1 (by omega)), if_pos (dd (by omega) (by omega)), if_pos (dd (by omega) (by omega)), w_succ (by omega), w64_id (by omega) (by omega)]
  show f30al0 N q (2 * rim + wsum ws w i + z) _ _ _ _ _ _ _ _ _ = _
  rw [Int.add_assoc]) (fun q => by
  show f30al0B N (f30al0 N q) (2 * rim + wsum ws w w.length) w (w.length : Int) (w.length : Int) ws ps rim b c m = _
  unfold f30al0B
  rw [if_neg (by simp)]) N (by omega)
 have h : f30al0 N N (2 * rim + wsum ws w 0) w (w.length : Int) 0 ws ps rim b c m = some (2 * rim + wsum ws w w.length, m) := h
 have h0 : wsum ws w 0 = 0 := by simp [wsum]
 rw [h0, Int.add_zero] at h
 unfold f30a
 rw [w64_id (by omega) (by omega), h]; rfl
theorem gsum_bd {least : Int} {l : List Int} (h0 : 0 ≤ least ∧ least ≤ 10) (hl : ∀ x ∈ l, -5 ≤ x ∧ x ≤ 5) : ∀ {i : Nat}, i ≤ l.length → 0 ≤ gsum least l i ∧ gsum least l i ≤ 15 * (i : Int)
 | 0, _ => by simp [gsum]
 | i + 1, hi => by
  have ih := gsum_bd h0 hl (i := i) (by omega)
  rw [gsum_succ (by omega)]
  have h1 := hl _ (getD_mem (d := 0) (show i < l.length by omega))
  split <;> omega
theorem loose_mem {m : Mp} (h : MOk m) {w : List Int} {i : Nat} : ∀ x ∈ loose m w i, -5 ≤ x ∧ x ≤ 5 := fun x hx => by
 unfold loose at hx
 obtain ⟨j, _, rfl⟩ := List.mem_map.1 hx
 exact lk_bd h _ _
def needN (ws : List Int) (rim least : Int) (m : Mp) (w : List Int) : Int := 2 * rim + wsum ws w w.length + gsum least (loose m w (w.length - 1)) (w.length - 1)
theorem loose_len (m : Mp) (w : List Int) (i : Nat) : (loose m w i).length = i := by unfold loose; simp
theorem f19a_eq (N : Nat) (ws : List Int) (ps : List LP) (rim least c : Int) (w : List Int) (m : Mp) (hN : 100 ≤ N) (hr : 0 ≤ rim ∧ rim ≤ 20) (h0 : 0 ≤ least ∧ least ≤ 10) (hm : MOk m) (h1 : 1 ≤ w.length) (hl : w.length ≤ 20) (hws : ∀ x ∈ ws, 1 ≤ x ∧ x ≤ 30) (hw : ∀ x ∈ w, 0 ≤ x ∧ x < ws.length) :
  f19a N ws ps rim least c w m = some (needN ws rim least m w, m) := by
 have hb := wsum_bd hws hw (Nat.le_refl w.length)
 have h := acc_run (fun q i (s : Int) => f19al0 N q s (loose m w (w.length - 1)) ((w.length - 1 : Nat) : Int) (i : Int) ws ps rim least c m) (w.length - 1) (fun i => 2 * rim + wsum ws w w.length + gsum least (loose m w (w.length - 1)) i) (needN ws rim least m w, m) (fun q i hi => by
  show f19al0B N (f19al0 N q) _ (loose m w (w.length - 1)) ((w.length - 1 : Nat) : Int) (i : Int) ws ps rim least c m = _
  unfold f19al0B
  have hll := loose_len m w (w.length - 1)
  have h2 := loose_mem hm (w := w) (i := w.length - 1) _ (getD_mem (d := 0) (show i < (loose m w (w.length - 1)).length by omega))
  have h3 := gsum_bd h0 (loose_mem hm (w := w) (i := w.length - 1)) (i := i) (by omega)
  simp only [Int.toNat_natCast]
  rw [gsum_succ (by omega)]
  generalize List.getD (loose m w (w.length - 1)) i 0 = z at *
  rw [if_pos (d1 (by omega)), if_pos (dd (by omega) (by rw [hll]; omega)), w_succ (by omega), w64_id (z := least - z) (by omega) (by omega)]
  rw [w64_id (by split <;> omega) (by split <;> omega), Int.add_assoc]) (fun q => by
  show f19al0B N (f19al0 N q) _ (loose m w (w.length - 1)) ((w.length - 1 : Nat) : Int) ((w.length - 1 : Nat) : Int) ws ps rim least c m = _
  unfold f19al0B
  rw [if_neg (by simp)]; rfl) N (by omega)
 have h : f19al0 N N (2 * rim + wsum ws w w.length + gsum least (loose m w (w.length - 1)) 0) (loose m w (w.length - 1)) ((w.length - 1 : Nat) : Int) 0 ws ps rim least c m = some (needN ws rim least m w, m) := h
 have hz : gsum least (loose m w (w.length - 1)) 0 = 0 := by simp [gsum]
 rw [hz, Int.add_zero] at h
 unfold f19a
 rw [f30a_eq N ws ps rim least c w m hN hr hl hws hw, andThen_some]
 simp only
 rw [f34a_eq N ws ps rim least c w m hN h1 hl, andThen_some]
 simp only
 rw [loose_len, h, andThen_some]
theorem needN_bd {ws : List Int} {ps : List LP} {rim least blank : Int} {w : List Int} (v : LV ws ps rim least blank) (h : WOk ws.length w) : 1 ≤ needN ws rim least (mmap ps) w ∧ needN ws rim least (mmap ps) w ≤ 340 := by
 have h1 := wsum_bd v.w h.m (Nat.le_refl w.length)
 have h2 := gsum_bd v.l (loose_mem v.mok (w := w) (i := w.length - 1)) (i := w.length - 1) (by rw [loose_len]; omega)
 have := v.r; have := h.l1; have := h.l7
 unfold needN
 omega
theorem f9_ok (N : Nat) {ws : List Int} {ps : List LP} {rim least blank : Int} {w : List Int} (hN : 100 ≤ N) (v : LV ws ps rim least blank) (h : WOk ws.length w) : f9 N ws ps rim least blank w = some (needN ws rim least (mmap ps) w, 0) := by
 unfold f9
 rw [f18_ok N hN v (by simp) (by simpa using h), andThen_some, either_inr]
 simp only
 rw [if_neg (by simp), f19a_eq N ws ps rim least blank w _ hN v.r v.l v.mok h.l1 (by have := h.l7; omega) v.w h.m, andThen_some]
end Go.Pl


namespace Go.Pl
open Go.Al Go.Proofs
theorem f8_eq (N : Nat) (l : List Int) (h1 : l.length < 1000) : f8 N l = some l := by
 unfold f8
 rw [if_pos (ble_b (by simp; omega))]
 rfl
theorem f7_eq (N : Nat) (ws : List Int) (ps : List LP) (a b c : Int) (h1 : ws.length < 1000) (h2 : ps.length < 1000) : f7 N ws ps a b c = some (ws, ps, a, b, c) := by
 unfold f7
 rw [f8_eq N ws h1, andThen_some, if_pos (ble_b (by simp; omega))]
 rfl
def byte (x : Int) : Prop := 0 ≤ x ∧ x ≤ 255
theorem w_byte {x : Int} (h : byte x) : Go.IntKind.wrap .i64 x = x := by unfold byte at h; exact w64_id (by omega) (by omega)
theorem tmod_pos {x : Int} (h : 0 ≤ x) (k : Int) : Int.tmod x k = x % k := Int.tmod_eq_emod_of_nonneg h
def wd (x : Int) : Int := Go.IntKind.wrap .i64 (1 + Int.tmod (Go.IntKind.wrap .i64 x) 18)
theorem wd_bd {x : Int} (h : byte x) : 1 ≤ wd x ∧ wd x ≤ 18 := by
 unfold wd
 have := h
 unfold byte at this
 rw [w_byte h, tmod_pos (by omega), w64_id (by omega) (by omega)]
 omega
theorem f5l0_eq (a0 a1 a2 a3 a4 a5 : Int) (l : List (Int × Int)) (b0 b1 b2 : Int) (r le bl : Int) : f5l0 50000 50000 0 a0 a1 a2 a3 a4 a5 l b0 b1 b2 ([] : List Int) ([] : List LP) 0 0 0 ([] : List Int) ([] : List LP) r le bl =
  some (a0, a1, a2, a3, a4, a5, l, b0, b1, b2, [], [], 0, 0, 0, [wd a0, wd a1, wd a2, wd a3, wd a4, wd a5], [], r, le, bl) := by kernel_rfl
def pr (x : Int × Int) : LP := (Int.tmod (Go.IntKind.wrap .i64 x.1) 6, (Int.tmod (Go.IntKind.wrap .i64 (Int.tdiv (Go.IntKind.wrap .i64 x.1) 6)) 6, Go.IntKind.wrap .i64 (Int.tmod (Go.IntKind.wrap .i64 x.2) 9 - 4)))
theorem pr_bd {x : Int × Int} (h1 : byte x.1) (h2 : byte x.2) : 0 ≤ (pr x).1 ∧ (pr x).1 < 6 ∧ 0 ≤ (pr x).2.1 ∧ (pr x).2.1 < 6 ∧ -4 ≤ (pr x).2.2 ∧ (pr x).2.2 ≤ 4 := by
 unfold pr
 have e1 := h1
 have e2 := h2
 unfold byte at e1 e2
 have ed : Int.tdiv x.1 6 = x.1 / 6 := Int.tdiv_eq_ediv_of_nonneg (by omega)
 simp only
 rw [w_byte h1, w_byte h2, ed, w64_id (z := x.1 / 6) (by omega) (by omega), tmod_pos (x := x.1) (by omega), tmod_pos (x := x.1 / 6) (by omega), tmod_pos (x := x.2) (by omega), w64_id (by omega) (by omega)]
 omega
structure PsOk (ps : List LP) (i : Nat) : Prop where
 len : ps.length ≤ i
 i8 : i ≤ 8
 p : ∀ q ∈ ps, 0 ≤ q.1 ∧ q.1 < 6 ∧ 0 ≤ q.2.1 ∧ q.2.1 < 6 ∧ -4 ≤ q.2.2 ∧ q.2.2 ≤ 4
 nt : NoTwice ps
def tw (ps : List LP) (a b : Int) (k : Nat) : Bool := (ps.take k).any fun q => q.1 == a && q.2.1 == b
theorem tw_succ {ps : List LP} {a b : Int} {k : Nat} (hk : k < ps.length) : tw ps a b (k + 1) = (tw ps a b k || ((ps.getD k (0, (0, 0))).1 == a && (ps.getD k (0, (0, 0))).2.1 == b)) := by
 unfold tw
 rw [take_getL ps (0, (0, 0)) hk, List.any_append]; simp
theorem f5l2_eq (N : Nat) (x0 a0 a1 a2 a3 a4 a5 : Int) (l : List (Int × Int)) (b0 b1 b2 : Int) (ws0 : List Int) (ps0 : List LP) (r0 l0 bl0 : Int) (ws : List Int) (ps : List LP) (r le bl a b c : Int) (hN : ps.length < N) (hl : ps.length < 100) :
  f5l2 N N x0 false 0 a0 a1 a2 a3 a4 a5 l b0 b1 b2 ws0 ps0 r0 l0 bl0 ws ps r le bl a b c = some (x0, tw ps a b ps.length, a0, a1, a2, a3, a4, a5, l, b0, b1, b2, ws0, ps0, r0, l0, bl0, ws, ps, r, le, bl, a, b, c) := by
 have h := acc_run (fun q i (t : Bool) => f5l2 N q x0 t (i : Int) a0 a1 a2 a3 a4 a5 l b0 b1 b2 ws0 ps0 r0 l0 bl0 ws ps r le bl a b c) ps.length (tw ps a b) (x0, tw ps a b ps.length, a0, a1, a2, a3, a4, a5, l, b0, b1, b2, ws0, ps0, r0, l0, bl0, ws, ps, r, le, bl, a, b, c) (fun q i hi => by
  show f5l2B N (f5l2 N q) x0 (tw ps a b i) (i : Int) a0 a1 a2 a3 a4 a5 l b0 b1 b2 ws0 ps0 r0 l0 bl0 ws ps r le bl a b c = _
  unfold f5l2B
  simp only [Int.toNat_natCast]
  rw [if_pos (d1 (by omega)), w_succ (by omega), tw_succ hi]
  have hc : (decide ((0 : Int) ≤ (i : Int)) && decide ((i : Int) < (ps.length : Int))) = true := dd (by omega) (by omega)
  cases ht : tw ps a b i with
  | true => rw [if_neg (by simp), Bool.true_or]
  | false =>
   rw [if_pos rfl, if_pos hc, Bool.false_or]
   cases h1 : ((List.getD ps i ((0 : Int), ((0 : Int), (0 : Int)))).1 == a) with
   | true => rw [if_pos rfl, if_pos hc, Bool.true_and]
   | false => rw [if_neg (by simp), Bool.false_and]) (fun q => by
  show f5l2B N (f5l2 N q) x0 (tw ps a b ps.length) (ps.length : Int) a0 a1 a2 a3 a4 a5 l b0 b1 b2 ws0 ps0 r0 l0 bl0 ws ps r le bl a b c = _
  unfold f5l2B
  rw [if_neg (by simp)]) N hN
 exact h
theorem PsOk.app {ps : List LP} {i : Nat} {x : Int × Int} (h : PsOk ps i) (hi : i < 8) (h1 : byte x.1) (h2 : byte x.2) (ht : tw ps (pr x).1 (pr x).2.1 ps.length = false) : PsOk (ps ++ [pr x]) (i + 1) := by
 have hl := h.len
 refine ⟨by simp; omega, hi, fun q hq => ?_, fun j k hjk hk => ?_⟩
 ·rcases List.mem_append.1 hq with hq | hq
  ·exact h.p q hq
  ·simp at hq; subst hq; exact pr_bd h1 h2
 ·have hg : ∀ j, j < ps.length → (ps ++ [pr x]).getD j (0, (0, 0)) = ps.getD j (0, (0, 0)) := fun j hj => by simp [List.getD_eq_getElem?_getD, List.getElem?_append_left hj]
  simp at hk
  by_cases e : k < ps.length
  ·rw [hg j (by omega), hg k e]; exact h.nt j k hjk e
  ·have : k = ps.length := by omega
   subst this
   rw [hg j hjk]
   have e2 : (ps ++ [pr x]).getD ps.length (0, (0, 0)) = pr x := by simp [List.getD_eq_getElem?_getD]
   rw [e2]
   rintro ⟨c1, c2⟩
   unfold tw at ht
   rw [List.take_length, List.any_eq_false] at ht
   exact ht _ (getD_mem hjk) (by rw [c1, c2]; simp)
theorem PsOk.mono {ps : List LP} {i : Nat} (h : PsOk ps i) (hi : i < 8) : PsOk ps (i + 1) := ⟨by have := h.len; omega, hi, h.p, h.nt⟩
theorem f5_ok (a0 a1 a2 a3 a4 a5 : Int) (l : List (Int × Int)) (b0 b1 b2 : Int) (h0 : byte a0) (h1 : byte a1) (h2 : byte a2) (h3 : byte a3) (h4 : byte a4) (h5 : byte a5) (hl : ∀ x ∈ l, byte x.1 ∧ byte x.2) (hb0 : byte b0) (hb1 : byte b1) (hb2 : byte b2) :
  ∃ ws ps rim least blank, f5 50000 a0 a1 a2 a3 a4 a5 l b0 b1 b2 = some (ws, ps, rim, least, blank) ∧ ws.length = 6 ∧ (∀ x ∈ ws, 1 ≤ x ∧ x ≤ 18) ∧ PsOk ps 8 ∧ 0 ≤ rim ∧ rim ≤ 7 ∧ 0 ≤ least ∧ least ≤ 4 ∧ 0 ≤ blank ∧ blank ≤ 14 := by
 have k0 := hb0; have k1 := hb1; have k2 := hb2
 unfold byte at k0 k1 k2
 have hr : ∃ res, f5l1 50000 50000 0 a0 a1 a2 a3 a4 a5 l b0 b1 b2 ([] : List Int) ([] : List LP) 0 0 0 [wd a0, wd a1, wd a2, wd a3, wd a4, wd a5] ([] : List LP) (b0 % 8) (b1 % 5) (b2 % 15) = some res ∧ ∃ ps, res = (([] : List Int), ([] : List LP), (0 : Int), (0 : Int), (0 : Int), [wd a0, wd a1, wd a2, wd a3, wd a4, wd a5], ps, b0 % 8, b1 % 5, b2 % 15) ∧ PsOk ps 8 := by
  refine loop_run (fun q (s : Nat × List LP) => f5l1 50000 q (s.1 : Int) a0 a1 a2 a3 a4 a5 l b0 b1 b2 ([] : List Int) ([] : List LP) 0 0 0 [wd a0, wd a1, wd a2, wd a3, wd a4, wd a5] s.2 (b0 % 8) (b1 % 5) (b2 % 15)) (fun s => s.1 ≤ l.length ∧ PsOk s.2 s.1) (fun s => 8 - s.1) _ (fun q s hs => ?_) 50000 (0, []) ⟨Nat.zero_le _, ⟨by simp, by simp, by simp, fun i j _ hj => by simp at hj⟩⟩ (by simp)
  obtain ⟨i, ps⟩ := s
  obtain ⟨hi, hp⟩ := hs
  simp only at hi hp ⊢
  have hl8 := hp.len; have h8 := hp.i8
  by_cases hlt : i < l.length
  ·by_cases hlt8 : i < 8
   ·right
    have hx := hl _ (getD_mem (d := ((0 : Int), (0 : Int))) hlt)
    have hpl := pr_bd hx.1 hx.2
    have hcond : (decide ((0 : Int) ≤ (i : Int)) && decide ((i : Int) < (l.length : Int))) = true := dd (by omega) (by omega)
    have hstep : f5l1 50000 (q + 1) (i : Int) a0 a1 a2 a3 a4 a5 l b0 b1 b2 ([] : List Int) ([] : List LP) 0 0 0 [wd a0, wd a1, wd a2, wd a3, wd a4, wd a5] ps (b0 % 8) (b1 % 5) (b2 % 15) =
      if (!tw ps (pr (l.getD i (0, 0))).1 (pr (l.getD i (0, 0))).2.1 ps.length) = true then f5l1 50000 q ((i + 1 : Nat) : Int) a0 a1 a2 a3 a4 a5 l b0 b1 b2 ([] : List Int) ([] : List LP) 0 0 0 [wd a0, wd a1, wd a2, wd a3, wd a4, wd a5] (ps ++ [pr (l.getD i (0, 0))]) (b0 % 8) (b1 % 5) (b2 % 15)
      else f5l1 50000 q ((i + 1 : Nat) : Int) a0 a1 a2 a3 a4 a5 l b0 b1 b2 ([] : List Int) ([] : List LP) 0 0 0 [wd a0, wd a1, wd a2, wd a3, wd a4, wd a5] ps (b0 % 8) (b1 % 5) (b2 % 15) := by
     show f5l1B 50000 (f5l1 50000 q) (i : Int) a0 a1 a2 a3 a4 a5 l b0 b1 b2 ([] : List Int) ([] : List LP) 0 0 0 [wd a0, wd a1, wd a2, wd a3, wd a4, wd a5] ps (b0 % 8) (b1 % 5) (b2 % 15) = _
     unfold f5l1B
     simp only [Int.toNat_natCast]
     rw [if_pos (d1 (by omega)), if_pos (d1 (by omega)), if_pos hcond, if_pos (by decide), if_pos (by decide), if_pos hcond, if_pos (by decide), if_pos (by decide), if_pos (by decide), if_pos hcond, if_pos (by decide), if_pos (by decide)]
     rw [f5l2_eq 50000 _ _ _ _ _ _ _ _ _ _ _ _ _ _ _ _ _ _ _ _ _ _ _ _ (by omega) (by omega), andThen_some]
     simp only
     rw [w_succ (by omega)]
     show (if (!tw ps (pr (l.getD i (0, 0))).1 (pr (l.getD i (0, 0))).2.1 ps.length) = true then _ else _) = _
     cases tw ps (pr (l.getD i (0, 0))).1 (pr (l.getD i (0, 0))).2.1 ps.length with
     | true => rfl
     | false =>
      rw [if_pos (by decide), if_pos (ble_b (by simp; omega))]; rfl
    cases ht : tw ps (pr (l.getD i (0, 0))).1 (pr (l.getD i (0, 0))).2.1 ps.length with
    | true => exact ⟨(i + 1, ps), ⟨hlt, hp.mono hlt8⟩, by simp only; omega, by rw [hstep, ht]; rfl⟩
    | false => exact ⟨(i + 1, _), ⟨hlt, hp.app hlt8 hx.1 hx.2 ht⟩, by simp only; omega, by rw [hstep, ht]; rfl⟩
   ·left
    have : i = 8 := by omega
    subst this
    refine ⟨_, ?_, ps, rfl, hp⟩
    show f5l1B 50000 (f5l1 50000 q) ((8 : Nat) : Int) a0 a1 a2 a3 a4 a5 l b0 b1 b2 ([] : List Int) ([] : List LP) 0 0 0 [wd a0, wd a1, wd a2, wd a3, wd a4, wd a5] ps (b0 % 8) (b1 % 5) (b2 % 15) = _
    unfold f5l1B
    rw [if_pos (d1 (by omega)), if_neg (by decide)]
  ·left
   have : i = l.length := by omega
   subst this
   refine ⟨_, ?_, ps, rfl, ⟨by omega, Nat.le_refl _, hp.p, hp.nt⟩⟩
   show f5l1B 50000 (f5l1 50000 q) (l.length : Int) a0 a1 a2 a3 a4 a5 l b0 b1 b2 ([] : List Int) ([] : List LP) 0 0 0 [wd a0, wd a1, wd a2, wd a3, wd a4, wd a5] ps (b0 % 8) (b1 % 5) (b2 % 15) = _
   unfold f5l1B
   rw [if_neg (by simp)]
 obtain ⟨res, e1, ps, rfl, hp⟩ := hr
 refine ⟨[wd a0, wd a1, wd a2, wd a3, wd a4, wd a5], ps, b0 % 8, b1 % 5, b2 % 15, ?_, rfl, ?_, hp, by omega, by omega, by omega, by omega, by omega, by omega⟩
 ·unfold f5
  rw [if_pos (by decide), if_pos (by decide), if_pos (by decide), if_pos (by decide), if_pos (by decide), if_pos (by decide), f5l0_eq, andThen_some]
  simp only
  rw [w_byte hb0, w_byte hb1, w_byte hb2, tmod_pos (by omega), tmod_pos (by omega), tmod_pos (by omega), e1, andThen_some]
 ·intro x hx
  simp only [List.mem_cons, List.not_mem_nil, or_false] at hx
  rcases hx with rfl | rfl | rfl | rfl | rfl | rfl <;> exact wd_bd ‹_›
theorem f6_ok (N : Nat) (l : List Int) (most : Nat) (hN : 100 ≤ N) (hm : most ≤ 7) (h1 : 1 ≤ most) (hl : ∀ x ∈ l, byte x) : ∃ w, f6 N l (most : Int) = some w ∧ 1 ≤ w.length ∧ w.length ≤ most ∧ ∀ x ∈ w, 0 ≤ x ∧ x < 6 := by
 obtain ⟨res, e1, e2, e3⟩ := loop_run (fun q (s : Nat × List Int) => f6l0 N q l (most : Int) s.2 (s.1 : Int)) (fun s => s.1 ≤ l.length ∧ s.1 ≤ most ∧ s.2.length = s.1 ∧ ∀ x ∈ s.2, 0 ≤ x ∧ x < 6) (fun s => most - s.1) (fun res => res.length ≤ most ∧ ∀ x ∈ res, 0 ≤ x ∧ x < 6) (fun q s hs => by
  obtain ⟨i, w⟩ := s
  obtain ⟨a1, a2, a3, a4⟩ := hs
  simp only at a1 a2 a3 a4 ⊢
  by_cases hi : i < l.length
  ·by_cases hi2 : i < most
   ·right
    have hx := hl _ (getD_mem (d := 0) hi)
    have hx' := hx
    unfold byte at hx'
    refine ⟨(i + 1, w ++ [l.getD i 0 % 6]), ⟨hi, hi2, by simp [a3], fun x hx2 => ?_⟩, by simp only; omega, ?_⟩
    ·rcases List.mem_append.1 hx2 with h | h
     ·exact a4 x h
     ·simp at h; subst h
      have : List.getD l i 0 = l[i]?.getD 0 := rfl
      omega
    ·show f6l0B N (f6l0 N q) l (most : Int) w (i : Int) = _
     unfold f6l0B
     simp only [Int.toNat_natCast]
     rw [if_pos (d1 (by omega)), if_pos (d1 (by omega)), if_pos (dd (by omega) (by omega)), if_pos (by decide), if_pos (ble_b (by simp; omega)), w_succ (by omega), w_byte hx, tmod_pos (by omega)]
   ·left
    refine ⟨w, ?_, by omega, a4⟩
    show f6l0B N (f6l0 N q) l (most : Int) w (i : Int) = _
    unfold f6l0B
    rw [if_pos (d1 (by omega)), if_neg (dn (by omega))]
  ·left
   refine ⟨w, ?_, by omega, a4⟩
   show f6l0B N (f6l0 N q) l (most : Int) w (i : Int) = _
   unfold f6l0B
   rw [if_neg (dn (by omega))]) N (0, []) ⟨Nat.zero_le _, Nat.zero_le _, rfl, by simp⟩ (by simp only; omega)
 have e1 : f6l0 N N l (most : Int) [] 0 = some res := e1
 unfold f6
 rw [e1, andThen_some]
 by_cases hz : res.length = 0
 ·exact ⟨[0], by rw [if_pos (by simp [hz])], by simp, by simpa using h1, by simp⟩
 ·exact ⟨res, by rw [if_neg (by simpa using hz)], by omega, e2, e3⟩
end Go.Pl


namespace Go.Pl
open Go.Al Go.Proofs
theorem f21_eq (N : Nat) (n : Int) (hN : 100 ≤ N) : f21 N [n] = some (decide (1 ≤ n) && decide (n ≤ 400)) := by
 unfold f21
 rw [f20_eq N _ _ _ (by simp; omega) (by simp), andThen_some]
 simp [inB]
theorem cut0 (w : List Int) (a : Nat) : cut w 0 a = w.take a := by unfold cut; simp
theorem cut1 (w : List Int) (a : Nat) : cut w a w.length = w.drop a := by unfold cut; rw [List.take_of_length_le]; simp
def beside (ws : List Int) (rim least : Int) (m : Mp) (w : List Int) (at_ : Nat) : Int :=
 2 * rim + (if 0 < at_ then needN ws rim least m (w.take at_) - 2 * rim + least else 0) + (if at_ + 1 < w.length then needN ws rim least m (w.drop (at_ + 1)) - 2 * rim + least else 0)
theorem WOk.take {n : Nat} {w : List Int} (h : WOk n w) {k : Nat} (h0 : 0 < k) (h1 : k < w.length) : WOk n (w.take k) := ⟨by simp; omega, by have := h.l7; simp; omega, fun x hx => h.m x (List.mem_of_mem_take hx)⟩
theorem WOk.drop {n : Nat} {w : List Int} (h : WOk n w) {k : Nat} (h1 : k < w.length) : WOk n (w.drop k) := ⟨by simp; omega, by have := h.l7; simp; omega, fun x hx => h.m x (List.mem_of_mem_drop hx)⟩
theorem f10_ok (N : Nat) {ws : List Int} {ps : List LP} {rim least blank : Int} {w : List Int} {k : Nat} {n : Int} (hN : 100 ≤ N) (v : LV ws ps rim least blank) (h : WOk ws.length w) (hk : k < w.length) (hn : 1 ≤ n ∧ n ≤ 400) :
  f10 N ws ps rim least blank w (k : Int) n = some (if beside ws rim least (mmap ps) w k ≥ n then (0, 8) else (if n - beside ws rim least (mmap ps) w k < 30 then n - beside ws rim least (mmap ps) w k else 30, 0)) := by
 have hl := h.l7; have h1 := h.l1; have hr := v.r; have hle := v.l
 have hW : Go.IntKind.wrap .i64 ((w.length : Int) - 1) = (w.length : Int) - 1 := w64_id (by omega) (by omega)
 have hR : Go.IntKind.wrap .i64 (2 * rim) = 2 * rim := w64_id (by omega) (by omega)
 have hS : Go.IntKind.wrap .i64 ((k : Int) + 1) = ((k + 1 : Nat) : Int) := w_succ (by omega)
 have hc : ∀ l : List Int, WOk ws.length l → f19a N ws ps rim least blank l (mmap ps) = some (needN ws rim least (mmap ps) l, mmap ps) := fun l hl => f19a_eq N ws ps rim least blank l _ hN v.r v.l v.mok hl.l1 (by have := hl.l7; omega) v.w hl.m
 have hb : ∀ l : List Int, WOk ws.length l → 1 ≤ needN ws rim least (mmap ps) l ∧ needN ws rim least (mmap ps) l ≤ 340 := fun l hl => needN_bd v hl
 unfold f10
 rw [f18_ok N hN v (by simp) (by simpa using h), andThen_some, either_inr]
 simp only
 rw [if_neg (by simp), hW, f20_eq N _ _ _ (by simp; omega) (by simp), andThen_some, allB (by simp; omega), if_neg (by simp), f21_eq N n hN, andThen_some, dd hn.1 hn.2, if_neg (by simp)]
 simp only [hS, Int.toNat_natCast, hR]
 have t0 : Int.toNat 0 = 0 := rfl
 rw [t0, cut0, cut1]
 unfold beside
 by_cases ha : 0 < k
 ·have w1 := h.take ha hk
  rw [if_pos (d1 (show (k : Int) > 0 by omega)), if_pos (by simp; omega), hc _ w1, andThen_some]
  have b1 := hb _ w1
  generalize needN ws rim least (mmap ps) (w.take k) = z1 at *
  simp only
  rw [w64_id (z := z1 - 2 * rim) (by omega) (by omega), w64_id (z := z1 - 2 * rim + least) (by omega) (by omega), w64_id (z := 2 * rim + (z1 - 2 * rim + least)) (by omega) (by omega)]
  by_cases hb2 : k + 1 < w.length
  ·have w2 := h.drop hb2
   rw [if_pos (d1 (show (k : Int) < (w.length : Int) - 1 by omega)), if_pos (by simp; omega), hc _ w2, andThen_some]
   have b2 := hb _ w2
   generalize needN ws rim least (mmap ps) (w.drop (k + 1)) = z2 at *
   simp only
   rw [w64_id (z := z2 - 2 * rim) (by omega) (by omega), w64_id (z := z2 - 2 * rim + least) (by omega) (by omega), w64_id (z := 2 * rim + (z1 - 2 * rim + least) + (z2 - 2 * rim + least)) (by omega) (by omega), if_pos ha, if_pos hb2]
   generalize hB : 2 * rim + (z1 - 2 * rim + least) + (z2 - 2 * rim + least) = B at *
   rw [w64_id (z := n - B) (by omega) (by omega)]
   by_cases hg : B ≥ n
   ·rw [if_pos (d1 hg), if_pos hg]
   ·rw [if_neg (dn hg), if_neg hg]
  ·rw [if_neg (dn (show ¬ (k : Int) < (w.length : Int) - 1 by omega)), if_pos ha, if_neg hb2, Int.add_zero]
   generalize hB : 2 * rim + (z1 - 2 * rim + least) = B at *
   rw [w64_id (z := n - B) (by omega) (by omega)]
   by_cases hg : B ≥ n
   ·rw [if_pos (d1 hg), if_pos hg]
   ·rw [if_neg (dn hg), if_neg hg]
 ·rw [if_neg (dn (show ¬ (k : Int) > 0 by omega))]
  by_cases hb2 : k + 1 < w.length
  ·have w2 := h.drop hb2
   rw [if_pos (d1 (show (k : Int) < (w.length : Int) - 1 by omega)), if_pos (by simp; omega), hc _ w2, andThen_some]
   have b2 := hb _ w2
   generalize needN ws rim least (mmap ps) (w.drop (k + 1)) = z2 at *
   simp only
   rw [w64_id (z := z2 - 2 * rim) (by omega) (by omega), w64_id (z := z2 - 2 * rim + least) (by omega) (by omega), w64_id (z := 2 * rim + (z2 - 2 * rim + least)) (by omega) (by omega), if_neg ha, if_pos hb2, Int.add_zero]
   generalize hB : 2 * rim + (z2 - 2 * rim + least) = B at *
   rw [w64_id (z := n - B) (by omega) (by omega)]
   by_cases hg : B ≥ n
   ·rw [if_pos (d1 hg), if_pos hg]
   ·rw [if_neg (dn hg), if_neg hg]
  ·rw [if_neg (dn (show ¬ (k : Int) < (w.length : Int) - 1 by omega)), if_neg ha, if_neg hb2, Int.add_zero, Int.add_zero]
   generalize hB : 2 * rim = B at *
   rw [w64_id (z := n - B) (by omega) (by omega)]
   by_cases hg : B ≥ n
   ·rw [if_pos (d1 hg), if_pos hg]
   ·rw [if_neg (dn hg), if_neg hg]
theorem lk6 {ps : List LP} (h : ∀ q ∈ ps, q.1 < 6 ∧ q.2.1 < 6) (a : Int) : lk (mmap ps) 6 a = 0 ∧ lk (mmap ps) a 6 = 0 := by
 have key : ∀ k : Int × Int, (6 ≤ k.1 ∨ 6 ≤ k.2) → mget T0 k 0 (mmap ps) = 0 := fun k hk => by
  rcases mget_or (k := k) (m := mmap ps) with e | ⟨x, h1, h2, _⟩
  ·exact e
  ·obtain ⟨p, p1, p2⟩ := mi_mem (Nat.le_refl _) x h1
   have := h p p1
   rw [← h2, p2] at hk
   simp only at hk
   omega
 exact ⟨key _ (.inl (Int.le_refl _)), key _ (.inr (Int.le_refl _))⟩
theorem need_more {ws : List Int} {rim least : Int} {m : Mp} {w : List Int} {k : Nat} (hw : ws.length = 6) (hl : 0 ≤ least) (h1 : w.length ≤ 5) (hk : k < w.length) (hx : ∀ x ∈ w, 0 ≤ x ∧ x < 6) (h6 : ∀ a, lk m 6 a = 0 ∧ lk m a 6 = 0) :
  needN (ws ++ [1]) rim least m (w.set k 6) = beside ws rim least m w k + 1 := by
 have g : ∀ x : Int, 0 ≤ x ∧ x < 6 → (ws ++ [1])[x.toNat]?.getD 0 = ws[x.toNat]?.getD 0 := fun x h => by
  rw [List.getElem?_append_left (by omega)]
 have g6 : (ws ++ [1])[6]?.getD 0 = 1 := by
  rw [List.getElem?_append_right (by rw [hw]; decide), hw]; rfl
 have c6 : ∀ a, lk m 6 a = 0 := fun a => (h6 a).1
 have d6 : ∀ a, lk m a 6 = 0 := fun a => (h6 a).2
 have hls : (if 0 < least then least else 0) = least := by split <;> omega
 have rg : List.range 1 = [0] ∧ List.range 2 = [0, 1] ∧ List.range 3 = [0, 1, 2] ∧ List.range 4 = [0, 1, 2, 3] := ⟨rfl, rfl, rfl, rfl⟩
 obtain ⟨r1, r2, r3, r4⟩ := rg
 match w, h1, hk, hx with
 | [], _, hk, _ => simp at hk
 | [a], _, hk, hx =>
  have ha := hx a (by simp)
  have : k = 0 := by simpa using hk
  subst this
  simp [needN, beside, wsum, gsum, loose, g6]
 | [a, b], _, hk, hx =>
  have ga := g a (hx a (by simp)); have gb := g b (hx b (by simp))
  simp at hk
  have hk : k = 0 ∨ k = 1 := by omega
  rcases hk with rfl | rfl <;> simp [needN, beside, wsum, gsum, loose, r1, r2, r3, r4, g6, ga, gb, c6, d6, hls] <;> omega
 | [a, b, c], _, hk, hx =>
  have ga := g a (hx a (by simp)); have gb := g b (hx b (by simp)); have gc := g c (hx c (by simp))
  simp at hk
  have hk : k = 0 ∨ k = 1 ∨ k = 2 := by omega
  rcases hk with rfl | rfl | rfl <;> simp [needN, beside, wsum, gsum, loose, r1, r2, r3, r4, g6, ga, gb, gc, c6, d6, hls] <;> omega
 | [a, b, c, d], _, hk, hx =>
  have ga := g a (hx a (by simp)); have gb := g b (hx b (by simp)); have gc := g c (hx c (by simp)); have gd := g d (hx d (by simp))
  simp at hk
  have hk : k = 0 ∨ k = 1 ∨ k = 2 ∨ k = 3 := by omega
  rcases hk with rfl | rfl | rfl | rfl <;> simp [needN, beside, wsum, gsum, loose, r1, r2, r3, r4, g6, ga, gb, gc, gd, c6, d6, hls] <;> omega
 | [a, b, c, d, e], _, hk, hx =>
  have ga := g a (hx a (by simp)); have gb := g b (hx b (by simp)); have gc := g c (hx c (by simp)); have gd := g d (hx d (by simp)); have ge := g e (hx e (by simp))
  simp at hk
  have hk : k = 0 ∨ k = 1 ∨ k = 2 ∨ k = 3 ∨ k = 4 := by omega
  rcases hk with rfl | rfl | rfl | rfl | rfl <;> simp [needN, beside, wsum, gsum, loose, r1, r2, r3, r4, g6, ga, gb, gc, gd, ge, c6, d6, hls] <;> omega
 | _ :: _ :: _ :: _ :: _ :: _ :: _, h1, _, _ => simp at h1
end Go.Pl


namespace Go.Pl
open Go.Al Go.Proofs
def fr (lo x : Int) : Int := if lo - x > 0 then lo - x else 0
def L0 (l : List Int) (i : Nat) : Int := l.getD i 0
def tk (f : Int → Int) (l : List Int) (i : Nat) : List Int := (l.take i).map f
theorem tk_succ {f : Int → Int} {l : List Int} {i : Nat} (hi : i < l.length) : tk f l (i + 1) = tk f l i ++ [f (L0 l i)] := by
 unfold tk L0; rw [take_getL l 0 hi, List.map_append]; rfl
theorem tk_len {f : Int → Int} {l : List Int} {i : Nat} (hi : i ≤ l.length) : (tk f l i).length = i := by unfold tk; simp; omega
theorem tk_all {f : Int → Int} {l : List Int} : tk f l l.length = l.map f := by unfold tk; rw [List.take_length]
theorem sum_one (l : List Int) (x : Int) : (l ++ [x]).sum = l.sum + x := by simp
theorem tk_bd {f : Int → Int} {l : List Int} {a b : Int} (h : ∀ x ∈ l, a ≤ f x ∧ f x ≤ b) : ∀ {i : Nat}, i ≤ l.length → a * i ≤ (tk f l i).sum ∧ (tk f l i).sum ≤ b * i
 | 0, _ => by simp [tk]
 | i + 1, hi => by
  have ih := tk_bd h (i := i) (by omega)
  rw [tk_succ (by omega), sum_one]
  have h1 := h _ (getD_mem (d := 0) (show i < l.length by omega))
  unfold L0
  have e1 : a * ((i + 1 : Nat) : Int) = a * i + a := by rw [Int.natCast_add, Int.mul_add]; simp
  have e2 : b * ((i + 1 : Nat) : Int) = b * i + b := by rw [Int.natCast_add, Int.mul_add]; simp
  rw [e1, e2]; omega
def okL (lo hi : Int) (l : List Int) (i : Nat) : Bool := (l.take i).all fun x => decide (fr lo x ≤ hi - x)
theorem okL_succ {lo hi : Int} {l : List Int} {i : Nat} (h : i < l.length) : okL lo hi l (i + 1) = (okL lo hi l i && decide (fr lo (L0 l i) ≤ hi - L0 l i)) := by
 unfold okL L0; rw [take_getL l 0 h, List.all_append]; simp
def Bd (l : List Int) : Prop := ∀ x ∈ l, -5 ≤ x ∧ x ≤ 5
theorem fr_bd {lo x : Int} (h0 : 0 ≤ lo) (hx : -5 ≤ x ∧ x ≤ 5) : 0 ≤ fr lo x ∧ fr lo x ≤ lo + 5 := by unfold fr; split <;> omega
theorem f51a_eq (N : Nat) (ws : List Int) (ps : List LP) (a b c : Int) (w : List Int) (lo hi : Int) (m : Mp) (hN : 100 ≤ N) (h1 : 1 ≤ w.length) (hl : w.length ≤ 7) (hm : MOk m) (b0 : 0 ≤ lo) (b1 : lo ≤ hi) (b2 : hi ≤ 3000) :
  f51a N ws ps a b c w lo hi m = some ((loose m w (w.length - 1)).map (fr lo), (loose m w (w.length - 1)).map (fun x => hi - x), ((loose m w (w.length - 1)).map (fr lo)).sum, ((loose m w (w.length - 1)).map (fun x => hi - x)).sum, okL lo hi (loose m w (w.length - 1)) (w.length - 1), m) := by
 have hll := loose_len m w (w.length - 1)
 have hbd : Bd (loose m w (w.length - 1)) := loose_mem hm
 unfold f51a
 rw [f34a_eq N ws ps a b c w m hN h1 (by omega), andThen_some]
 simp only
 generalize hLL : loose m w (w.length - 1) = l at *
 have hb1 : ∀ x ∈ l, (0 : Int) ≤ fr lo x ∧ fr lo x ≤ 3005 := fun x hx => by have := fr_bd b0 (hbd x hx); omega
 have hb2 : ∀ x ∈ l, (-5 : Int) ≤ (fun x => hi - x) x ∧ (fun x => hi - x) x ≤ 3005 := fun x hx => by have := hbd x hx; simp only; omega
 have h := acc_run (fun q i (s : List Int × List Int × Int × Int × Bool) => f51al0 N q s.1 s.2.1 s.2.2.1 s.2.2.2.1 s.2.2.2.2 l (l.length : Int) (i : Int) lo hi m) l.length (fun i => (tk (fr lo) l i, tk (fun x => hi - x) l i, (tk (fr lo) l i).sum, (tk (fun x => hi - x) l i).sum, okL lo hi l i))
  (l.map (fr lo), l.map (fun x => hi - x), (l.map (fr lo)).sum, (l.map (fun x => hi - x)).sum, okL lo hi l l.length, m) (fun q i hi' => by
  show f51al0B N (f51al0 N q) (tk (fr lo) l i) (tk (fun x => hi - x) l i) (tk (fr lo) l i).sum (tk (fun x => hi - x) l i).sum (okL lo hi l i) l (l.length : Int) (i : Int) lo hi m = _
  unfold f51al0B
  have hx := hbd _ (getD_mem (d := 0) hi')
  have s1 := tk_bd hb1 (i := i) (by omega)
  have s2 := tk_bd hb2 (i := i) (by omega)
  have f1 := fr_bd b0 hx
  simp only [Int.toNat_natCast]
  rw [tk_succ hi', tk_succ hi', okL_succ hi', sum_one, sum_one]
  change -5 ≤ L0 l i ∧ L0 l i ≤ 5 at hx
  change 0 ≤ fr lo (L0 l i) ∧ fr lo (L0 l i) ≤ lo + 5 at f1
  have hg : l.getD i 0 = L0 l i := rfl
  have hfr : (if lo - L0 l i > 0 then lo - L0 l i else 0) = fr lo (L0 l i) := rfl
  have w1 : Go.IntKind.wrap .i64 (lo - L0 l i) = lo - L0 l i := w64_id (by omega) (by omega)
  have w2 : Go.IntKind.wrap .i64 (hi - L0 l i) = hi - L0 l i := w64_id (by omega) (by omega)
  have w3 : Go.IntKind.wrap .i64 ((tk (fr lo) l i).sum + fr lo (L0 l i)) = (tk (fr lo) l i).sum + fr lo (L0 l i) := w64_id (by omega) (by omega)
  have w4 : Go.IntKind.wrap .i64 ((tk (fun x => hi - x) l i).sum + (hi - L0 l i)) = (tk (fun x => hi - x) l i).sum + (hi - L0 l i) := w64_id (by omega) (by omega)
  rw [hg, w1, hfr, w2, w3, w4, w_succ (by omega), if_pos (d1 (by omega)), if_pos (dd (by omega) (by omega)), if_pos (ble_b (by rw [tk_len (by omega)]; simp; omega)), if_pos (ble_b (by rw [tk_len (by omega)]; simp; omega))]
  cases okL lo hi l i with
  | true => rw [if_pos rfl, Bool.true_and]
  | false => rw [if_neg (by simp), Bool.false_and]) (fun q => by
  show f51al0B N (f51al0 N q) (tk (fr lo) l l.length) (tk (fun x => hi - x) l l.length) (tk (fr lo) l l.length).sum (tk (fun x => hi - x) l l.length).sum (okL lo hi l l.length) l (l.length : Int) (l.length : Int) lo hi m = _
  unfold f51al0B
  rw [if_neg (by simp), tk_all, tk_all]) N (by omega)
 have h : f51al0 N N [] [] 0 0 true l (l.length : Int) 0 lo hi m = _ := h
 rw [h, andThen_some, hll]
def Fit (l : List Int) (lo hi all : Int) : Prop := (∀ i, i < l.length → fr lo (L0 l i) ≤ hi - L0 l i) ∧ (l.map (fr lo)).sum ≤ all ∧ all ≤ (l.map (fun x => hi - x)).sum
structure Filled (l : List Int) (lo hi all : Int) (g : List Int) : Prop where
 len : g.length = l.length
 b : ∀ i, i < l.length → fr lo (L0 l i) ≤ L0 g i ∧ L0 g i ≤ hi - L0 l i
 s : g.sum = all
theorem sum_set : ∀ (l : List Int) (i : Nat) (v : Int), i < l.length → (l.set i v).sum = l.sum - L0 l i + v
 | [], _, _, h => by simp at h
 | x :: r, 0, v, _ => by simp [L0]; omega
 | x :: r, i + 1, v, h => by
  have := sum_set r i v (by simpa using h)
  have e : L0 (x :: r) (i + 1) = L0 r i := by simp [L0]
  simp only [List.set_cons_succ, List.sum_cons, e]
  omega
theorem L0_set {l : List Int} {i j : Nat} {v : Int} (hi : i < l.length) : L0 (l.set i v) j = if i = j then v else L0 l j := by
 unfold L0; rw [getD_set]
 by_cases e : i = j
 ·subst e; rw [if_pos ⟨rfl, hi⟩, if_pos rfl]
 ·rw [if_neg (fun h => e h.1), if_neg e]
theorem L0_map {f : Int → Int} {l : List Int} {i : Nat} (hi : i < l.length) : L0 (l.map f) i = f (L0 l i) := by
 unfold L0; simp [List.getD_eq_getElem?_getD, hi]
theorem sum_le : ∀ (l m : List Int), l.length = m.length → (∀ i, i < l.length → L0 l i ≤ L0 m i) → l.sum ≤ m.sum
 | [], [], _, _ => by simp
 | [], _ :: _, h, _ => by simp at h
 | _ :: _, [], h, _ => by simp at h
 | x :: r, y :: s, h, hb => by
  have h0 := hb 0 (by simp)
  have := sum_le r s (by simpa using h) fun i hi => by
   have := hb (i + 1) (by simpa using hi)
   simpa [L0] using this
  simp [L0] at h0
  simp only [List.sum_cons]
  omega
theorem f31a_fit (N : Nat) (ws : List Int) (ps : List LP) (a b c : Int) (w : List Int) (lo hi all : Int) (m : Mp) (hN : 100 ≤ N) (h1 : 1 ≤ w.length) (hl : w.length ≤ 7) (hm : MOk m) (b0 : 0 ≤ lo) (b1 : lo ≤ hi) (b2 : hi ≤ 3000) (b3 : 0 ≤ all ∧ all ≤ 3000)
  (hf : Fit (loose m w (w.length - 1)) lo hi all) : ∃ g, f31a N ws ps a b c w lo hi all m = some (g, true, m) ∧ Filled (loose m w (w.length - 1)) lo hi all g := by
 have hll := loose_len m w (w.length - 1)
 have hbd : Bd (loose m w (w.length - 1)) := loose_mem hm
 unfold f31a
 rw [f51a_eq N ws ps a b c w lo hi m hN h1 hl hm b0 b1 b2, andThen_some]
 simp only
 generalize hLL : loose m w (w.length - 1) = l at *
 obtain ⟨f1, f2, f3⟩ := hf
 have hok : okL lo hi l (w.length - 1) = true := by
  unfold okL
  rw [List.all_eq_true]
  intro x hx
  obtain ⟨i, hi', e⟩ := getD_of_mem 0 (List.mem_of_mem_take hx)
  have := f1 i hi'
  unfold L0 at this
  rw [e] at this
  exact d1 this
 rw [hok, if_pos (by rfl), if_pos (by rw [decide_eq_false (by omega)]), if_neg (dn (by omega))]
 have hlen : (l.map (fr lo)).length = l.length := by simp
 rw [hlen, w64_id (by omega) (by omega)]
 obtain ⟨res, e1, g, rfl, e2⟩ := loop_run (fun q (s : Nat × List Int) => f31al0 N q all s.2 (l.map (fun x => hi - x)) s.2.sum ((s.1 : Int) - 1) m)
  (fun s => s.1 ≤ l.length ∧ s.2.length = l.length ∧ (∀ i, i < l.length → fr lo (L0 l i) ≤ L0 s.2 i ∧ L0 s.2 i ≤ hi - L0 l i) ∧ s.2.sum ≤ all ∧ (s.2.sum = all ∨ ∀ i, s.1 ≤ i → i < l.length → L0 s.2 i = hi - L0 l i)) (fun s => s.1) (fun res => ∃ g, res = (g, m) ∧ Filled l lo hi all g) (fun q s hs => by
  obtain ⟨k, g⟩ := s
  obtain ⟨c1, c2, c3, c4, c5⟩ := hs
  simp only at c1 c2 c3 c4 c5 ⊢
  cases k with
  | zero =>
   left
   have hz : g.sum = all := by
    rcases c5 with c5 | c5
    ·exact c5
    ·have : (l.map (fun x => hi - x)).sum ≤ g.sum := sum_le _ _ (by simp [c2]) fun i hi' => by
      have hi' : i < l.length := by simpa using hi'
      rw [L0_map hi', c5 i (Nat.zero_le _) hi']; exact Int.le_refl _
     omega
   refine ⟨_, ?_, g, rfl, c2, c3, hz⟩
   show f31al0B N (f31al0 N q) all g _ g.sum (((0 : Nat) : Int) - 1) m = _
   unfold f31al0B
   rw [if_neg (by decide)]
  | succ k =>
   right
   have hk : k < l.length := by omega
   have hx := hbd _ (getD_mem (d := 0) hk)
   change -5 ≤ L0 l k ∧ L0 l k ≤ 5 at hx
   have c3k := c3 k hk
   have hfr := fr_bd b0 hx
   have hmost : L0 (l.map (fun x => hi - x)) k = hi - L0 l k := L0_map hk
   have hsum0 : 0 ≤ g.sum := by
    have : (List.replicate g.length (0 : Int)).sum ≤ g.sum := sum_le _ _ (by simp) fun i hi' => by
     have hi2 : i < l.length := by rw [← c2]; simpa using hi'
     have := c3 i hi2
     have hx2 := hbd _ (getD_mem (d := 0) hi2)
     have := (fr_bd b0 hx2).1
     change 0 ≤ fr lo (L0 l i) at this
     have e : L0 (List.replicate g.length (0 : Int)) i = 0 := by unfold L0; simp [List.getD_eq_getElem?_getD, List.getElem?_replicate]; split <;> rfl
     rw [e]; omega
    have e : (List.replicate g.length (0 : Int)).sum = 0 := by simp
    omega
   generalize hn : (if all - g.sum < hi - L0 l k - L0 g k then all - g.sum else hi - L0 l k - L0 g k) = n
   have hn1 : 0 ≤ n ∧ n ≤ all - g.sum ∧ n ≤ hi - L0 l k - L0 g k ∧ (n = all - g.sum ∨ n = hi - L0 l k - L0 g k) := by rw [← hn]; split <;> omega
   refine ⟨(k, g.set k (L0 g k + n)), ⟨by omega, by simp [c2], fun i hi' => ?_, ?_, ?_⟩, by simp only; omega, ?_⟩
   ·simp only
    rw [L0_set (by omega)]
    by_cases e : k = i
    ·subst e; rw [if_pos rfl]; omega
    ·rw [if_neg e]; exact c3 i hi'
   ·simp only
    rw [sum_set g k _ (by omega)]; omega
   ·simp only
    rw [sum_set g k _ (by omega)]
    rcases hn1.2.2.2 with h | h
    ·left; omega
    ·rcases c5 with c5 | c5
     ·left; omega
     ·right
      intro i hi1 hi2
      rw [L0_set (by omega)]
      by_cases e : k = i
      ·subst e; rw [if_pos rfl]; omega
      ·rw [if_neg e]; exact c5 i (by omega) hi2
   ·show f31al0B N (f31al0 N q) all g (l.map (fun x => hi - x)) g.sum (((k + 1 : Nat) : Int) - 1) m = f31al0 N q all (g.set k (L0 g k + n)) (l.map (fun x => hi - x)) (g.set k (L0 g k + n)).sum ((k : Int) - 1) m
    have hkk : (((k + 1 : Nat) : Int) - 1) = (k : Int) := by omega
    unfold f31al0B
    rw [hkk]
    simp only [Int.toNat_natCast]
    have g1 : g.getD k 0 = L0 g k := rfl
    have g2 : (l.map (fun x => hi - x)).getD k 0 = hi - L0 l k := hmost
    have hml : (l.map (fun x => hi - x)).length = l.length := by simp
    rw [g1, g2, w64_id (z := all - g.sum) (by omega) (by omega), w64_id (z := hi - L0 l k - L0 g k) (by omega) (by omega), hn, w64_id (z := L0 g k + n) (by omega) (by omega), w64_id (z := g.sum + n) (by omega) (by omega), w64_id (z := (k : Int) - 1) (by omega) (by omega)]
    rw [if_pos (d1 (by omega)), if_pos (dd (by omega) (by rw [hml]; omega)), if_pos (dd (by omega) (by omega)), if_pos (dd (by omega) (by omega)), if_pos (dd (by omega) (by omega)), sum_set g k _ (by omega)]
    congr 1
    omega) N (l.length, l.map (fr lo)) ⟨Nat.le_refl _, hlen, fun i hi' => by
    simp only
    rw [L0_map hi']
    exact ⟨Int.le_refl _, f1 i hi'⟩, f2, .inr fun i h1 h2 => absurd h2 (by simp only at h1; omega)⟩ (by simp only; omega)
 have e1 : f31al0 N N all (l.map (fr lo)) (l.map (fun x => hi - x)) (l.map (fr lo)).sum ((l.length : Int) - 1) m = some (g, m) := e1
 rw [e1, andThen_some]
 exact ⟨g, rfl, e2⟩
theorem f31a_not (N : Nat) (ws : List Int) (ps : List LP) (a b c : Int) (w : List Int) (lo hi all : Int) (m : Mp) (hN : 100 ≤ N) (h1 : 1 ≤ w.length) (hl : w.length ≤ 7) (hm : MOk m) (b0 : 0 ≤ lo) (b1 : lo ≤ hi) (b2 : hi ≤ 3000)
  (hf : ¬ Fit (loose m w (w.length - 1)) lo hi all) : f31a N ws ps a b c w lo hi all m = some ([], false, m) := by
 have hll := loose_len m w (w.length - 1)
 unfold f31a
 rw [f51a_eq N ws ps a b c w lo hi m hN h1 hl hm b0 b1 b2, andThen_some]
 simp only
 generalize hLL : loose m w (w.length - 1) = l at *
 cases hok : okL lo hi l (w.length - 1) with
 | false => rw [if_neg (by simp)]
 | true =>
  rw [if_pos (by rfl)]
  by_cases c1 : all < (l.map (fr lo)).sum
  ·rw [if_neg (by rw [decide_eq_true c1]; simp)]
  ·rw [if_pos (by rw [decide_eq_false c1])]
   by_cases c2 : all > (l.map (fun x => hi - x)).sum
   ·rw [if_pos (d1 c2)]
   ·refine absurd ⟨fun i hi' => ?_, by omega, by omega⟩ hf
    unfold okL at hok
    rw [← hll, List.take_length, List.all_eq_true] at hok
    exact of_decide_eq_true (hok _ (getD_mem (d := 0) hi'))
theorem f52_some (N : Nat) (x y : Int) : ∃ v, f52 N x y = some v := by
 unfold f52 f75
 simp only [bne_self_eq_false, andThen_some]
 by_cases h : x < y
 ·exact ⟨-1, by simp [h]⟩
 ·by_cases h2 : x > y
  ·exact ⟨1, by simp [h, h2]⟩
  ·exact ⟨0, by simp [h, h2]⟩
theorem f32_some (N : Nat) (x y : List Int) (hN : 100 ≤ N) (h1 : x.length < 50) : ∃ v, f32 N x y = some v := by
 obtain ⟨res, e1, e2⟩ := loop_run (fun q (i : Nat) => f32l0 N q x y x (x.length : Int) (i : Int)) (fun i => i ≤ x.length) (fun i => x.length - i) (fun _ => True) (fun q i hi => by
  by_cases hlt : i < x.length
  ·obtain ⟨v, hv⟩ := f52_some N (x.getD i 0) (y.getD i 0)
   have hun : f32l0 N (q + 1) x y x (x.length : Int) (i : Int) = if decide ((i : Int) ≥ (y.length : Int)) = true then some (Sum.inl 1) else (if (decide ((0 : Int) ≤ (i : Int)) && decide ((i : Int) < (y.length : Int))) = true then (if (v != (0 : Int)) = true then some (Sum.inl v) else f32l0 N q x y x (x.length : Int) ((i + 1 : Nat) : Int)) else none) := by
    show f32l0B N (f32l0 N q) x y x (x.length : Int) (i : Int) = _
    unfold f32l0B
    simp only [Int.toNat_natCast]
    rw [if_pos (d1 (by omega)), if_pos (dd (by omega) (by omega)), hv, andThen_some, w_succ (by omega)]
   by_cases hy : (i : Int) ≥ (y.length : Int)
   ·left; exact ⟨_, by rw [hun, if_pos (d1 hy)], trivial⟩
   ·by_cases hz : (v != (0 : Int)) = true
    ·left; exact ⟨_, by rw [hun, if_neg (dn hy), if_pos (dd (by omega) (by omega)), if_pos hz], trivial⟩
    ·right; exact ⟨i + 1, hlt, by omega, by rw [hun, if_neg (dn hy), if_pos (dd (by omega) (by omega)), if_neg hz]⟩
  ·left
   have : i = x.length := by omega
   subst this
   refine ⟨.inr (x, y), ?_, trivial⟩
   show f32l0B N (f32l0 N q) x y x (x.length : Int) (x.length : Int) = _
   unfold f32l0B
   rw [if_neg (by simp)]) N 0 (Nat.zero_le _) (by omega)
 have e1 : f32l0 N N x y x (x.length : Int) 0 = some res := e1
 unfold f32
 rw [e1, andThen_some]
 cases res with
 | inl a => exact ⟨a, rfl⟩
 | inr b =>
  rw [either_inr]
  split
  ·exact ⟨_, rfl⟩
  ·exact ⟨_, rfl⟩
end Go.Pl


namespace Go.Pl
open Go.Al Go.Proofs
def NoFit (l : List Int) (least all : Int) (k : Nat) : Prop := ∀ low, least ≤ low → low ≤ all + 5 → ¬ Fit l low (low + k) all
def Got (l : List Int) (least all : Int) (k : Nat) (g : List Int) : Prop := ∃ low, least ≤ low ∧ low ≤ all + 5 ∧ Filled l low (low + k) all g
theorem f15l1_eq (N : Nat) (ws : List Int) (ps : List LP) (rim least blank : Int) (w : List Int) (k : Nat) (all : Int) (m : Mp) (hN : 2000 ≤ N) (h1 : 2 ≤ w.length) (hl : w.length ≤ 7) (hm : MOk m) (h0 : 0 ≤ least ∧ least ≤ 10) (ha : 0 ≤ all ∧ all ≤ 400) (hla : least ≤ all + 5) (hk : k ≤ 450) :
  ∃ g, f15l1 N N w (true, []) (k : Int) all least ws ps rim least blank m = some (w, g, (k : Int), all, ws, ps, rim, least, blank, m) ∧ ((g = (true, []) ∧ NoFit (loose m w (w.length - 1)) least all k) ∨ (g.1 = false ∧ Got (loose m w (w.length - 1)) least all k g.2)) := by
 have hll := loose_len m w (w.length - 1)
 have hw5 : Go.IntKind.wrap .i64 (all + 5) = all + 5 := w64_id (by omega) (by omega)
 obtain ⟨res, e1, g, rfl, e2⟩ := loop_run (fun q (s : Nat × (Bool × List Int)) => f15l1 N q w s.2 (k : Int) all (least + s.1) ws ps rim least blank m)
  (fun s => least + s.1 ≤ all + 6 ∧ ((s.2 = (true, []) ∧ ∀ low, least ≤ low → low < least + s.1 → ¬ Fit (loose m w (w.length - 1)) low (low + k) all) ∨ (s.2.1 = false ∧ Got (loose m w (w.length - 1)) least all k s.2.2))) (fun s => 500 - s.1)
  (fun res => ∃ g, res = (w, g, (k : Int), all, ws, ps, rim, least, blank, m) ∧ ((g = (true, []) ∧ NoFit (loose m w (w.length - 1)) least all k) ∨ (g.1 = false ∧ Got (loose m w (w.length - 1)) least all k g.2))) (fun q s hs => by
   obtain ⟨j, g⟩ := s
   obtain ⟨hj, hg⟩ := hs
   simp only at hj hg ⊢
   by_cases hlt : least + (j : Int) ≤ all + 5
   ·right
    have hwj : Go.IntKind.wrap .i64 (least + (j : Int) + (k : Int)) = least + j + k := w64_id (by omega) (by omega)
    have hwn : Go.IntKind.wrap .i64 (least + (j : Int) + 1) = least + ((j + 1 : Nat) : Int) := by rw [w64_id (by omega) (by omega)]; omega
    by_cases hf : Fit (loose m w (w.length - 1)) (least + j) (least + j + k) all
    ·obtain ⟨x, e1, e2⟩ := f31a_fit N ws ps rim least blank w (least + j) (least + j + k) all m (by omega) (by omega) hl hm (by omega) (by omega) (by omega) (by omega) hf
     have hgot : Got (loose m w (w.length - 1)) least all k x := ⟨least + j, by omega, hlt, e2⟩
     have hne : (!List.isEmpty x) = true := by
      have := e2.len
      rw [hll] at this
      cases x with
      | nil => simp at this; omega
      | cons _ _ => rfl
     have hxl : x.length < 50 := by have := e2.len; omega
     have hstep : f15l1 N (q + 1) w g (k : Int) all (least + j) ws ps rim least blank m = if g.1 = false then (andThen (f32 N x g.2) fun v8 => (if (decide (v8 < (0 : Int))) = true then f15l1 N q w (false, x) (k : Int) all (least + ((j + 1 : Nat) : Int)) ws ps rim least blank m else f15l1 N q w (g.1, g.2) (k : Int) all (least + ((j + 1 : Nat) : Int)) ws ps rim least blank m)) else f15l1 N q w (false, x) (k : Int) all (least + ((j + 1 : Nat) : Int)) ws ps rim least blank m := by
      show f15l1B N (f15l1 N q) w g (k : Int) all (least + j) ws ps rim least blank m = _
      unfold f15l1B
      rw [hw5, if_pos (d1 hlt), hwj, e1, andThen_some]
      simp only
      rw [if_pos trivial, if_pos hne, hwn]
     rcases hg with ⟨rfl, hg⟩ | ⟨hg1, hg2⟩
     ·exact ⟨(j + 1, (false, x)), ⟨by simp only; omega, .inr ⟨rfl, hgot⟩⟩, by simp only; omega, by rw [hstep, if_neg (by simp)]⟩
     ·obtain ⟨v, hv⟩ := f32_some N x g.2 (by omega) hxl
      by_cases hvn : v < 0
      ·exact ⟨(j + 1, (false, x)), ⟨by simp only; omega, .inr ⟨rfl, hgot⟩⟩, by simp only; omega, by rw [hstep, if_pos hg1, hv, andThen_some, if_pos (d1 hvn)]⟩
      ·exact ⟨(j + 1, g), ⟨by simp only; omega, .inr ⟨hg1, hg2⟩⟩, by simp only; omega, by rw [hstep, if_pos hg1, hv, andThen_some, if_neg (dn hvn)]⟩
    ·have e1 := f31a_not N ws ps rim least blank w (least + j) (least + j + k) all m (by omega) (by omega) hl hm (by omega) (by omega) (by omega) hf
     refine ⟨(j + 1, g), ⟨by simp only; omega, ?_⟩, by simp only; omega, ?_⟩
     ·rcases hg with ⟨rfl, hg⟩ | hg
      ·left
       refine ⟨rfl, fun low a b => ?_⟩
       by_cases e : low = least + j
       ·rw [e]; exact hf
       ·exact hg low a (by omega)
      ·exact .inr hg
     ·show f15l1B N (f15l1 N q) w g (k : Int) all (least + j) ws ps rim least blank m = _
      unfold f15l1B
      rw [hw5, if_pos (d1 hlt), hwj, e1, andThen_some]
      simp only
      rw [if_neg (by simp), hwn]
   ·left
    refine ⟨_, ?_, g, rfl, ?_⟩
    ·show f15l1B N (f15l1 N q) w g (k : Int) all (least + j) ws ps rim least blank m = _
     unfold f15l1B
     rw [hw5, if_neg (dn hlt)]
    ·rcases hg with ⟨e, hg⟩ | hg
     ·exact .inl ⟨e, fun low a b => hg low a (by omega)⟩
     ·exact .inr hg) N (0, (true, [])) ⟨by simp only; omega, .inl ⟨rfl, fun low a b => absurd b (by simp only; omega)⟩⟩ (by simp only; omega)
 have e1 : f15l1 N N w (true, []) (k : Int) all (least + ((0 : Nat) : Int)) ws ps rim least blank m = _ := e1
 rw [show least + ((0 : Nat) : Int) = least by omega] at e1
 exact ⟨g, e1, e2⟩
theorem fit_wide {l : List Int} {least all : Int} (hb : Bd l) (hne : 0 < l.length) (h0 : 0 ≤ least) (ha : 0 ≤ all) (hs : (l.map (fr least)).sum ≤ all) (k : Nat) (hk : all + 20 ≤ k) : Fit l least (least + k) all := by
 refine ⟨fun i hi => ?_, hs, ?_⟩
 ·have := hb _ (getD_mem (d := 0) hi)
  change -5 ≤ L0 l i ∧ L0 l i ≤ 5 at this
  unfold fr; split <;> omega
 ·have key : ∀ (l : List Int), Bd l → 0 < l.length → all ≤ (l.map (fun x => least + (k : Int) - x)).sum := fun l => by
   induction l with
   | nil => intro _ h; simp at h
   | cons x r ih =>
    intro hb _
    have hx := hb x (by simp)
    simp only [List.map_cons, List.sum_cons]
    by_cases hr : 0 < r.length
    ·have := ih (fun y hy => hb y (by simp [hy])) hr
     omega
    ·have : r = [] := by cases r <;> simp at hr ⊢
     subst this; simp; omega
  exact key l hb hne
theorem f15l0_eq (N : Nat) (ws : List Int) (ps : List LP) (rim least blank : Int) (w : List Int) (all : Int) (m : Mp) (hN : 2000 ≤ N) (h1 : 2 ≤ w.length) (hl : w.length ≤ 7) (hm : MOk m) (h0 : 0 ≤ least ∧ least ≤ 10) (ha : 0 ≤ all ∧ all ≤ 400) (hla : least ≤ all + 5) (hs : ((loose m w (w.length - 1)).map (fr least)).sum ≤ all) :
  ∃ g k, f15l0 N N w (true, []) 0 all ws ps rim least blank m = some ((false, g), ((k + 1 : Nat) : Int)) ∧ k ≤ 430 ∧ Got (loose m w (w.length - 1)) least all k g ∧ ∀ k', k' < k → NoFit (loose m w (w.length - 1)) least all k' := by
 have hll := loose_len m w (w.length - 1)
 obtain ⟨res, e1, g, k, rfl, e2, e3, e4⟩ := loop_run (fun q (s : Nat × (Bool × List Int)) => f15l0 N q w s.2 (s.1 : Int) all ws ps rim least blank m)
  (fun s => (s.2 = (true, []) ∧ s.1 ≤ 421 ∧ ∀ k', k' < s.1 → NoFit (loose m w (w.length - 1)) least all k') ∨ (s.2.1 = false ∧ ∃ k, s.1 = k + 1 ∧ k ≤ 430 ∧ Got (loose m w (w.length - 1)) least all k s.2.2 ∧ ∀ k', k' < k → NoFit (loose m w (w.length - 1)) least all k')) (fun s => bif s.2.1 then 500 - s.1 else 0)
  (fun res => ∃ g k, res = ((false, g), ((k + 1 : Nat) : Int)) ∧ k ≤ 430 ∧ Got (loose m w (w.length - 1)) least all k g ∧ ∀ k', k' < k → NoFit (loose m w (w.length - 1)) least all k') (fun q s hs' => by
   obtain ⟨k, g⟩ := s
   simp only at hs' ⊢
   rcases hs' with ⟨rfl, hk, hno⟩ | ⟨hg, k0, rfl, hk, hgot, hno⟩
   ·right
    obtain ⟨g2, e1, e2⟩ := f15l1_eq N ws ps rim least blank w k all m hN h1 hl hm h0 ha hla (by omega)
    have hstep : f15l0 N (q + 1) w (true, []) (k : Int) all ws ps rim least blank m = f15l0 N q w g2 ((k + 1 : Nat) : Int) all ws ps rim least blank m := by
     show f15l0B N (f15l0 N q) w (true, []) (k : Int) all ws ps rim least blank m = _
     unfold f15l0B
     rw [if_pos rfl, e1, andThen_some]
     simp only
     rw [w_succ (by omega)]
    rcases e2 with ⟨rfl, h2⟩ | ⟨h2, h3⟩
    ·have hk2 : k + 1 ≤ 421 := by
      by_cases e : (all + 20 : Int) ≤ (k : Int)
      ·exact absurd (fit_wide (loose_mem hm) (by omega) h0.1 ha.1 hs k e) (h2 least (Int.le_refl _) hla)
      ·omega
     exact ⟨(k + 1, (true, [])), .inl ⟨rfl, hk2, fun k' hk' => by
      by_cases e : k' = k
      ·rw [e]; exact h2
      ·exact hno k' (by simp only at hk'; omega)⟩, by simp only [cond_true]; omega, hstep⟩
    ·refine ⟨(k + 1, g2), .inr ⟨h2, k, rfl, by omega, h3, hno⟩, ?_, hstep⟩
     show (bif g2.1 then _ else _) < _
     rw [h2]; simp only [cond_false, cond_true]; omega
   ·left
    refine ⟨_, ?_, g.2, k0, rfl, hk, hgot, hno⟩
    show f15l0B N (f15l0 N q) w g ((k0 + 1 : Nat) : Int) all ws ps rim least blank m = _
    unfold f15l0B
    rw [if_neg (by rw [hg]; simp)]
    obtain ⟨g1, g2⟩ := g
    have hg : g1 = false := hg
    rw [hg]) N (0, (true, [])) (.inl ⟨rfl, by simp, fun k' hk' => absurd hk' (by simp)⟩) (by simp only [cond_true]; omega)
 exact ⟨g, k, e1, e2, e3, e4⟩
theorem gsum_eq (least : Int) (l : List Int) : gsum least l l.length = (l.map (fr least)).sum := by
 unfold gsum; rw [List.take_length]; rfl
theorem f15_one (N : Nat) {ws : List Int} {ps : List LP} {rim least blank : Int} {w : List Int} {n : Int} (hN : 2000 ≤ N) (v : LV ws ps rim least blank) (h : WOk ws.length w) (h1 : w.length = 1) (hn : needN ws rim least (mmap ps) w ≤ n ∧ n ≤ 400) : f15 N ws ps rim least blank w n = some ([], 0, 0) := by
 have hb := needN_bd v h
 unfold f15
 rw [f18_ok N (by omega) v (by simp) (by simpa using h), andThen_some, either_inr]
 simp only
 rw [if_neg (by simp), f21_eq N n (by omega), andThen_some, dd (by omega) hn.2, if_neg (by simp), f19a_eq N ws ps rim least blank w _ (by omega) v.r v.l v.mok h.l1 (by omega) v.w h.m, andThen_some]
 simp only
 rw [if_neg (dn (by omega)), if_pos (by simp [h1])]
theorem f15_ok (N : Nat) {ws : List Int} {ps : List LP} {rim least blank : Int} {w : List Int} {n : Int} (hN : 2000 ≤ N) (v : LV ws ps rim least blank) (h : WOk ws.length w) (h2 : 2 ≤ w.length) (hn : needN ws rim least (mmap ps) w ≤ n ∧ n ≤ 400) :
  ∃ g k all, f15 N ws ps rim least blank w n = some (g, ((k : Nat) : Int), 0) ∧ k ≤ 430 ∧ 0 ≤ all ∧ all ≤ n ∧ least ≤ all + 5 ∧ Got (loose (mmap ps) w (w.length - 1)) least all k g ∧ ∀ k', k' < k → NoFit (loose (mmap ps) w (w.length - 1)) least all k' := by
 have hb := needN_bd v h
 have h7 := h.l7
 have hr := v.r; have hle := v.l
 have hws := wsum_bd v.w h.m (Nat.le_refl w.length)
 have hll := loose_len (mmap ps) w (w.length - 1)
 have hgs := gsum_bd v.l (loose_mem v.mok (w := w) (i := w.length - 1)) (i := w.length - 1) (by rw [hll]; omega)
 have hneed : needN ws rim least (mmap ps) w = 2 * rim + wsum ws w w.length + ((loose (mmap ps) w (w.length - 1)).map (fr least)).sum := by
  have := gsum_eq least (loose (mmap ps) w (w.length - 1))
  rw [hll] at this
  unfold needN; rw [this]
 have hge := gsum_eq least (loose (mmap ps) w (w.length - 1))
 rw [hll] at hge
 rw [hge] at hgs
 generalize hA : n - (2 * rim + wsum ws w w.length) = all
 have hla : least ≤ all + 5 := by
  have key : ∀ l : List Int, Bd l → 0 < l.length → least - 5 ≤ (l.map (fr least)).sum := fun l => by
   intro hbd hne
   cases l with
   | nil => simp at hne
   | cons x r =>
    have hx := hbd x (by simp)
    have h0 : ∀ r : List Int, Bd r → 0 ≤ (r.map (fr least)).sum := fun r => by
     induction r with
     | nil => intro _; simp
     | cons y s ih =>
      intro hb
      have := (fr_bd hle.1 (hb y (by simp))).1
      have := ih fun z hz => hb z (by simp [hz])
      simp only [List.map_cons, List.sum_cons]; omega
    have := h0 r fun z hz => hbd z (by simp [hz])
    have : least - 5 ≤ fr least x := by unfold fr; split <;> omega
    simp only [List.map_cons, List.sum_cons]; omega
  have := key _ (loose_mem v.mok) (by rw [hll]; omega)
  omega
 obtain ⟨g, k, e1, e2, e3, e4⟩ := f15l0_eq N ws ps rim least blank w all (mmap ps) hN h2 h7 v.mok v.l (by omega) hla (by omega)
 refine ⟨g, k, all, ?_, e2, by omega, by omega, hla, e3, e4⟩
 unfold f15
 rw [f18_ok N (by omega) v (by simp) (by simpa using h), andThen_some, either_inr]
 simp only
 rw [if_neg (by simp), f21_eq N n (by omega), andThen_some, dd (by omega) hn.2, if_neg (by simp), f19a_eq N ws ps rim least blank w _ (by omega) v.r v.l v.mok h.l1 (by omega) v.w h.m, andThen_some]
 simp only
 rw [if_neg (dn (by omega)), if_neg (by simp; omega), f30a_eq N ws ps rim least blank w _ (by omega) v.r (by omega) v.w h.m, andThen_some]
 simp only
 rw [hA, w64_id (z := all) (by omega) (by omega), e1, andThen_some]
 simp only
 rw [w64_id (by omega) (by omega)]
 congr 2
 simp
end Go.Pl


namespace Go.Pl
open Go.Al Go.Proofs
theorem f53_eq (N : Nat) (l : List Int) (hN : 100 ≤ N) (h1 : 1 ≤ l.length) (hl : l.length ≤ 20) : ∃ M, f53 N l = some M ∧ M ∈ l ∧ ∀ x ∈ l, x ≤ M := by
 obtain ⟨res, e1, e2, e3⟩ := loop_run (fun q (s : Nat × Int) => f53l0 N q l s.2 (s.1 : Int)) (fun s => s.1 ≤ l.length ∧ s.2 ∈ l ∧ ∀ i, i < s.1 → L0 l i ≤ s.2) (fun s => l.length - s.1) (fun M => M ∈ l ∧ ∀ x ∈ l, x ≤ M) (fun q s hs => by
  obtain ⟨i, c⟩ := s
  obtain ⟨a1, a2, a3⟩ := hs
  simp only at a1 a2 a3 ⊢
  by_cases hi : i < l.length
  ·right
   have hm : L0 l i ∈ l := getD_mem hi
   refine ⟨(i + 1, if L0 l i > c then L0 l i else c), ⟨hi, by simp only; split <;> assumption, fun j hj => ?_⟩, by simp only; omega, ?_⟩
   ·simp only at hj ⊢
    by_cases e : j = i
    ·subst e; split <;> omega
    ·have := a3 j (by omega)
     split <;> omega
   ·show f53l0B N (f53l0 N q) l c (i : Int) = _
    unfold f53l0B
    simp only [Int.toNat_natCast]
    rw [if_pos (d1 (by omega)), if_pos (dd (by omega) (by omega)), w_succ (by omega)]
    rfl
  ·left
   have : i = l.length := by omega
   subst this
   refine ⟨c, ?_, a2, fun x hx => ?_⟩
   ·show f53l0B N (f53l0 N q) l c (l.length : Int) = _
    unfold f53l0B
    rw [if_neg (by simp)]
   ·obtain ⟨j, hj, e⟩ := getD_of_mem 0 hx
    have := a3 j hj
    unfold L0 at this
    omega) N (1, L0 l 0) ⟨h1, getD_mem (by omega), fun i hi => by
     have : i = 0 := by simp only at hi; omega
     subst this; exact Int.le_refl _⟩ (by simp only; omega)
 have e1 : f53l0 N N l (l.getD (Int.toNat 0) 0) 1 = some res := e1
 refine ⟨res, ?_, e2, e3⟩
 unfold f53
 rw [if_neg (dn (by omega)), if_pos (dd (by omega) (by omega)), e1]; rfl
theorem f54_eq (N : Nat) (l : List Int) (hN : 100 ≤ N) (h1 : 1 ≤ l.length) (hl : l.length ≤ 20) : ∃ M, f54 N l = some M ∧ M ∈ l ∧ ∀ x ∈ l, M ≤ x := by
 obtain ⟨res, e1, e2, e3⟩ := loop_run (fun q (s : Nat × Int) => f54l0 N q l s.2 (s.1 : Int)) (fun s => s.1 ≤ l.length ∧ s.2 ∈ l ∧ ∀ i, i < s.1 → s.2 ≤ L0 l i) (fun s => l.length - s.1) (fun M => M ∈ l ∧ ∀ x ∈ l, M ≤ x) (fun q s hs => by
  obtain ⟨i, c⟩ := s
  obtain ⟨a1, a2, a3⟩ := hs
  simp only at a1 a2 a3 ⊢
  by_cases hi : i < l.length
  ·right
   have hm : L0 l i ∈ l := getD_mem hi
   refine ⟨(i + 1, if L0 l i < c then L0 l i else c), ⟨hi, by simp only; split <;> assumption, fun j hj => ?_⟩, by simp only; omega, ?_⟩
   ·simp only at hj ⊢
    by_cases e : j = i
    ·subst e; split <;> omega
    ·have := a3 j (by omega)
     split <;> omega
   ·show f54l0B N (f54l0 N q) l c (i : Int) = _
    unfold f54l0B
    simp only [Int.toNat_natCast]
    rw [if_pos (d1 (by omega)), if_pos (dd (by omega) (by omega)), w_succ (by omega)]
    rfl
  ·left
   have : i = l.length := by omega
   subst this
   refine ⟨c, ?_, a2, fun x hx => ?_⟩
   ·show f54l0B N (f54l0 N q) l c (l.length : Int) = _
    unfold f54l0B
    rw [if_neg (by simp)]
   ·obtain ⟨j, hj, e⟩ := getD_of_mem 0 hx
    have := a3 j hj
    unfold L0 at this
    omega) N (1, L0 l 0) ⟨h1, getD_mem (by omega), fun i hi => by
     have : i = 0 := by simp only at hi; omega
     subst this; exact Int.le_refl _⟩ (by simp only; omega)
 have e1 : f54l0 N N l (l.getD (Int.toNat 0) 0) 1 = some res := e1
 refine ⟨res, ?_, e2, e3⟩
 unfold f54
 rw [if_neg (dn (by omega)), if_pos (dd (by omega) (by omega)), e1]; rfl
def lkL (g l : List Int) (i : Nat) : List Int := (List.range i).map fun j => L0 g j + L0 l j
theorem lkL_len (g l : List Int) (i : Nat) : (lkL g l i).length = i := by unfold lkL; simp
theorem lkL_get (g l : List Int) {i j : Nat} (h : j < i) : L0 (lkL g l i) j = L0 g j + L0 l j := by
 unfold lkL L0; simp [List.getD_eq_getElem?_getD, h]
theorem f16_eq (N : Nat) {ws : List Int} {ps : List LP} {rim least blank : Int} {w g : List Int} (hN : 2000 ≤ N) (v : LV ws ps rim least blank) (h : WOk ws.length w) (hg : g.length = w.length - 1) (hb : ∀ x ∈ g, 0 ≤ x ∧ x ≤ 400) (s : Int)
  (hs : f35 N (lkL g (loose (mmap ps) w (w.length - 1)) (w.length - 1)) = some s) : f16 N ws ps rim least blank w g = some (lkL g (loose (mmap ps) w (w.length - 1)) (w.length - 1), s, 0) := by
 have h1 := h.l1; have h7 := h.l7
 have hll := loose_len (mmap ps) w (w.length - 1)
 have hbd : Bd (loose (mmap ps) w (w.length - 1)) := loose_mem v.mok
 unfold f16
 rw [f18_ok N (by omega) v (by simp) (by simpa using h), andThen_some, either_inr]
 simp only
 have e33 : f33 N w g = some true := by
  unfold f33
  rw [w64_id (by omega) (by omega), if_pos (by rw [beq_iff_eq]; omega), f20_eq N _ _ _ (by omega) (by omega), andThen_some, allB hb]
 rw [if_neg (by simp), e33, andThen_some, if_neg (by simp), f34a_eq N ws ps rim least blank w _ (by omega) h1 (by omega), andThen_some]
 simp only
 generalize hLL : loose (mmap ps) w (w.length - 1) = l at *
 have hloop := acc_run (fun q i (a : List Int) => f16l0 N q g a l (l.length : Int) (i : Int)) l.length (lkL g l) (lkL g l l.length) (fun q i hi => by
  show f16l0B N (f16l0 N q) g (lkL g l i) l (l.length : Int) (i : Int) = _
  unfold f16l0B
  have hx := hbd _ (getD_mem (d := 0) hi)
  have hy := hb _ (getD_mem (d := 0) (show i < g.length by omega))
  simp only [Int.toNat_natCast]
  rw [if_pos (d1 (by omega)), if_pos (dd (by omega) (by omega)), if_pos (dd (by omega) (by omega)), if_pos (ble_b (by rw [lkL_len]; simp; omega)), w_succ (by omega), w64_id (by omega) (by omega)]
  have : lkL g l (i + 1) = lkL g l i ++ [L0 g i + L0 l i] := by unfold lkL; rw [List.range_succ, List.map_append]; rfl
  rw [this]; rfl) (fun q => by
  show f16l0B N (f16l0 N q) g (lkL g l l.length) l (l.length : Int) (l.length : Int) = _
  unfold f16l0B
  rw [if_neg (by simp)]) N (by omega)
 have hloop : f16l0 N N g [] l (l.length : Int) 0 = some (lkL g l l.length) := hloop
 rw [hloop, andThen_some, hll, hs, andThen_some]
theorem sum_nonneg_le {g : List Int} (h : ∀ x ∈ g, 0 ≤ x) : ∀ x ∈ g, x ≤ g.sum := by
 induction g with
 | nil => simp
 | cons y r ih =>
  have h0 : ∀ r : List Int, (∀ x ∈ r, 0 ≤ x) → 0 ≤ r.sum := fun r => by
   induction r with
   | nil => intro _; simp
   | cons z s ih => intro h; have := h z (by simp); have := ih fun q hq => h q (by simp [hq]); simp only [List.sum_cons]; omega
  intro x hx
  have hr := h0 r fun z hz => h z (by simp [hz])
  have hy := h y (by simp)
  simp only [List.sum_cons]
  rcases List.mem_cons.1 hx with rfl | hx
  ·omega
  ·have := ih (fun z hz => h z (by simp [hz])) x hx
   omega
theorem look_spread (N : Nat) {l g : List Int} {least all : Int} {k : Nat} (hN : 100 ≤ N) (hn : 1 ≤ l.length) (hn2 : l.length ≤ 10) (hb : Bd l) (h0 : 0 ≤ least) (ha : 0 ≤ all ∧ all ≤ 400) (hg : Got l least all k g) (hno : ∀ k', k' < k → NoFit l least all k') :
  f35 N (lkL g l l.length) = some (k : Int) ∧ g.length = l.length ∧ (∀ x ∈ g, 0 ≤ x ∧ x ≤ 400) ∧ (∀ x ∈ lkL g l l.length, 0 ≤ x ∧ x ≤ 500) ∧ (k : Int) ≤ all + 5 ∧ (∀ i j, i < l.length → j < l.length → L0 (lkL g l l.length) i - L0 (lkL g l l.length) j ≤ k) ∧ ∃ i j, i < l.length ∧ j < l.length ∧ L0 (lkL g l l.length) i - L0 (lkL g l l.length) j = k := by
 obtain ⟨low, l1, l2, f⟩ := hg
 have flen := f.len
 have g0 : ∀ i, i < l.length → 0 ≤ L0 g i := fun i hi => by
  have h1 := (f.b i hi).1
  have h2 := hb _ (getD_mem (d := 0) hi)
  have h3 := fr_bd (lo := low) (by omega) h2
  change 0 ≤ fr low (L0 l i) ∧ _ at h3
  omega
 have gmem : ∀ x ∈ g, 0 ≤ x := fun x hx => by
  obtain ⟨i, hi, e⟩ := getD_of_mem 0 hx
  have := g0 i (by omega)
  unfold L0 at this; omega
 have gle : ∀ x ∈ g, x ≤ all := fun x hx => by have := sum_nonneg_le gmem x hx; rw [f.s] at this; exact this
 have glei : ∀ i, i < l.length → L0 g i ≤ all := fun i hi => gle _ (getD_mem (by omega))
 have bi : ∀ i, i < l.length → -5 ≤ L0 l i ∧ L0 l i ≤ 5 := fun i hi => hb _ (getD_mem (d := 0) hi)
 have win : ∀ i, i < l.length → low ≤ L0 g i + L0 l i ∧ L0 g i + L0 l i ≤ low + k := fun i hi => by
  have h1 := f.b i hi
  unfold fr at h1
  split at h1 <;> omega
 have hlen := lkL_len g l l.length
 have idx : ∀ x ∈ lkL g l l.length, ∃ i, i < l.length ∧ x = L0 g i + L0 l i := fun x hx => by
  obtain ⟨i, hi, e⟩ := getD_of_mem 0 hx
  rw [hlen] at hi
  refine ⟨i, hi, ?_⟩
  rw [← lkL_get g l hi]; exact e.symm
 obtain ⟨M, m1, m2, m3⟩ := f53_eq N (lkL g l l.length) hN (by omega) (by omega)
 obtain ⟨D, n1, n2, n3⟩ := f54_eq N (lkL g l l.length) hN (by omega) (by omega)
 obtain ⟨iM, hiM, eM⟩ := idx M m2
 obtain ⟨iD, hiD, eD⟩ := idx D n2
 have hMD := n3 M m2
 have wM := win iM hiM
 have wD := win iD hiD
 have hle : M - D ≤ k := by omega
 have hall : ∀ i, i < l.length → D ≤ L0 g i + L0 l i ∧ L0 g i + L0 l i ≤ M := fun i hi => by
  have hm : L0 g i + L0 l i ∈ lkL g l l.length := by
   rw [← lkL_get g l hi]; exact getD_mem (by omega)
  exact ⟨n3 _ hm, m3 _ hm⟩
 have hk : M - D = k := by
  by_cases e : M - D = k
  ·exact e
  ·exfalso
   have bD := bi iD hiD
   have gD := glei iD hiD
   refine hno (M - D).toNat (by omega) D (by omega) (by omega) ⟨fun i hi => ?_, ?_, ?_⟩
   ·have := hall i hi; have := g0 i hi
    unfold fr; split <;> omega
   ·rw [← f.s]
    refine sum_le _ _ (by simp [flen]) fun i hi => ?_
    have hi : i < l.length := by simpa using hi
    rw [L0_map hi]
    have := hall i hi; have := g0 i hi
    unfold fr; split <;> omega
   ·rw [← f.s]
    refine sum_le _ _ (by simp [flen]) fun i hi => ?_
    have hi : i < l.length := by omega
    rw [L0_map hi]
    have := hall i hi
    omega
 refine ⟨?_, flen, fun x hx => ?_, fun x hx => ?_, ?_, fun i j hi hj => ?_, iM, iD, hiM, hiD, ?_⟩
 ·unfold f35
  rw [if_neg (by rw [hlen, beq_iff_eq]; omega), m1, andThen_some, n1, andThen_some]
  have bM := bi iM hiM; have bD := bi iD hiD
  have q1 := glei iM hiM; have q2 := glei iD hiD
  have q3 := g0 iM hiM; have q4 := g0 iD hiD
  rw [w64_id (by omega) (by omega), hk]
 ·have := gmem x hx; have := gle x hx; omega
 ·obtain ⟨i, hi, e⟩ := idx x hx
  have := win i hi; have := glei i hi; have := bi i hi
  omega
 ·have bM := bi iM hiM; have q1 := glei iM hiM
  omega
 ·rw [lkL_get g l hi, lkL_get g l hj]
  have := hall i hi; have := hall j hj
  omega
 ·rw [lkL_get g l hiM, lkL_get g l hiD]
  omega
end Go.Pl


namespace Go.Pl
open Go.Al Go.Proofs
def nts (cs : List Cn) (ss : List Sg) : List Nt := cs.map Sum.inl ++ ss.map Sum.inr
theorem take_get {α : Type} (l : List α) (d : α) {i : Nat} (hi : i < l.length) : l.take (i + 1) = l.take i ++ [l.getD i d] := by
 rw [List.getD_eq_getElem?_getD, List.getElem?_eq_getElem hi, List.take_succ_eq_append_getElem hi]; rfl
theorem f45l0_eq (N : Nat) (l : List Cn) (a1 : List Span) (a2 : List Pr) (a3 : List Cn) (a4 : List Sg) (b1 : List Span) (b2 : List Pr) (b3 : List Cn) (b4 : List Sg) (b5 : List Nt) (c1 : List Span) (c2 : List Pr) (c3 : List Cn) (c4 : List Sg) (hN : l.length < N) (hl : l.length < 1000) :
  f45l0 N N l (l.length : Int) 0 a1 a2 a3 a4 b1 b2 b3 b4 b5 c1 c2 c3 c4 [] = some (a1, a2, a3, a4, b1, b2, b3, b4, b5, c1, c2, c3, c4, l.map Sum.inl) := by
 obtain ⟨r, h1, h2⟩ := loop_run (fun q (i : Nat) => f45l0 N q l (l.length : Int) (i : Int) a1 a2 a3 a4 b1 b2 b3 b4 b5 c1 c2 c3 c4 ((l.take i).map Sum.inl)) (fun i => i ≤ l.length) (fun i => l.length - i)
  (fun r => r = (a1, a2, a3, a4, b1, b2, b3, b4, b5, c1, c2, c3, c4, l.map Sum.inl)) (fun q i hi => by
   by_cases h : i < l.length
   ·right
    refine ⟨i + 1, h, by omega, ?_⟩
    show f45l0B N (f45l0 N q) l (l.length : Int) (i : Int) a1 a2 a3 a4 b1 b2 b3 b4 b5 c1 c2 c3 c4 ((l.take i).map Sum.inl) = _
    unfold f45l0B
    simp only [show ((i : Int) < (l.length : Int)) by omega, Int.natCast_nonneg, decide_true, Bool.and_true, if_true, Int.toNat_natCast, w_succ (show i < 4611686018427387904 by omega)]
    rw [if_pos (by simp [boundLen]; omega), take_get l ((0 : Int), ((0 : Int), false)) h, List.map_append]
    rfl
   ·left
    have : i = l.length := by omega
    subst this
    refine ⟨_, ?_, rfl⟩
    show f45l0B N (f45l0 N q) l (l.length : Int) (l.length : Int) a1 a2 a3 a4 b1 b2 b3 b4 b5 c1 c2 c3 c4 ((l.take l.length).map Sum.inl) = _
    unfold f45l0B
    rw [if_neg (by simp), List.take_length]) N 0 (Nat.zero_le _) (by simpa using hN)
 rw [h2] at h1
 exact h1
theorem f45l1_eq (N : Nat) (l : List Sg) (b1 : List Span) (b2 : List Pr) (b3 : List Cn) (b4 : List Sg) (b5 : List Nt) (c1 : List Span) (c2 : List Pr) (c3 : List Cn) (c4 : List Sg) (z : List Nt) (hN : l.length < N) (hl : l.length < 1000) (hz : z.length < 1000) :
  f45l1 N N l (l.length : Int) 0 b1 b2 b3 b4 b5 c1 c2 c3 c4 z = some (b1, b2, b3, b4, b5, c1, c2, c3, c4, z ++ l.map Sum.inr) := by
 obtain ⟨r, h1, h2⟩ := loop_run (fun q (i : Nat) => f45l1 N q l (l.length : Int) (i : Int) b1 b2 b3 b4 b5 c1 c2 c3 c4 (z ++ (l.take i).map Sum.inr)) (fun i => i ≤ l.length) (fun i => l.length - i)
  (fun r => r = (b1, b2, b3, b4, b5, c1, c2, c3, c4, z ++ l.map Sum.inr)) (fun q i hi => by
   by_cases h : i < l.length
   ·right
    refine ⟨i + 1, h, by omega, ?_⟩
    show f45l1B N (f45l1 N q) l (l.length : Int) (i : Int) b1 b2 b3 b4 b5 c1 c2 c3 c4 (z ++ (l.take i).map Sum.inr) = _
    unfold f45l1B
    simp only [show ((i : Int) < (l.length : Int)) by omega, Int.natCast_nonneg, decide_true, Bool.and_true, if_true, Int.toNat_natCast, w_succ (show i < 4611686018427387904 by omega)]
    rw [if_pos (by simp [boundLen]; omega), take_get l ((0 : Int), (((0 : Int), (0 : Int)), (0 : Int))) h, List.map_append, ← List.append_assoc]
    rfl
   ·left
    have : i = l.length := by omega
    subst this
    refine ⟨_, ?_, rfl⟩
    show f45l1B N (f45l1 N q) l (l.length : Int) (l.length : Int) b1 b2 b3 b4 b5 c1 c2 c3 c4 (z ++ (l.take l.length).map Sum.inr) = _
    unfold f45l1B
    rw [if_neg (by simp), List.take_length]) N 0 (Nat.zero_le _) (by simpa using hN)
 rw [h2] at h1
 simpa using h1
theorem f45_eq (N : Nat) (hs : List Span) (ps : List Pr) (cs : List Cn) (ss : List Sg) (hN : 100 ≤ N) (h3 : cs.length < 100) (h4 : ss.length < 100) : f45 N hs ps cs ss = some (hs, ps, cs, ss, nts cs ss) := by
 unfold f45
 rw [f45l0_eq N cs _ _ _ _ _ _ _ _ _ _ _ _ _ (by omega) (by omega), andThen_some]
 simp only
 rw [f45l1_eq N ss _ _ _ _ _ _ _ _ _ _ (by omega) (by omega) (by simp; omega), andThen_some]
 rfl
theorem nt_mem {ns : List Nt} {i : Nat} (hi : i < ns.length) : nt ns i ∈ ns := getD_mem hi
theorem nts_ok {hs : List Span} {ps : List Pr} {cs : List Cn} {ss : List Sg} (v : Valid hs ps cs ss) : ∀ x ∈ nts cs ss, okNt hs.length x := fun x hx => by
 rcases List.mem_append.1 hx with h | h
 ·obtain ⟨c, hc, rfl⟩ := List.mem_map.1 h; exact v.c c hc
 ·obtain ⟨c, hc, rfl⟩ := List.mem_map.1 h; exact v.s c hc
theorem nts_len (cs : List Cn) (ss : List Sg) : (nts cs ss).length = cs.length + ss.length := by simp [nts]
abbrev TruthO (hs : List Span) (ps : List Pr) (cs : List Cn) (ss : List Sg) : (Nat → Int) → Prop := Truth hs ps fun x => x ∈ nts cs ss
theorem Truth.congr {hs : List Span} {ps : List Pr} {K K' : Nt → Prop} (h : ∀ x, K x ↔ K' x) : Truth hs ps K = Truth hs ps K' := by
 have : K = K' := funext fun x => propext (h x)
 rw [this]
theorem f22_bad (N : Nat) (hs : List Span) (ps : List Pr) (cs : List Cn) (ss : List Sg) (hN : 100 ≤ N) (h1 : hs.length < 100) (h2 : ps.length < 100) (h3 : cs.length < 100) (h4 : ss.length < 100) (hc : chk hs ps cs ss ≠ 0) :
  f22 N hs ps cs ss = some ([], [], [], [], [], zero6, chk hs ps cs ss) := by
 unfold f22
 rw [f44_eq N hs ps cs ss hN h1 h2 h3 h4, andThen_some, if_pos (by simpa using hc)]
 rfl
theorem f22_eq (N : Nat) (hs : List Span) (ps : List Pr) (cs : List Cn) (ss : List Sg) (hN : 1000 ≤ N) (v : Valid hs ps cs ss) :
  ∃ m ok, f22 N hs ps cs ss = some (hs, ps, cs, ss, nts cs ss, m, if ok = true then 0 else 9) ∧ (ok = true ↔ ∃ t, TruthO hs ps cs ss t) ∧ (ok = true → Tight hs.length m (TruthO hs ps cs ss)) := by
 have n5 := v.n5
 have p8 := v.p8
 have c6 := v.c6
 have s4 := v.s4
 obtain ⟨m, ok, e1, e2, e3⟩ := gaps_spec N 0 hs ps cs ss (nts cs ss) [] hN v.n1 v.n5 v.h v.p (by omega) (nts_ok v) (by rw [nts_len]; omega) (fun x hx => by cases hx) (Nat.zero_le _)
 rw [Truth.congr (K' := fun x => x ∈ nts cs ss) fun x => by
  constructor
  ·rintro (⟨i, hi, _, rfl⟩ | h)
   ·exact nt_mem hi
   ·cases h
  ·intro h
   obtain ⟨i, hi, e⟩ := getD_of_mem (Sum.inl ((0 : Int), ((0 : Int), false))) h
   exact .inl ⟨i, hi, bitOff_zero i, e.symm⟩] at e2 e3
 refine ⟨m, ok, ?_, e2, e3⟩
 unfold f22
 rw [f44_eq N hs ps cs ss (by omega) (by omega) (by omega) (by omega) (by omega), andThen_some, chk_valid.2 v, if_neg (by decide), f45_eq N hs ps cs ss (by omega) (by omega) (by omega), andThen_some]
 simp only
 rw [e1, andThen_some]
 cases ok <;> rfl
def cz (n p : Nat) (v : Int) : Int := if p < n then v else 0
def hts (n : Nat) (m : List Int) : List Int := [cz n 0 (-ent m 0 5), cz n 0 (ent m 5 0), cz n 1 (-ent m 1 5), cz n 1 (ent m 5 1), cz n 2 (-ent m 2 5), cz n 2 (ent m 5 2), cz n 3 (-ent m 3 5), cz n 3 (ent m 5 3), cz n 4 (-ent m 4 5), cz n 4 (ent m 5 4)]
theorem hts_succ {m : List Int} {i : Nat} (hi : i < 5) : setRow (hts i m) (0 + i * 2) [-ent m i 5, ent m 5 i] = hts (i + 1) m := by
 have : i = 0 ∨ i = 1 ∨ i = 2 ∨ i = 3 ∨ i = 4 := by omega
 rcases this with rfl | rfl | rfl | rfl | rfl <;> rfl
theorem f27_eq (N : Nat) (hs : List Span) (ps : List Pr) (cs : List Cn) (ss : List Sg) (ns : List Nt) (m : List Int) (hN : 100 ≤ N) (hn : hs.length ≤ 5) (hb : ∀ p, p < hs.length → -10000 ≤ ent m p 5 ∧ ent m p 5 ≤ 10000) :
  f27 N hs ps cs ss ns m = some (hts hs.length m) := by
 obtain ⟨r, h1, h2⟩ := loop_run (fun q (i : Nat) => f27l0 N q (hs.length : Int) (i : Int) m (hts i m)) (fun i => i ≤ hs.length) (fun i => hs.length - i) (fun r => r = hts hs.length m) (fun q i hi => by
   by_cases h : i < hs.length
   ·right
    refine ⟨i + 1, h, by omega, ?_⟩
    show f27l0B N (f27l0 N q) (hs.length : Int) (i : Int) m (hts i m) = _
    unfold f27l0B
    have hb := hb i h
    have e : Go.IntKind.wrap .i64 (0 - List.getD m (0 + i * 6 + 5) 0) = -ent m i 5 := by
     have e2 : List.getD m (0 + i * 6 + 5) 0 = ent m i 5 := by unfold ent; rw [Nat.zero_add]
     rw [e2, w64_id (by omega) (by omega)]; omega
    have e3 : List.getD m (30 + i * 1) 0 = ent m 5 i := by unfold ent; rw [Nat.mul_one]
    simp only [show ((i : Int) < (hs.length : Int)) by omega, show ((i : Int) < 6) by omega, show ((i : Int) < 5) by omega, Int.natCast_nonneg, decide_true, Bool.and_true, if_true, Int.toNat_natCast, w_succ (show i < 4611686018427387904 by omega)]
    rw [e, e3, hts_succ (by omega)]
    rfl
   ·left
    have : i = hs.length := by omega
    subst this
    refine ⟨_, ?_, rfl⟩
    show f27l0B N (f27l0 N q) (hs.length : Int) (hs.length : Int) m (hts hs.length m) = _
    unfold f27l0B
    rw [if_neg (by simp)]) N 0 (Nat.zero_le _) (by simp; omega)
 rw [h2] at h1
 unfold f27
 have h1 : f27l0 N N (hs.length : Int) 0 m [0, 0, 0, 0, 0, 0, 0, 0, 0, 0] = some (hts hs.length m) := h1
 rw [h1]; rfl
def spn (n : Nat) (m : List Int) : List Span := (List.range n).map fun p => (-ent m p 5, ent m 5 p)
@[simp] theorem spn_len (n : Nat) (m : List Int) : (spn n m).length = n := by simp [spn]
theorem sp_spn {n p : Nat} {m : List Int} (hp : p < n) : sp (spn n m) p = (-ent m p 5, ent m 5 p) := by
 unfold sp spn
 rw [List.getD_eq_getElem?_getD]
 simp [hp]
theorem cut_hts {n : Nat} {m : List Int} (h1 : 1 ≤ n) (h5 : n ≤ 5) :
  cut [((hts n m).getD 0 0, (hts n m).getD 1 0), ((hts n m).getD 2 0, (hts n m).getD 3 0), ((hts n m).getD 4 0, (hts n m).getD 5 0), ((hts n m).getD 6 0, (hts n m).getD 7 0), ((hts n m).getD 8 0, (hts n m).getD 9 0)] 0 n = spn n m := by
 have : n = 1 ∨ n = 2 ∨ n = 3 ∨ n = 4 ∨ n = 5 := by omega
 rcases this with rfl | rfl | rfl | rfl | rfl <;> rfl
theorem tight_bd {n : Nat} {m : List Int} {hs : List Span} {ps : List Pr} {K : Nt → Prop} (h : Tight n m (Truth hs ps K)) (hn : hs.length = n) (hn5 : n ≤ 5) (hok : ∀ s ∈ hs, okSp s) : ∀ a b, (a < n ∨ a = 5) → (b < n ∨ b = 5) → -1000 ≤ ent m a b ∧ ent m a b ≤ 1000 := fun a b ha hb => by
 obtain ⟨t, ht, e⟩ := h.att a b ha hb
 have hz : ∀ x, (x < n ∨ x = 5) → 0 ≤ zt t x ∧ zt t x ≤ 1000 := fun x hx => by
  unfold zt
  by_cases h5 : x = 5
  ·rw [if_pos h5]; omega
  ·rw [if_neg h5]
   have h1 := ht.1 x (by omega)
   have h2 : okSp (sp hs x) := hok _ (getD_mem (by omega))
   obtain ⟨o1, o2, o3⟩ := h2
   omega
 have := hz a ha
 have := hz b hb
 omega
theorem f17_bad (N : Nat) (hs : List Span) (ps : List Pr) (cs : List Cn) (ss : List Sg) (hN : 100 ≤ N) (h1 : hs.length < 100) (h2 : ps.length < 100) (h3 : cs.length < 100) (h4 : ss.length < 100) (hc : chk hs ps cs ss ≠ 0) :
  f17 N hs ps cs ss = some ([], chk hs ps cs ss) := by
 unfold f17
 rw [f22_bad N hs ps cs ss hN h1 h2 h3 h4 hc, andThen_some]
 simp only
 rw [if_pos (by simpa using hc)]
theorem f17_no (N : Nat) (hs : List Span) (ps : List Pr) (cs : List Cn) (ss : List Sg) (hN : 1000 ≤ N) (v : Valid hs ps cs ss) (ht : ¬ ∃ t, TruthO hs ps cs ss t) : f17 N hs ps cs ss = some ([], 9) := by
 obtain ⟨m, ok, e1, e2, e3⟩ := f22_eq N hs ps cs ss hN v
 have : ok = false := by
  cases ok with
  | false => rfl
  | true => exact absurd (e2.1 rfl) ht
 subst this
 unfold f17
 rw [e1, andThen_some]
 rfl
theorem f17_yes (N : Nat) (hs : List Span) (ps : List Pr) (cs : List Cn) (ss : List Sg) (hN : 1000 ≤ N) (v : Valid hs ps cs ss) (ht : ∃ t, TruthO hs ps cs ss t) :
  ∃ m, f22 N hs ps cs ss = some (hs, ps, cs, ss, nts cs ss, m, 0) ∧ Tight hs.length m (TruthO hs ps cs ss) ∧ f27 N hs ps cs ss (nts cs ss) m = some (hts hs.length m) ∧ f17 N hs ps cs ss = some (spn hs.length m, 0) := by
 obtain ⟨m, ok, e1, e2, e3⟩ := f22_eq N hs ps cs ss hN v
 have := e2.2 ht
 subst this
 have ht := e3 rfl
 have n1 := v.n1
 have n5 := v.n5
 have e4 := f27_eq N hs ps cs ss (nts cs ss) m (by omega) n5 fun p hp => by have := tight_bd ht rfl n5 v.h p 5 (.inl hp) (.inr rfl); omega
 refine ⟨m, e1, ht, e4, ?_⟩
 unfold f17
 rw [e1, andThen_some]
 simp only
 rw [if_neg (by decide), e4, andThen_some]
 simp only [Int.natCast_nonneg, show ((hs.length : Int) ≤ 5) by omega, Int.le_refl, decide_true, Bool.and_true, if_true, Int.toNat_natCast, show Int.toNat (0 : Int) = 0 from rfl]
 rw [cut_hts n1 n5]
 unfold f36
 rw [if_neg (by simp), if_pos (by simp [boundLen]; omega), andThen_some]
 rfl
end Go.Pl


namespace Go.Pl
open Go.Al Go.Proofs
theorem known_ok : f14 50000 = some true := by kernel_rfl
end Go.Pl


namespace Go.Proofs.Ytgnkjceophhkpaa
open Go.ChangeShapes Go.WideShapes Go.ChangeAt Go.RowKit Go.Al
theorem own : ownKnob Try.prog.godebug = none := by kernel_rfl
theorem laidOut : laidOutB Try.prog = true := by kernel_rfl
abbrev Q0 : Ty := .pair (.int .u8) (.int .u8)
abbrev Q1 : Ty := .pair (.int .u8) Q0
abbrev Q2 : Ty := .pair (.int .u8) Q1
abbrev Q3 : Ty := .pair (.int .u8) Q2
abbrev Q4 : Ty := .pair (.int .u8) Q3
abbrev Q5 : Ty := .list Q0
abbrev Q6 : Ty := .pair Q5 Q1
abbrev Q7 : Ty := .pair Q4 Q6
end Go.Proofs.Ytgnkjceophhkpaa


namespace Go.Proofs.Ytgnkjceophhkpaa
open Go.ChangeShapes Go.WideShapes Go.ChangeAt Go.RowKit Go.Al
def Pure4 : Prop := ∀ (x0 : den Q7) (x1 : den (.list (.int .u8))) (x2 : Int), GoodD Q7 x0 → GoodD (.list (.int .u8)) x1 → (Lit.int .u8 x2).wf = true → ∃ N, f4 N x0.1.1 x0.1.2.1 x0.1.2.2.1 x0.1.2.2.2.1 x0.1.2.2.2.2.1 x0.1.2.2.2.2.2 x0.2.1 x0.2.2.1 x0.2.2.2.1 x0.2.2.2.2 x1 x2 = some true
set_option maxRecDepth 100000 in
theorem lifted4 (pure : Pure4) (os : Os) (started : os.Started) (H : Type) (enc : TypeId × Value → H) :
  ReturnsInHanded {} Try.checked os 4 .any (Rows.topLooksHeatsSpec.pre6 enc Try.prog Try.f4 Rows.topLooksHeatsRow.domain false) (Rows.topLooksHeatsSpec.post enc Try.prog Try.f4 false true false false) := by
 refine returnsInHanded_of_change (C := Try.checked) own started (by kernel_rfl) Try.func4
  (ChangeSpec.witness6 (enc := enc) (C := Try.checked) false ⟨#[], #[.agg #[.int .u8 0, .int .u8 0, .int .u8 0, .int .u8 0, .int .u8 0, .int .u8 0, .slice none 0 0, .int .u8 0, .int .u8 0, .int .u8 0], .slice none 0 0, .int .u8 0], []⟩ 8 (by kernel_rfl) (by kernel_rfl) (by kernel_rfl) (by kernel_rfl)) ?_
 intro W base args ds gs before hval0 hW hcnd _
 have hval : ∀ (j : Nat) t v, Try.f4.params[j]? = some t → args[j]? = some v → Value.okWide Try.prog W .any base t v := hval0
 have hW' := hW
 obtain ⟨p, q, hA0, hV, rfl, hfz, hnd⟩ := hW
 have hA : DataW.TrodAll enc Try.prog W 0 (fun _ => true) true Try.f4.params.toList args.toList ds p := hA0
 rw [show Try.f4.params.toList = [26, 27, 5] by kernel_rfl] at hA
 obtain ⟨v0, vs0, d0, ds0, p0, q0, hargs, rfl, rfl, h0, r0⟩ := trodAll_cons hA
 obtain ⟨v1, vs1, d1, ds1, p1, q1, rfl, rfl, rfl, h1, r1⟩ := trodAll_cons r0
 obtain ⟨v2, vs2, d2, ds2, p2, q2, rfl, rfl, rfl, h2, r2⟩ := trodAll_cons r1
 obtain ⟨rfl, rfl, rfl⟩ := trodAll_nil r2
 obtain rfl : args = #[v0, v1, v2] := by cases args; simp_all
 obtain ⟨rfl, rfl⟩ := trodVars_none hV
 obtain ⟨x0, g0, c0⟩ := arg_agg (ω := fun _ => 0) (γ := fun _ => 0) (κ := fun _ => 0) (by kernel_rfl) 20 Q7 (by kernel_rfl) (hval 0 26 v0 (by kernel_rfl) rfl) h0
 obtain ⟨x1, g1, c1⟩ := arg_slice (ω := fun _ => 0) (γ := fun _ => 0) (κ := fun _ => 0) (by kernel_rfl) 20 (.int .u8) (by kernel_rfl) (hval 1 27 v1 (by kernel_rfl) rfl) h1
 obtain ⟨x2, g2, c2⟩ := arg_int (ω := fun _ => 0) (γ := fun _ => 0) (κ := fun _ => 0) (k := .u8) (by kernel_rfl) (hval 2 5 v2 (by kernel_rfl) rfl) h2
 obtain ⟨N, hN⟩ := pure x0 x1 x2 g0 g1 g2
 have key := law_calls (W := W) (f4ok N) (by kernel_rfl) (ins := [.agg (cellsT Q7 x0), .one (.sl (.int .u8) x1 none false), .one (.int .u8 x2)]) (cargs := [v0, v1, v2]) (mres := [])
  (show andThen (f4 N x0.1.1 x0.1.2.1 x0.1.2.2.1 x0.1.2.2.2.1 x0.1.2.2.2.2.1 x0.1.2.2.2.2.2 x0.2.1 x0.2.2.1 x0.2.2.2.1 x0.2.2.2.2 x1 x2) (fun y => some (AV.a (.one (.bool y)), ([] : Mem))) = _ by rw [hN]; rfl) (.cons c0 (.cons c1 (.cons c2 .nil)))
 refine key.mono fun e W' ⟨he, bel⟩ => ?_
 subst he
 exact ⟨_, rfl, _, _, _, [], _, [], hW', trodAll_mk1 (shut_bool (by kernel_rfl) _), (trodAll_cons_mk (bel.trod laidOut (by kernel_rfl) (of_decide_eq_true (by kernel_rfl)) h0) (trodAll_cons_mk (bel.trod laidOut (by kernel_rfl) (of_decide_eq_true (by kernel_rfl)) h1) (trodAll_cons_mk (bel.trod laidOut (by kernel_rfl) (of_decide_eq_true (by kernel_rfl)) h2) trodAll_mk0))), rfl, bel.frame _, fun h => by cases h⟩
theorem row4 (pure : Pure4) : Rows.TopLooksHeatsSaid :=
 OpenClaim.holds_of_wide 4 Try.f4 rfl rfl rfl rfl rfl rfl rfl ⟨rfl, rfl, rfl, rfl, rfl⟩ rfl rfl rfl rfl rfl (by kernel_rfl) Try.func4 (by kernel_rfl)
  (of_decide_eq_true (by kernel_rfl)) (by unfold Func.isWrapper; first | (rw [if_pos (by decide +kernel)]; kernel_rfl) | (rw [if_neg (by decide +kernel)]; exact ⟨rfl, rfl⟩))
  (fun os started H enc _ => lifted4 pure os started H enc)
end Go.Proofs.Ytgnkjceophhkpaa


namespace Go.Pl
open Go.Al Go.Proofs
def hsL (l : List Int) (i : Nat) : List Span := (l.take i).map fun x => (300 + x, 300 + x)
def rowP (i : Nat) (s : Int) (j : Nat) : List Pr := (List.range j).map fun (k : Nat) => ((i : Int), ((k : Int), s))
def psL (s : Int) : Nat → List Pr
 | 0 => [] | i + 1 => psL s i ++ rowP i s i
theorem hsL_succ {l : List Int} {i : Nat} (h : i < l.length) : hsL l (i + 1) = hsL l i ++ [(300 + L0 l i, 300 + L0 l i)] := by
 unfold hsL L0; rw [take_getL l 0 h, List.map_append]; rfl
theorem hsL_len {l : List Int} {i : Nat} (h : i ≤ l.length) : (hsL l i).length = i := by unfold hsL; simp; omega
theorem rowP_len (i : Nat) (s : Int) (j : Nat) : (rowP i s j).length = j := by unfold rowP; simp
theorem psL_len (s : Int) : ∀ i, i ≤ 4 → (psL s i).length ≤ 6 ∧ (psL s i).length ≤ 2 * i
 | 0, _ => by simp [psL]
 | 1, _ => by simp [psL, rowP]
 | 2, _ => by simp [psL, rowP]
 | 3, _ => by simp [psL, rowP]
 | 4, _ => by simp [psL, rowP]
 | n + 5, h => by omega
theorem psL_mem {s : Int} {q : Pr} : ∀ {n : Nat}, q ∈ psL s n ↔ ∃ i k : Nat, k < i ∧ i < n ∧ q = ((i : Int), ((k : Int), s))
 | 0 => by simp [psL]
 | n + 1 => by
  unfold psL
  rw [List.mem_append, psL_mem]
  constructor
  ·rintro (⟨i, k, h1, h2, h3⟩ | h)
   ·exact ⟨i, k, h1, by omega, h3⟩
   ·unfold rowP at h
    obtain ⟨k, hk, e⟩ := List.mem_map.1 h
    exact ⟨n, k, List.mem_range.1 hk, by omega, e.symm⟩
  ·rintro ⟨i, k, h1, h2, h3⟩
   by_cases e : i = n
   ·subst e
    right
    unfold rowP
    exact List.mem_map.2 ⟨k, List.mem_range.2 h1, h3.symm⟩
   ·exact .inl ⟨i, k, h1, by omega, h3⟩
theorem f4l1_eq (N : Nat) (s : Int) (l : List Int) (i : Nat) (h1 : List Span) (c1 : List Cn) (s1 : List Sg) (h2 : List Span) (c2 : List Cn) (s2 : List Sg) (p1 p2 : List Pr) (hN : 100 ≤ N) (hi : i ≤ 4) (hs : 0 ≤ s ∧ s ≤ 500) (hp1 : p1.length ≤ 50) (hp2 : p2.length ≤ 50) :
  f4l1 N N s l (i : Int) 0 h1 p1 c1 s1 h2 p2 c2 s2 = some (s, l, (i : Int), h1, p1 ++ rowP i s i, c1, s1, h2, p2 ++ rowP i (if s - 1 > 0 then s - 1 else 0) i, c2, s2) := by
 have hsucc : ∀ (s : Int) (j : Nat), rowP i s (j + 1) = rowP i s j ++ [((i : Int), ((j : Int), s))] := fun s j => by unfold rowP; rw [List.range_succ, List.map_append]; rfl
 have hw : Go.IntKind.wrap .i64 (s - 1) = s - 1 := w64_id (by omega) (by omega)
 have h := acc_run (fun q j (a : List Pr × List Pr) => f4l1 N q s l (i : Int) (j : Int) h1 a.1 c1 s1 h2 a.2 c2 s2) i (fun j => (p1 ++ rowP i s j, p2 ++ rowP i (if s - 1 > 0 then s - 1 else 0) j)) (s, l, (i : Int), h1, p1 ++ rowP i s i, c1, s1, h2, p2 ++ rowP i (if s - 1 > 0 then s - 1 else 0) i, c2, s2) (fun q j hj => by
  show f4l1B N (f4l1 N q) s l (i : Int) (j : Int) h1 (p1 ++ rowP i s j) c1 s1 h2 (p2 ++ rowP i (if s - 1 > 0 then s - 1 else 0) j) c2 s2 = _
  unfold f4l1B
  rw [hw, if_pos (d1 (by omega)), if_pos (ble_b (by simp [rowP_len]; omega)), if_pos (ble_b (by simp [rowP_len]; omega)), w_succ (by omega), hsucc, hsucc, ← List.append_assoc, ← List.append_assoc]) (fun q => by
  show f4l1B N (f4l1 N q) s l (i : Int) (i : Int) h1 (p1 ++ rowP i s i) c1 s1 h2 (p2 ++ rowP i (if s - 1 > 0 then s - 1 else 0) i) c2 s2 = _
  unfold f4l1B
  rw [if_neg (by simp)]) N (by omega)
 have e0 : ∀ s, rowP i s 0 = [] := fun s => rfl
 simp only [e0, List.append_nil] at h
 exact h
theorem f4l0_eq (N : Nat) (s : Int) (l : List Int) (hN : 100 ≤ N) (hl : l.length ≤ 4) (hs : 0 ≤ s ∧ s ≤ 500) (hb : ∀ x ∈ l, 0 ≤ x ∧ x ≤ 500) :
  f4l0 N N s l 0 [] [] [] [] [] [] [] [] = some (.inr (s, l, hsL l l.length, psL s l.length, [], [], [], psL (if s - 1 > 0 then s - 1 else 0) l.length, [], [])) := by
 have h := acc_run (fun q i (a : List Span × List Pr × List Pr) => f4l0 N q s l (i : Int) a.1 a.2.1 [] [] [] a.2.2 [] []) l.length (fun i => (hsL l i, psL s i, psL (if s - 1 > 0 then s - 1 else 0) i)) (.inr (s, l, hsL l l.length, psL s l.length, [], [], [], psL (if s - 1 > 0 then s - 1 else 0) l.length, [], [])) (fun q i hi => by
  show f4l0B N (f4l0 N q) s l (i : Int) (hsL l i) (psL s i) [] [] [] (psL (if s - 1 > 0 then s - 1 else 0) i) [] [] = _
  unfold f4l0B
  have hx := hb _ (getD_mem (d := 0) hi)
  change 0 ≤ L0 l i ∧ L0 l i ≤ 500 at hx
  have hg : l.getD i 0 = L0 l i := rfl
  have q1 := psL_len s i (by omega)
  have q2 := psL_len (if s - 1 > 0 then s - 1 else 0) i (by omega)
  simp only [Int.toNat_natCast, hg]
  rw [if_pos (d1 (by omega)), if_pos (dd (by omega) (by omega)), if_pos (by rw [decide_eq_false (by omega)]), if_pos (dd (by omega) (by omega)), if_neg (dn (by omega)), if_pos (dd (by omega) (by omega)), if_pos (dd (by omega) (by omega)), w64_id (z := 300 + L0 l i) (by omega) (by omega), f13, andThen_some]
  simp only
  rw [if_pos (ble_b (by rw [hsL_len (by omega)]; simp; omega)), f4l1_eq N s l i _ _ _ _ _ _ _ _ hN (by omega) hs (by omega) (by omega), andThen_some]
  simp only
  rw [w_succ (by omega), hsL_succ hi]
  rfl) (fun q => by
  show f4l0B N (f4l0 N q) s l (l.length : Int) (hsL l l.length) (psL s l.length) [] [] [] (psL (if s - 1 > 0 then s - 1 else 0) l.length) [] [] = _
  unfold f4l0B
  rw [if_neg (by simp)]) N (by omega)
 exact h
theorem hs_get {l : List Int} {p : Nat} (h : p < l.length) : sp (hsL l l.length) p = (300 + L0 l p, 300 + L0 l p) := by
 unfold sp hsL L0; rw [List.take_length]; simp [List.getD_eq_getElem?_getD, h]
theorem look_valid {l : List Int} {s : Int} (h1 : 1 ≤ l.length) (hl : l.length ≤ 4) (hs : 0 ≤ s ∧ s ≤ 500) (hb : ∀ x ∈ l, 0 ≤ x ∧ x ≤ 500) : Valid (hsL l l.length) (psL s l.length) [] [] := by
 have e := hsL_len (Nat.le_refl l.length)
 refine ⟨by omega, by omega, fun x hx => ?_, by have := psL_len s l.length hl; omega, by simp, by simp, fun q hq => ?_, by simp, by simp⟩
 ·unfold hsL at hx
  obtain ⟨y, hy, rfl⟩ := List.mem_map.1 hx
  have := hb y (List.mem_of_mem_take hy)
  unfold okSp; simp only; omega
 ·obtain ⟨i, k, a, b, rfl⟩ := psL_mem.1 hq
  unfold okPr; simp only; omega
theorem look_truth {l : List Int} {s : Int} : (∃ t, TruthO (hsL l l.length) (psL s l.length) [] [] t) ↔ ∀ i k : Nat, k < i → i < l.length → L0 l i - L0 l k ≤ s ∧ L0 l k - L0 l i ≤ s := by
 have e := hsL_len (Nat.le_refl l.length)
 constructor
 ·rintro ⟨t, t1, t2, _⟩ i k hk hi
  have a := t1 i (by omega)
  have b := t1 k (by omega)
  rw [hs_get hi] at a
  rw [hs_get (by omega)] at b
  have c := t2 _ (psL_mem.2 ⟨i, k, hk, hi, rfl⟩)
  simp only [Int.toNat_natCast] at c
  omega
 ·intro h
  refine ⟨fun p => 300 + L0 l p, fun p hp => ?_, fun q hq => ?_, fun x hx => by simp [nts] at hx⟩
  ·rw [e] at hp
   rw [hs_get hp]; exact ⟨Int.le_refl _, Int.le_refl _⟩
  ·obtain ⟨i, k, a, b, rfl⟩ := psL_mem.1 hq
   have := h i k a b
   simp only [Int.toNat_natCast]
   omega
theorem law4 (a0 a1 a2 a3 a4 a5 : Int) (l : List (Int × Int)) (b0 b1 b2 : Int) (x : List Int) (y : Int) (h0 : byte a0) (h1 : byte a1) (h2 : byte a2) (h3 : byte a3) (h4 : byte a4) (h5 : byte a5) (hl : ∀ x ∈ l, byte x.1 ∧ byte x.2) (hb0 : byte b0) (hb1 : byte b1) (hb2 : byte b2)
  (hx : ∀ y ∈ x, byte y) (hy : byte y) : f4 50000 a0 a1 a2 a3 a4 a5 l b0 b1 b2 x y = some true := by
 obtain ⟨ws, ps, rim, least, blank, e1, e6, ew, ep, r0, r1, l0, l1, bl0, bl1⟩ := f5_ok a0 a1 a2 a3 a4 a5 l b0 b1 b2 h0 h1 h2 h3 h4 h5 hl hb0 hb1 hb2
 obtain ⟨w, e2, w1, w5, wm⟩ := f6_ok 50000 x 5 (by omega) (by omega) (by omega) hx
 have hpl := ep.len
 have lv : LV ws ps rim least blank := ⟨by omega, by omega, fun x hx => by have := ew x hx; omega, by omega, by omega, by omega, by omega, fun q hq => by have := ep.p q hq; omega, ep.nt⟩
 have wok : WOk ws.length w := ⟨w1, by omega, fun y hy => by have := wm y hy; omega⟩
 have k1 := hy
 unfold byte at k1
 have hn1 := (needN_bd lv wok).1
 have hn2 : needN ws rim least (mmap ps) w ≤ 200 := by
  have q1 := wsum_bd (ws := ws) (fun x hx => by have := ew x hx; omega) wok.m (Nat.le_refl w.length)
  have q2 := gsum_bd lv.l (loose_mem lv.mok (w := w) (i := w.length - 1)) (i := w.length - 1) (by rw [loose_len]; omega)
  unfold needN
  have key : ∀ i, i ≤ w.length → wsum ws w i ≤ 18 * (i : Int) := fun i => by
   induction i with
   | zero => intro _; simp [wsum]
   | succ i ih =>
    intro hi
    rw [wsum_succ (by omega)]
    have h1 := wok.m _ (getD_mem (d := 0) (show i < w.length by omega))
    have h2 := ew _ (getD_mem (d := 0) (show (w.getD i 0).toNat < ws.length by omega))
    have := ih (by omega)
    omega
  have := key _ (Nat.le_refl _)
  omega
 have hY : Int.tmod (Go.IntKind.wrap .i64 y) 100 = y % 100 := by rw [w_byte hy, tmod_pos (by omega)]
 have hW : Go.IntKind.wrap .i64 (needN ws rim least (mmap ps) w + y % 100) = needN ws rim least (mmap ps) w + y % 100 := w64_id (by omega) (by omega)
 have hL1 : Go.IntKind.wrap .i64 ((w.length : Int) - 1) = (w.length : Int) - 1 := w64_id (by omega) (by omega)
 unfold f4
 have e2 : f6 50000 x 5 = some w := e2
 rw [e1, andThen_some]
 simp only
 rw [e2, andThen_some, f7_eq _ _ _ _ _ _ (by omega) (by omega), andThen_some]
 simp only
 rw [f8_eq _ w (by omega), andThen_some, f9_ok _ (by omega) lv wok, andThen_some]
 simp only
 rw [if_pos (by decide), if_pos (by rw [decide_eq_false (by omega)]), if_neg (dn (by omega)), andThen_some]
 simp only
 rw [andThen_some, if_pos (by decide), hY, hW, hL1]
 by_cases hone : w.length = 1
 ·rw [f15_one _ (by omega) lv wok hone (by omega), andThen_some]
  simp only
  have hz : lkL [] (loose (mmap ps) w (w.length - 1)) (w.length - 1) = [] := by rw [hone]; rfl
  have e35 : f35 50000 [] = some 0 := by unfold f35; rw [if_pos (by decide)]
  have e16 := f16_eq 50000 (g := []) (by omega) lv wok (by simp [hone]) (by simp) 0 (by rw [hz]; exact e35)
  rw [hz] at e16
  rw [if_pos (by decide), if_pos (by simp [hone]), if_pos (by decide), if_neg (by decide), andThen_some]
  simp only
  rw [andThen_some, f8_eq _ [] (by simp), andThen_some, e16, andThen_some]
  simp only
  rw [if_pos (by decide), if_pos (by decide), if_neg (by decide), if_pos (by decide), if_pos (by decide), known_ok]
  rfl
 ·have hll := loose_len (mmap ps) w (w.length - 1)
  obtain ⟨g, k, all, e15, hk, ha0, ha1, hla, hgot, hno⟩ := f15_ok 50000 (n := needN ws rim least (mmap ps) w + y % 100) (by omega) lv wok (by omega) (by omega)
  have hsp := look_spread 50000 (l := loose (mmap ps) w (w.length - 1)) (by omega) (by omega) (by omega) (loose_mem lv.mok) lv.l.1 ⟨ha0, by omega⟩ hgot hno
  rw [hll] at hsp
  obtain ⟨s1, s2, s3, s4, s5, s6, s7⟩ := hsp
  have e16 := f16_eq 50000 (by omega) lv wok s2 s3 _ s1
  have hkl := lkL_len g (loose (mmap ps) w (w.length - 1)) (w.length - 1)
  rw [e15, andThen_some]
  simp only
  rw [if_pos (by decide), if_pos (by rw [s2]; simp; omega), if_pos (by rw [decide_eq_false (by omega)]), if_neg (dn (by omega)), andThen_some]
  simp only
  rw [andThen_some, f8_eq _ g (by omega), andThen_some, e16, andThen_some]
  simp only
  generalize hlk : lkL g (loose (mmap ps) w (w.length - 1)) (w.length - 1) = lk0 at *
  rw [if_pos (by decide), if_pos (by simp), if_neg (by rw [hkl, s2]; simp), if_neg (by rw [hkl]; simp; omega), f4l0_eq 50000 k lk0 (by omega) (by omega) (by omega) s4, andThen_some, either_inr]
  simp only
  have hhl := hsL_len (Nat.le_refl lk0.length)
  rw [if_pos (ble_b (by simp [hhl]; omega)), List.nil_append]
  have hs1 : 0 ≤ (if (k : Int) - 1 > 0 then (k : Int) - 1 else 0) ∧ (if (k : Int) - 1 > 0 then (k : Int) - 1 else 0) ≤ 500 := by split <;> omega
  have v1 := look_valid (l := lk0) (s := (k : Int)) (by omega) (by omega) (by omega) s4
  have v2 := look_valid (l := lk0) (s := (if (k : Int) - 1 > 0 then (k : Int) - 1 else 0)) (by omega) (by omega) hs1 s4
  obtain ⟨m, _, _, _, e17⟩ := f17_yes 50000 _ _ _ _ (by omega) v1 (look_truth.2 fun i j h1 h2 => ⟨s6 i j (by omega) (by omega), s6 j i (by omega) (by omega)⟩)
  have hsl : (spn (hsL lk0 lk0.length).length m).length = lk0.length := by unfold spn; simp [hhl]
  rw [e17, andThen_some]
  by_cases hz : k = 0
  ·subst hz
   obtain ⟨m2, _, _, _, e17b⟩ := f17_yes 50000 _ _ _ _ (by omega) v2 (look_truth.2 fun i j h1 h2 => ⟨s6 i j (by omega) (by omega), s6 j i (by omega) (by omega)⟩)
   rw [e17b, andThen_some]
   simp only
   rw [if_pos (by decide), if_pos (by rw [hsl]; simp), if_pos (by decide), if_neg (by decide), known_ok]
   rfl
  ·obtain ⟨i, j, hi, hj, hij⟩ := s7
   have e17b := f17_no 50000 _ _ _ _ (by omega) v2 (fun ht => by
    have ht := look_truth.1 ht
    have hkk : (if (k : Int) - 1 > 0 then (k : Int) - 1 else 0) < k := by split <;> omega
    rcases Nat.lt_trichotomy i j with h | h | h
    ·have := ht j i h (by omega); omega
    ·subst h; omega
    ·have := ht i j h (by omega); omega)
   rw [e17b, andThen_some]
   simp only
   rw [if_pos (by decide), if_pos (by rw [hsl]; simp), if_pos (by simp; omega), if_pos (by decide), if_pos (by decide), known_ok]
   rfl
end Go.Pl
namespace Go.Proofs.Ytgnkjceophhkpaa
theorem byte_of {n : Int} (h : (Go.Lit.int .u8 n).wf = true) : Go.Pl.byte n := by
 unfold Go.Lit.wf at h
 rw [Bool.and_eq_true, decide_eq_true_eq, decide_eq_true_eq] at h
 exact h
theorem pure4 : Pure4 := fun x0 x1 x2 g0 g1 g2 => ⟨50000, by
 obtain ⟨⟨a0, a1, a2, a3, a4, a5⟩, ⟨_, hl⟩, b0, b1, b2⟩ := g0
 exact Go.Pl.law4 _ _ _ _ _ _ _ _ _ _ _ _ (byte_of a0) (byte_of a1) (byte_of a2) (byte_of a3) (byte_of a4) (byte_of a5) (fun x hx => ⟨byte_of (hl x hx).1, byte_of (hl x hx).2⟩) (byte_of b0) (byte_of b1) (byte_of b2) (fun y hy => byte_of (g1.2 y hy)) (byte_of g2)⟩
theorem topLooksHeats_holds : Rows.TopLooksHeatsSaid := row4 pure4
end Go.Proofs.Ytgnkjceophhkpaa

