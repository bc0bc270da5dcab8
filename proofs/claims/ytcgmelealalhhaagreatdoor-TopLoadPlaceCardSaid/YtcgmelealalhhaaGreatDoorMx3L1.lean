/- The law. A load at a place: by the wares and the furnace of bytes. -/
import Derived.Test.YtcgmelealalhhaaGreatDoorAlUse
import Derived.KernelRfl
import Derived.Test.YtcgmelealalhhaaGreatDoorRows
import Derived.Test.YtcgmelealalhhaaGreatDoorAlRow
import Derived.LaidMore
import Derived.Lib.LaidTab
import Derived.Stop.Joined
import Derived.MakeChecks
import Derived.Test.YtcgmelealalhhaaGreatDoorCards
import Derived.Test.YtcgmelealalhhaaGreatDoorTie
import Derived.Test.YtcgmelealalhhaaGreatDoorMx3F4
set_option linter.unusedVariables false
set_option linter.unusedSimpArgs false
namespace Go.Pl
abbrev w64 (z : Int) : Int := Go.IntKind.wrap .i64 z
theorem w64_id {z : Int} (h1 : -9223372036854775808 ≤ z) (h2 : z < 9223372036854775808) : Go.IntKind.wrap .i64 z = z := by
 simp [IntKind.wrap, IntKind.signed, IntKind.bits]
 split <;> omega
def ent (m : List Int) (a b : Nat) : Int := m.getD (a * 6 + b) 0
def lim (a b : Nat) (v : Int) (m : List Int) : List Int := m.set (a * 6 + b) (if v < ent m a b then v else ent m a b)
@[simp] theorem lim_len (a b : Nat) (v : Int) (m : List Int) : (lim a b v m).length = m.length := by simp [lim]
theorem ent_lim {a b c d : Nat} {v : Int} {m : List Int} (hl : m.length = 36) (ha : a < 6) (hb : b < 6) (hc : c < 6) (hd : d < 6) :
  ent (lim a b v m) c d = if c = a ∧ d = b then (if v < ent m a b then v else ent m a b) else ent m c d := by
 unfold ent lim
 by_cases h : c = a ∧ d = b
 ·obtain ⟨rfl, rfl⟩ := h
  rw [if_pos (show c = c ∧ d = d from ⟨rfl, rfl⟩), List.getD_eq_getElem?_getD, List.getElem?_set_self (by omega)]
  rfl
 ·rw [if_neg h, List.getD_eq_getElem?_getD, List.getElem?_set_ne (by omega), ← List.getD_eq_getElem?_getD]
def Sat (m : List Int) (t : Nat → Int) : Prop := ∀ a b, a < 6 → b < 6 → t b - t a ≤ ent m a b
theorem sat_lim {a b : Nat} {v : Int} {m : List Int} {t : Nat → Int} (hl : m.length = 36) (ha : a < 6) (hb : b < 6) : Sat (lim a b v m) t ↔ Sat m t ∧ t b - t a ≤ v := by
 constructor
 ·intro h
  refine ⟨fun c d hc hd => ?_, ?_⟩
  ·have := h c d hc hd
   rw [ent_lim hl ha hb hc hd] at this
   split at this
   ·rename_i e; obtain ⟨rfl, rfl⟩ := e; split at this <;> omega
   ·exact this
  ·have := h a b ha hb
   rw [ent_lim hl ha hb ha hb, if_pos ⟨rfl, rfl⟩] at this
   split at this <;> omega
 ·rintro ⟨h, hv⟩ c d hc hd
  rw [ent_lim hl ha hb hc hd]
  split
  ·rename_i e; obtain ⟨rfl, rfl⟩ := e
   have := h c d hc hd
   split <;> omega
  ·exact h c d hc hd
def relax (k a b : Nat) (m : List Int) : List Int := lim a b (w64 (ent m a k + ent m k b)) m
def row (k a n : Nat) (m : List Int) : List Int := (List.range n).foldl (fun m b => relax k a b m) m
def stage (k n : Nat) (m : List Int) : List Int := (List.range n).foldl (fun m a => row k a 6 m) m
def fw (n : Nat) (m : List Int) : List Int := (List.range n).foldl (fun m k => stage k 6 m) m
theorem row_succ (k a n : Nat) (m : List Int) : row k a (n + 1) m = relax k a n (row k a n m) := by simp [row, List.range_succ]
theorem stage_succ (k n : Nat) (m : List Int) : stage k (n + 1) m = row k n 6 (stage k n m) := by simp [stage, List.range_succ]
theorem fw_succ (n : Nat) (m : List Int) : fw (n + 1) m = stage n 6 (fw n m) := by simp [fw, List.range_succ]
theorem fw_inv {I : List Int → Prop} (h : ∀ k a b m, k < 6 → a < 6 → b < 6 → I m → I (relax k a b m)) : ∀ n, n ≤ 6 → ∀ m, I m → I (fw n m) := by
 have h1 : ∀ k a n m, k < 6 → a < 6 → n ≤ 6 → I m → I (row k a n m) := fun k a n m hk ha hn hm => by
  induction n with
  | zero => exact hm
  | succ n ih => rw [row_succ]; exact h k a n _ hk ha (by omega) (ih (by omega))
 have h2 : ∀ k n m, k < 6 → n ≤ 6 → I m → I (stage k n m) := fun k n m hk hn hm => by
  induction n with
  | zero => exact hm
  | succ n ih => rw [stage_succ]; exact h1 k n 6 _ hk (by omega) (Nat.le_refl _) (ih (by omega))
 intro n hn m hm
 induction n with
 | zero => exact hm
 | succ n ih => rw [fw_succ]; exact h2 n 6 _ (by omega) (Nat.le_refl _) (ih (by omega))
def LeM (m' m : List Int) : Prop := m'.length = 36 ∧ ∀ a b, a < 6 → b < 6 → ent m' a b ≤ ent m a b
theorem relax_le {k a b : Nat} {m m0 : List Int} (ha : a < 6) (hb : b < 6) (h : LeM m m0) : LeM (relax k a b m) m0 := by
 refine ⟨by simp [relax, h.1], fun c d hc hd => ?_⟩
 unfold relax
 rw [ent_lim h.1 ha hb hc hd]
 have h1 := h.2 c d hc hd
 split
 ·rename_i e; obtain ⟨rfl, rfl⟩ := e; split <;> omega
 ·exact h1
theorem row_le {k a n : Nat} {m m0 : List Int} (ha : a < 6) (hn : n ≤ 6) (h : LeM m m0) : LeM (row k a n m) m0 := by
 induction n with
 | zero => exact h
 | succ n ih => rw [row_succ]; exact relax_le ha (by omega) (ih (by omega))
theorem stage_le {k n : Nat} {m m0 : List Int} (hn : n ≤ 6) (h : LeM m m0) : LeM (stage k n m) m0 := by
 induction n with
 | zero => exact h
 | succ n ih => rw [stage_succ]; exact row_le (by omega) (Nat.le_refl _) (ih (by omega))
theorem fw_le {m : List Int} (hl : m.length = 36) : ∀ n, n ≤ 6 → ∀ k, k ≤ n → LeM (fw n m) (fw k m) := by
 intro n
 induction n with
 | zero => intro _ k hk; cases Nat.le_zero.1 hk; exact ⟨hl, fun _ _ _ _ => Int.le_refl _⟩
 | succ n ih =>
  intro hn k hk
  have hl' : LeM (fw n m) (fw n m) := ⟨(ih (by omega) 0 (by omega)).1, fun _ _ _ _ => Int.le_refl _⟩
  rcases Nat.lt_or_ge k (n + 1) with h | h
  ·rw [fw_succ]; exact stage_le (Nat.le_refl _) (ih (by omega) k (by omega))
  ·have : k = n + 1 := by omega
   subst this
   rw [fw_succ]
   exact ⟨(stage_le (Nat.le_refl _) hl').1, fun _ _ _ _ => Int.le_refl _⟩
theorem fw_sat {m : List Int} {t : Nat → Int} (hl : m.length = 36) (hb : ∀ a b, a < 6 → b < 6 → ent m a b ≤ 1048576) (ht : ∀ a b, a < 6 → b < 6 → -1048576 ≤ t b - t a) (hs : Sat m t) : Sat (fw 6 m) t := by
 have := fw_inv (I := fun m => m.length = 36 ∧ (∀ a b, a < 6 → b < 6 → ent m a b ≤ 1048576) ∧ Sat m t) (fun k a b m hk ha hb ⟨h1, h2, h3⟩ => by
  have e1 := h2 a k ha hk
  have e2 := h2 k b hk hb
  have f1 := h3 a k ha hk
  have f2 := h3 k b hk hb
  have g1 := ht a k ha hk
  have g2 := ht k b hk hb
  have ew : w64 (ent m a k + ent m k b) = ent m a k + ent m k b := w64_id (by omega) (by omega)
  refine ⟨by simp [relax, h1], fun c d hc hd => ?_, ?_⟩
  ·have := (relax_le (k := k) ha hb (m0 := m) ⟨h1, fun _ _ _ _ => Int.le_refl _⟩).2 c d hc hd
   have := h2 c d hc hd
   omega
  ·unfold relax
   rw [sat_lim h1 ha hb, ew]
   exact ⟨h3, by omega⟩) 6 (Nat.le_refl _) m ⟨hl, hb, hs⟩
 exact this.2.2
theorem row_eq {m D : List Int} {k a : Nat} (hk : k < 6) (ha : a < 6) (hl : m.length = 36) (hkk : 0 ≤ ent D k k) (hB : ∀ x y, x < 6 → y < 6 → -1099511627776 ≤ ent D x y ∧ ent D x y ≤ 1099511627776)
  (hm : ∀ x y, x < 6 → y < 6 → ent m x y = if x < a then min (ent D x y) (ent D x k + ent D k y) else ent D x y) : ∀ n, n ≤ 6 → (row k a n m).length = 36 ∧
  ∀ x y, x < 6 → y < 6 → ent (row k a n m) x y = if x < a ∨ (x = a ∧ y < n) then min (ent D x y) (ent D x k + ent D k y) else ent D x y := by
 intro n
 induction n with
 | zero => intro _; exact ⟨hl, fun x y hx hy => by show ent m x y = _; rw [hm x y hx hy]; simp⟩
 | succ n ih =>
  intro hn
  obtain ⟨i1, i2⟩ := ih (by omega)
  rw [row_succ]
  refine ⟨by simp [relax, i1], fun x y hx hy => ?_⟩
  unfold relax
  have r1 : ent (row k a n m) a k = ent D a k := by rw [i2 a k ha hk]; split <;> omega
  have r2 : ent (row k a n m) k n = ent D k n := by rw [i2 k n hk (by omega)]; split <;> omega
  have b1 := hB a k ha hk
  have b2 := hB k n hk (by omega)
  rw [ent_lim i1 ha (by omega) hx hy, r1, r2, show w64 (ent D a k + ent D k n) = ent D a k + ent D k n from w64_id (by omega) (by omega)]
  by_cases e : x = a ∧ y = n
  ·obtain ⟨rfl, rfl⟩ := e
   have e2 := i2 x y hx hy
   rw [if_neg (by omega)] at e2
   rw [if_pos (show x = x ∧ y = y from ⟨rfl, rfl⟩), if_pos (show x < x ∨ x = x ∧ y < y + 1 from .inr ⟨rfl, Nat.lt_succ_self _⟩), e2]
   split <;> omega
  ·rw [if_neg e, i2 x y hx hy]
   by_cases h : x < a ∨ x = a ∧ y < n
   ·rw [if_pos h, if_pos (by omega)]
   ·rw [if_neg h, if_neg (by omega)]
theorem stage_eq {D : List Int} {k : Nat} (hk : k < 6) (hl : D.length = 36) (hkk : 0 ≤ ent D k k) (hB : ∀ x y, x < 6 → y < 6 → -1099511627776 ≤ ent D x y ∧ ent D x y ≤ 1099511627776) : ∀ n, n ≤ 6 → (stage k n D).length = 36 ∧
  ∀ x y, x < 6 → y < 6 → ent (stage k n D) x y = if x < n then min (ent D x y) (ent D x k + ent D k y) else ent D x y := by
 intro n
 induction n with
 | zero => intro _; exact ⟨hl, fun x y hx hy => by simp [stage]⟩
 | succ n ih =>
  intro hn
  obtain ⟨i1, i2⟩ := ih (by omega)
  rw [stage_succ]
  obtain ⟨j1, j2⟩ := row_eq hk (by omega) i1 hkk hB i2 6 (Nat.le_refl _)
  refine ⟨j1, fun x y hx hy => ?_⟩
  rw [j2 x y hx hy]
  by_cases h : x < n + 1
  ·rw [if_pos h, if_pos (by omega)]
  ·rw [if_neg h, if_neg (by omega)]
def Closed (n : Nat) (m : List Int) : Prop := ∀ k a b, k < n → a < 6 → b < 6 → ent m a b ≤ ent m a k + ent m k b
theorem fw_closed {m : List Int} (hl : m.length = 36) (hb : ∀ a b, a < 6 → b < 6 → -1048576 ≤ ent m a b ∧ ent m a b ≤ 1048576) (hd : ∀ a, a < 6 → 0 ≤ ent (fw 6 m) a a) :
  ∀ n, n ≤ 6 → Closed n (fw n m) ∧ ∀ a b, a < 6 → b < 6 → -(1048576 * 2 ^ n) ≤ ent (fw n m) a b ∧ ent (fw n m) a b ≤ 1048576 := by
 intro n
 induction n with
 | zero => intro _; exact ⟨fun k _ _ h => absurd h (Nat.not_lt_zero _), fun a b ha hb' => by have := hb a b ha hb'; rw [show fw 0 m = m from rfl]; omega⟩
 | succ n ih =>
  intro hn
  obtain ⟨hc, hbd⟩ := ih (by omega)
  have hln : (fw n m).length = 36 := (fw_le hl n (by omega) 0 (by omega)).1
  have hkk : ∀ a, a < 6 → 0 ≤ ent (fw n m) a a := fun a ha => Int.le_trans (hd a ha) ((fw_le hl 6 (Nat.le_refl _) n (by omega)).2 a a ha ha)
  have hpow : (1048576 : Int) * 2 ^ n ≤ 1048576 * 64 ∧ 0 ≤ (1048576 : Int) * 2 ^ n := by
   have : n = 0 ∨ n = 1 ∨ n = 2 ∨ n = 3 ∨ n = 4 ∨ n = 5 := by omega
   rcases this with rfl | rfl | rfl | rfl | rfl | rfl <;> decide
  have hB : ∀ x y, x < 6 → y < 6 → -1099511627776 ≤ ent (fw n m) x y ∧ ent (fw n m) x y ≤ 1099511627776 := fun x y hx hy => by
   have := hbd x y hx hy
   omega
  obtain ⟨_, he⟩ := stage_eq (k := n) (by omega) hln (hkk n (by omega)) hB 6 (Nat.le_refl _)
  have he : ∀ x y, x < 6 → y < 6 → ent (fw (n + 1) m) x y = min (ent (fw n m) x y) (ent (fw n m) x n + ent (fw n m) n y) := fun x y hx hy => by
   rw [fw_succ, he x y hx hy, if_pos hx]
  have h0 := hkk n (by omega)
  refine ⟨fun k a b hk ha hb' => ?_, fun a b ha hb' => ?_⟩
  ·rw [he a b ha hb', he a k ha (by omega), he k b (by omega) hb']
   rcases Nat.lt_or_ge k n with h | h
   ·have c1 := hc k a b h ha hb'
    have c2 := hc k a n h ha (by omega)
    have c3 := hc k n b h (by omega) hb'
    have c4 := hc k n n h (by omega) (by omega)
    omega
   ·have : k = n := by omega
    subst this
    omega
  ·have p1 := hbd a b ha hb'
   have p2 := hbd a n ha (by omega)
   have p3 := hbd n b (by omega) hb'
   rw [he a b ha hb']
   have : (1048576 : Int) * 2 ^ (n + 1) = 1048576 * 2 ^ n * 2 := by rw [Int.pow_succ, Int.mul_assoc]
   rw [this]
   generalize (1048576 : Int) * 2 ^ n = q at *
   rcases Int.le_total (ent (fw n m) a b) (ent (fw n m) a n + ent (fw n m) n b) with h | h
   ·rw [Int.min_eq_left h]; omega
   ·rw [Int.min_eq_right h]; omega
theorem fw_spec {m : List Int} (hl : m.length = 36) (hb : ∀ a b, a < 6 → b < 6 → -1048576 ≤ ent m a b ∧ ent m a b ≤ 1048576) (hz : ∀ a, a < 6 → ent m a a ≤ 0) :
  (fw 6 m).length = 36 ∧ ((∀ a, a < 6 → 0 ≤ ent (fw 6 m) a a) ↔ ∃ t, Sat m t) ∧ (∀ t, Sat m t → Sat (fw 6 m) t) ∧
  ((∀ a, a < 6 → 0 ≤ ent (fw 6 m) a a) → ∀ c, c < 6 → Sat m (fun b => ent (fw 6 m) c b) ∧ ent (fw 6 m) c c = 0) := by
 have hle := fw_le hl 6 (Nat.le_refl _) 0 (by omega)
 have hs : ∀ t, Sat m t → Sat (fw 6 m) t := fun t ht => fw_sat hl (fun a b ha hb' => (hb a b ha hb').2) (fun a b ha hb' => by
  have := ht b a hb' ha
  have := (hb b a hb' ha).2
  omega) ht
 have hc : (∀ a, a < 6 → 0 ≤ ent (fw 6 m) a a) → ∀ c, c < 6 → Sat m (fun b => ent (fw 6 m) c b) ∧ ent (fw 6 m) c c = 0 := fun hd c hc => by
  obtain ⟨h1, _⟩ := fw_closed hl hb hd 6 (Nat.le_refl _)
  refine ⟨fun a b ha hb' => ?_, ?_⟩
  ·have := h1 a c b ha hc hb'
   have := hle.2 a b ha hb'
   have e : ent (fw 0 m) a b = ent m a b := rfl
   show ent (fw 6 m) c b - ent (fw 6 m) c a ≤ ent m a b
   omega
  ·have := hle.2 c c hc hc
   have := hz c hc
   have := hd c hc
   have e : ent (fw 0 m) c c = ent m c c := rfl
   omega
 refine ⟨hle.1, ⟨fun hd => ⟨_, (hc hd 0 (by omega)).1⟩, fun ⟨t, ht⟩ a ha => ?_⟩, hs, hc⟩
 have := hs t ht a a ha ha
 omega
end Go.Pl


namespace Go.Pl
open Go.Al
@[simp] theorem andThen_some {α R : Type} (x : α) (k : α → Option R) : andThen (some x) k = k x := rfl
@[simp] theorem either_inl {α β R : Type} (x : α) (f : α → R) (g : β → R) : either (.inl x) f g = f x := rfl
@[simp] theorem either_inr {α β R : Type} (x : β) (f : α → R) (g : β → R) : either (.inr x) f g = g x := rfl
theorem w_succ {i : Nat} (h : i < 4611686018427387904) : Go.IntKind.wrap .i64 ((i : Int) + 1) = ((i + 1 : Nat) : Int) := by
 rw [w64_id (by omega) (by omega)]; rfl
theorem loop_run {S R : Type} (L : Nat → S → Option R) (I : S → Prop) (m : S → Nat) (Q : R → Prop)
  (step : ∀ q s, I s → (∃ r, L (q + 1) s = some r ∧ Q r) ∨ (∃ s', I s' ∧ m s' < m s ∧ L (q + 1) s = L q s')) : ∀ q s, I s → m s < q → ∃ r, L q s = some r ∧ Q r := by
 intro q
 induction q with
 | zero => intro s _ h; exact absurd h (Nat.not_lt_zero _)
 | succ q ih =>
  intro s hs hm
  rcases step q s hs with h | ⟨s', h1, h2, h3⟩
  ·exact h
  ·rw [h3]; exact ih s' h1 (by omega)
theorem getD_set {α : Type} (l : List α) (a b : Nat) (x d : α) : (l.set a x).getD b d = if a = b ∧ a < l.length then x else l.getD b d := by
 by_cases h : a = b
 ·subst h
  by_cases hl : a < l.length
  ·simp [hl]
  ·simp [hl]
 ·simp [h, List.getD_eq_getElem?_getD, List.getElem?_set_ne h]
abbrev Span := Int × Int
abbrev Pr := Int × (Int × Int)
abbrev Cn := Int × (Int × Bool)
abbrev Sg := Int × ((Int × Int) × Int)
def sp (l : List Span) (p : Nat) : Span := l.getD p (0, 0)
def Box (l : List Span) (t : Nat → Int) : Prop := ∀ p, p < l.length → (sp l p).1 ≤ t p ∧ t p ≤ (sp l p).2
def Prs (ps : List Pr) (t : Nat → Int) : Prop := ∀ q ∈ ps, t q.1.toNat - t q.2.1.toNat ≤ q.2.2 ∧ t q.2.1.toNat - t q.1.toNat ≤ q.2.2
def okPr (n : Nat) (q : Pr) : Prop := 0 ≤ q.1 ∧ q.1 < n ∧ 0 ≤ q.2.1 ∧ q.2.1 < n ∧ q.1 ≠ q.2.1 ∧ 0 ≤ q.2.2 ∧ q.2.2 ≤ 1000
end Go.Pl


namespace Go.Pl
open Go.Al Go.Proofs
theorem f49_eq (N : Nat) {a b : Int} (v : Int) (m : List Int) (ha : 0 ≤ a) (ha' : a < 6) (hb : 0 ≤ b) (hb' : b < 6) : f49 N a b v m = some (lim a.toNat b.toNat v m) := by
 unfold f49
 simp only [ha, ha', hb, hb', decide_true, Bool.and_true, if_true, Nat.zero_add, Nat.mul_one]
 rfl
theorem f50l2_eq (N : Nat) (k a : Nat) (x2 x3 : Int) (m : List Int) (hk : k < 6) (ha : a < 6) (hN : 6 < N) : f50l2 N N k a x2 x3 0 m = some ((k : Int), x2, x3, row k a 6 m) := by
 obtain ⟨r, h1, rfl⟩ := loop_run (fun q (b : Nat) => f50l2 N q k a x2 x3 b (row k a b m)) (fun b => b ≤ 6) (fun b => 6 - b) (fun r => r = ((k : Int), x2, x3, row k a 6 m)) (fun q b hb => by
  by_cases h : b < 6
  ·right
   refine ⟨b + 1, h, by omega, ?_⟩
   show f50l2B N (f50l2 N q) k a x2 x3 b (row k a b m) = _
   unfold f50l2B
   simp only [show ((b : Int) < 6) by omega, show ((a : Int) < 6) by omega, show ((k : Int) < 6) by omega, Int.natCast_nonneg, decide_true, Bool.and_true, if_true, Nat.zero_add, Nat.mul_one, Int.toNat_natCast, w_succ (show b < 4611686018427387904 by omega)]
   rw [f49_eq N _ _ (by omega) (by omega) (by omega) (by omega), andThen_some, row_succ]
   rfl
  ·left
   have : b = 6 := by omega
   subst this
   exact ⟨_, rfl, rfl⟩) N 0 (by omega) (by omega)
 exact h1
theorem f50l1_eq (N : Nat) (k : Nat) (x1 : Int) (m : List Int) (hk : k < 6) (hN : 6 < N) : f50l1 N N k x1 0 m = some (x1, stage k 6 m) := by
 obtain ⟨r, h1, rfl⟩ := loop_run (fun q (a : Nat) => f50l1 N q k x1 a (stage k a m)) (fun b => b ≤ 6) (fun b => 6 - b) (fun r => r = (x1, stage k 6 m)) (fun q a hb => by
  by_cases h : a < 6
  ·right
   refine ⟨a + 1, h, by omega, ?_⟩
   show f50l1B N (f50l1 N q) k x1 a (stage k a m) = _
   unfold f50l1B
   simp only [show ((a : Int) < 6) by omega, decide_true, if_true]
   rw [f50l2_eq N k a x1 a _ hk h hN, andThen_some, stage_succ]
   simp only [w_succ (show a < 4611686018427387904 by omega)]
  ·left
   have : a = 6 := by omega
   subst this
   exact ⟨_, rfl, rfl⟩) N 0 (by omega) (by omega)
 exact h1
theorem f50l0_eq (N : Nat) (m : List Int) (hN : 6 < N) : f50l0 N N 0 m = some (fw 6 m) := by
 obtain ⟨r, h1, h3⟩ := loop_run (fun q (a : Nat) => f50l0 N q a (fw a m)) (fun b => b ≤ 6) (fun b => 6 - b) (fun r => r = fw 6 m) (fun q a hb => by
  by_cases h : a < 6
  ·right
   refine ⟨a + 1, h, by omega, ?_⟩
   show f50l0B N (f50l0 N q) a (fw a m) = _
   unfold f50l0B
   simp only [show ((a : Int) < 6) by omega, decide_true, if_true]
   rw [f50l1_eq N a a _ h hN, andThen_some, fw_succ]
   simp only [w_succ (show a < 4611686018427387904 by omega)]
  ·left
   have : a = 6 := by omega
   subst this
   refine ⟨_, ?_, rfl⟩
   show f50l0B N (f50l0 N q) ((6 : Nat) : Int) (fw 6 m) = _
   unfold f50l0B
   exact if_neg (by decide)) N 0 (by omega) (by omega)
 rw [h3] at h1
 exact h1
theorem f50_eq (N : Nat) (m : List Int) (hN : 6 < N) : ∃ ok, f50 N m = some (ok, fw 6 m) ∧ (ok = true ↔ ∀ a, a < 6 → 0 ≤ ent (fw 6 m) a a) := by
 generalize hf : fw 6 m = m'
 obtain ⟨r, h1, h2⟩ := loop_run (fun q (a : Nat) => f50l3 N q a m') (fun b => b ≤ 6 ∧ ∀ a, a < b → 0 ≤ ent m' a a) (fun b => 6 - b) (fun r => (r = .inl (false, m') ∧ ¬ ∀ a, a < 6 → 0 ≤ ent m' a a) ∨ (r = .inr m' ∧ ∀ a, a < 6 → 0 ≤ ent m' a a)) (fun q a hb => by
  obtain ⟨hb, hd⟩ := hb
  by_cases h : a < 6
  ·by_cases hn : ent m' a a < 0
   ·left
    refine ⟨.inl (false, m'), ?_, .inl ⟨rfl, fun h' => by have := h' a h; omega⟩⟩
    show f50l3B N (f50l3 N q) a m' = _
    unfold f50l3B
    simp only [show ((a : Int) < 6) by omega, Int.natCast_nonneg, decide_true, Bool.and_true, if_true, Nat.zero_add, Nat.mul_one, Int.toNat_natCast]
    exact if_pos (decide_eq_true hn)
   ·right
    refine ⟨a + 1, ⟨h, fun c hc => ?_⟩, by omega, ?_⟩
    ·rcases Nat.lt_or_ge c a with h' | h'
     ·exact hd c h'
     ·have : c = a := by omega
      subst this; omega
    ·show f50l3B N (f50l3 N q) a m' = _
     unfold f50l3B
     simp only [show ((a : Int) < 6) by omega, Int.natCast_nonneg, decide_true, Bool.and_true, if_true, Nat.zero_add, Nat.mul_one, Int.toNat_natCast, w_succ (show a < 4611686018427387904 by omega)]
     exact if_neg fun h => hn (of_decide_eq_true h)
  ·left
   have : a = 6 := by omega
   subst this
   exact ⟨_, rfl, .inr ⟨rfl, hd⟩⟩) N 0 ⟨by omega, fun a ha => absurd ha (Nat.not_lt_zero _)⟩ (by omega)
 unfold f50
 rw [f50l0_eq N m hN, andThen_some, hf]
 simp only [show f50l3 N N (0 : Int) m' = some r from h1, andThen_some]
 rcases h2 with ⟨rfl, h2⟩ | ⟨rfl, h2⟩
 ·exact ⟨false, rfl, by simpa using h2⟩
 ·exact ⟨true, rfl, by simpa using h2⟩
def Fine (m : List Int) : Prop := m.length = 36 ∧ (∀ a b, a < 6 → b < 6 → -1048576 ≤ ent m a b ∧ ent m a b ≤ 1048576) ∧ ∀ a, a < 6 → ent m a a ≤ 0
theorem fine_lim {m : List Int} {a b : Nat} {v : Int} (h : Fine m) (ha : a < 6) (hb : b < 6) (hv : -1048576 ≤ v) (hv' : v ≤ 1048576) : Fine (lim a b v m) := by
 refine ⟨by simp [h.1], fun c d hc hd => ?_, fun c hc => ?_⟩
 ·rw [ent_lim h.1 ha hb hc hd]
  have := h.2.1 c d hc hd
  have := h.2.1 a b ha hb
  split
  ·split <;> omega
  ·omega
 ·rw [ent_lim h.1 ha hb hc hc]
  have := h.2.2 c hc
  split
  ·rename_i e; obtain ⟨rfl, e⟩ := e; subst e; split <;> omega
  ·omega
abbrev Nt := Cn ⊕ Sg
def NoteT : Nt → Int → Prop
 | .inl c, u => if c.2.2 = true then c.2.1 ≤ u else u ≤ c.2.1 - 1
 | .inr s, u => if s.2.2 = 3 then s.2.1.2 ≤ u else if s.2.2 = 2 then s.2.1.1 ≤ u ∧ u ≤ s.2.1.2 - 1 else u ≤ s.2.1.1 - 1
def plc : Nt → Int
 | .inl c => c.1
 | .inr s => s.1
def okCn (n : Nat) (c : Cn) : Prop := 0 ≤ c.1 ∧ c.1 < n ∧ 1 ≤ c.2.1 ∧ c.2.1 ≤ 1000
def okWr (w : Span) : Prop := 0 ≤ w.1 ∧ w.1 < w.2 ∧ w.2 ≤ 1000
def okSg (n : Nat) (s : Sg) : Prop := 0 ≤ s.1 ∧ s.1 < n ∧ okWr s.2.1 ∧ 1 ≤ s.2.2 ∧ s.2.2 ≤ 3
def okNt (n : Nat) : Nt → Prop
 | .inl c => okCn n c
 | .inr s => okSg n s
def Tells (m : List Int) (R : (Nat → Int) → Prop) : Prop := Fine m ∧ ∀ t, Sat m t ↔ R t
theorem above_eq (N : Nat) {p : Int} {v : Int} {m : List Int} {R : (Nat → Int) → Prop} (h : Tells m R) (hp : 0 ≤ p) (hp' : p < 5) (hv : -100000 ≤ v) (hv' : v ≤ 100000) :
  ∃ m', f47 N p v m = some m' ∧ Tells m' fun t => R t ∧ v ≤ t p.toNat - t 5 := by
 unfold f47
 rw [w64_id (by omega) (by omega), f49_eq N _ _ hp (by omega) (by omega) (by omega)]
 refine ⟨_, rfl, fine_lim h.1 (by omega) (by decide) (by omega) (by omega), fun t => ?_⟩
 rw [sat_lim h.1.1 (by omega) (by decide), h.2]
 show R t ∧ t 5 - t p.toNat ≤ 0 - v ↔ _
 constructor <;> rintro ⟨h1, h2⟩ <;> exact ⟨h1, by omega⟩
theorem below_eq (N : Nat) {p : Int} {v : Int} {m : List Int} {R : (Nat → Int) → Prop} (h : Tells m R) (hp : 0 ≤ p) (hp' : p < 5) (hv : -100000 ≤ v) (hv' : v ≤ 100000) :
  ∃ m', f48 N p v m = some m' ∧ Tells m' fun t => R t ∧ t p.toNat - t 5 ≤ v := by
 unfold f48
 rw [f49_eq N _ _ (by omega) (by omega) hp (by omega)]
 refine ⟨_, rfl, fine_lim h.1 (by decide) (by omega) (by omega) (by omega), fun t => ?_⟩
 rw [sat_lim h.1.1 (by decide) (by omega), h.2]
 exact Iff.rfl
theorem Tells.congr {m : List Int} {R R' : (Nat → Int) → Prop} (h : Tells m R) (e : ∀ t, R t ↔ R' t) : Tells m R' := ⟨h.1, fun t => (h.2 t).trans (e t)⟩
theorem cone_eq (N : Nat) {c : Cn} {n : Nat} {m : List Int} {R : (Nat → Int) → Prop} (h : Tells m R) (hn : n ≤ 5) (hc : okCn n c) :
  ∃ m', f119 N c.1 c.2.1 c.2.2 m = some m' ∧ Tells m' fun t => R t ∧ NoteT (.inl c) (t c.1.toNat - t 5) := by
 obtain ⟨h1, h2, h3, h4⟩ := hc
 unfold f119
 by_cases e : c.2.2 = true
 ·rw [if_pos e]
  obtain ⟨m', e1, e2⟩ := above_eq N h h1 (by omega) (v := c.2.1) (by omega) (by omega)
  rw [e1]
  exact ⟨m', rfl, e2.congr fun t => by simp [NoteT, e]⟩
 ·rw [if_neg e, w64_id (by omega) (by omega)]
  obtain ⟨m', e1, e2⟩ := below_eq N h h1 (by omega) (v := c.2.1 - 1) (by omega) (by omega)
  rw [e1]
  exact ⟨m', rfl, e2.congr fun t => by simp [NoteT, e]⟩
theorem sign_eq (N : Nat) {s : Sg} {n : Nat} {m : List Int} {R : (Nat → Int) → Prop} (h : Tells m R) (hn : n ≤ 5) (hs : okSg n s) :
  ∃ m', f120 N s.1 s.2.1.1 s.2.1.2 s.2.2 m = some m' ∧ Tells m' fun t => R t ∧ NoteT (.inr s) (t s.1.toNat - t 5) := by
 obtain ⟨h1, h2, ⟨h3, h4, h5⟩, h6, h7⟩ := hs
 unfold f120
 by_cases e : s.2.2 = 3
 ·rw [if_pos (by simp [e])]
  obtain ⟨m', e1, e2⟩ := above_eq N h h1 (by omega) (v := s.2.1.2) (by omega) (by omega)
  rw [e1]
  exact ⟨m', rfl, e2.congr fun t => by simp [NoteT, e]⟩
 ·rw [if_neg (by simp [e])]
  by_cases e' : s.2.2 = 2
  ·rw [if_pos (by simp [e']), w64_id (by omega) (by omega)]
   obtain ⟨m1, e1, e2⟩ := below_eq N h h1 (by omega) (v := s.2.1.2 - 1) (by omega) (by omega)
   rw [e1, andThen_some]
   obtain ⟨m2, e3, e4⟩ := above_eq N e2 h1 (by omega) (v := s.2.1.1) (by omega) (by omega)
   rw [e3]
   refine ⟨m2, rfl, e4.congr fun t => ?_⟩
   simp only [NoteT]
   rw [if_neg e, if_pos e']
   constructor
   ·rintro ⟨⟨a, b⟩, c⟩; exact ⟨a, c, b⟩
   ·rintro ⟨a, c, b⟩; exact ⟨⟨a, b⟩, c⟩
  ·rw [if_neg (by simp [e']), w64_id (by omega) (by omega)]
   obtain ⟨m', e1, e2⟩ := below_eq N h h1 (by omega) (v := s.2.1.1 - 1) (by omega) (by omega)
   rw [e1]
   exact ⟨m', rfl, e2.congr fun t => by simp [NoteT, e, e']⟩
end Go.Pl


namespace Go.Pl
open Go.Al Go.Proofs
def init6 : List Int := [0, 1048576, 1048576, 1048576, 1048576, 1048576, 1048576, 0, 1048576, 1048576, 1048576, 1048576, 1048576, 1048576, 0, 1048576, 1048576, 1048576, 1048576, 1048576, 1048576, 0, 1048576, 1048576, 1048576, 1048576, 1048576, 1048576, 0, 1048576, 1048576, 1048576, 1048576, 1048576, 1048576, 0]
def zero6 : List Int := [0, 0, 0, 0, 0, 0, 0, 0, 0, 0, 0, 0, 0, 0, 0, 0, 0, 0, 0, 0, 0, 0, 0, 0, 0, 0, 0, 0, 0, 0, 0, 0, 0, 0, 0, 0]
theorem f29l0_eq (n : Nat) (w : Int) (more : List Nt) (hs : List Span) (ps : List Pr) (cs : List Cn) (ss : List Sg) (ns : List Nt) :
  f29l0 (n + 10) (n + 10) w more 0 hs ps cs ss ns zero6 = some (w, more, hs, ps, cs, ss, ns, init6) := by kernel_rfl
theorem init_ent {a b : Nat} (ha : a < 6) (hb : b < 6) : ent init6 a b = if a = b then 0 else 1048576 := by
 have : ∀ a, a < 6 → ∀ b, b < 6 → ent init6 a b = if a = b then 0 else 1048576 := by decide
 exact this a ha b hb
def Near (t : Nat → Int) : Prop := ∀ a b, a < 6 → b < 6 → t b - t a ≤ 1048576
theorem init_tells : Tells init6 Near := by
 refine ⟨⟨rfl, fun a b ha hb => ?_, fun a ha => ?_⟩, fun t => ⟨fun h a b ha hb => ?_, fun h a b ha hb => ?_⟩⟩
 ·rw [init_ent ha hb]; split <;> omega
 ·rw [init_ent ha ha]; simp
 ·have := h a b ha hb
  rw [init_ent ha hb] at this
  split at this <;> omega
 ·rw [init_ent ha hb]
  split
  ·rename_i e; subst e; omega
  ·exact h a b ha hb
def okSp (s : Span) : Prop := 0 ≤ s.1 ∧ s.1 ≤ s.2 ∧ s.2 ≤ 1000
theorem f29l2_eq (N : Nat) (w : Int) (more : List Nt) (hs : List Span) (ps : List Pr) (cs : List Cn) (ss : List Sg) (ns : List Nt) (hN : hs.length < N) (hn : hs.length ≤ 5) (hok : ∀ s ∈ hs, okSp s) {m : List Int} {R : (Nat → Int) → Prop} (hm : Tells m R) :
  ∃ m', f29l2 N N w more hs (hs.length : Int) 0 hs ps cs ss ns m = some (w, more, hs, ps, cs, ss, ns, m') ∧ Tells m' fun t => R t ∧ ∀ p, p < hs.length → (sp hs p).1 ≤ t p - t 5 ∧ t p - t 5 ≤ (sp hs p).2 := by
 obtain ⟨r, h1, m', h2, h3⟩ := loop_run (fun q (s : Nat × List Int) => f29l2 N q w more hs (hs.length : Int) (s.1 : Int) hs ps cs ss ns s.2)
  (fun s => s.1 ≤ hs.length ∧ Tells s.2 fun t => R t ∧ ∀ p, p < s.1 → (sp hs p).1 ≤ t p - t 5 ∧ t p - t 5 ≤ (sp hs p).2) (fun s => hs.length - s.1)
  (fun r => ∃ m', r = (w, more, hs, ps, cs, ss, ns, m') ∧ Tells m' fun t => R t ∧ ∀ p, p < hs.length → (sp hs p).1 ≤ t p - t 5 ∧ t p - t 5 ≤ (sp hs p).2) (by
   rintro q ⟨i, m1⟩ ⟨i1, i2⟩
   simp only at i1 i2 ⊢
   by_cases hi : i < hs.length
   ·right
    have hsp : okSp (sp hs i) := hok _ (by unfold sp; rw [List.getD_eq_getElem?_getD, List.getElem?_eq_getElem hi]; exact List.getElem_mem hi)
    obtain ⟨o1, o2, o3⟩ := hsp
    obtain ⟨m2, e1, e2⟩ := above_eq N (p := (i : Int)) i2 (by omega) (by omega) (v := (sp hs i).1) (by omega) (by omega)
    obtain ⟨m3, e3, e4⟩ := below_eq N (p := (i : Int)) e2 (by omega) (by omega) (v := (sp hs i).2) (by omega) (by omega)
    refine ⟨(i + 1, m3), ⟨hi, e4.congr fun t => ?_⟩, show hs.length - (i + 1) < hs.length - i by omega, ?_⟩
    ·simp only [Int.toNat_natCast]
     constructor
     ·rintro ⟨⟨⟨a, b⟩, c⟩, d⟩
      refine ⟨a, fun p hp => ?_⟩
      rcases Nat.lt_or_ge p i with h | h
      ·exact b p h
      ·have : p = i := by omega
       subst this; exact ⟨c, d⟩
     ·rintro ⟨a, b⟩
      exact ⟨⟨⟨a, fun p hp => b p (by omega)⟩, (b i (by omega)).1⟩, (b i (by omega)).2⟩
    ·show f29l2B N (f29l2 N q) w more hs (hs.length : Int) (i : Int) hs ps cs ss ns m1 = _
     unfold f29l2B
     unfold sp at e1 e3
     simp only [show ((i : Int) < (hs.length : Int)) by omega, Int.natCast_nonneg, decide_true, Bool.and_true, if_true, Int.toNat_natCast, e1, andThen_some, e3, w_succ (show i < 4611686018427387904 by omega)]
   ·left
    have : i = hs.length := by omega
    subst this
    refine ⟨_, ?_, m1, rfl, i2⟩
    show f29l2B N (f29l2 N q) w more hs (hs.length : Int) (hs.length : Int) hs ps cs ss ns m1 = _
    unfold f29l2B
    rw [if_neg (by simp)]) N (0, m) ⟨Nat.zero_le _, hm.congr fun t => ⟨fun h => ⟨h, fun p hp => absurd hp (Nat.not_lt_zero _)⟩, fun h => h.1⟩⟩ (by simpa using hN)
 rw [h2] at h1
 exact ⟨m', h1, h3⟩
theorem f29l3_eq (N : Nat) (w : Int) (more : List Nt) (hs : List Span) (ps : List Pr) (cs : List Cn) (ss : List Sg) (ns : List Nt) (n : Nat) (hn : n ≤ 5) (hN : ps.length < N) (hl : ps.length < 1000000) (hok : ∀ q ∈ ps, okPr n q) {m : List Int} {R : (Nat → Int) → Prop} (hm : Tells m R) :
  ∃ m', f29l3 N N w more ps (ps.length : Int) 0 hs ps cs ss ns m = some (w, more, hs, ps, cs, ss, ns, m') ∧ Tells m' fun t => R t ∧ Prs ps t := by
 have hgood : ∀ t : Nat → Int, (∀ j, j < ps.length → Prs [ps.getD j ((0 : Int), ((0 : Int), (0 : Int)))] t) ↔ Prs ps t := fun t => by
  constructor
  ·intro h q hq
   obtain ⟨j, hj, e⟩ := List.getElem_of_mem hq
   have := h j hj
   rw [List.getD_eq_getElem?_getD, List.getElem?_eq_getElem hj] at this
   exact this q (by simp [e])
  ·intro h j hj q hq
   rw [List.getD_eq_getElem?_getD, List.getElem?_eq_getElem hj] at hq
   simp at hq; subst hq
   exact h _ (List.getElem_mem hj)
 obtain ⟨r, h1, m', h2, h3⟩ := loop_run (fun q (s : Nat × List Int) => f29l3 N q w more ps (ps.length : Int) (s.1 : Int) hs ps cs ss ns s.2)
  (fun s => s.1 ≤ ps.length ∧ Tells s.2 fun t => R t ∧ ∀ j, j < s.1 → Prs [ps.getD j ((0 : Int), ((0 : Int), (0 : Int)))] t) (fun s => ps.length - s.1)
  (fun r => ∃ m', r = (w, more, hs, ps, cs, ss, ns, m') ∧ Tells m' fun t => R t ∧ ∀ j, j < ps.length → Prs [ps.getD j ((0 : Int), ((0 : Int), (0 : Int)))] t) (by
   rintro q ⟨i, m1⟩ ⟨i1, i2⟩
   simp only at i1 i2 ⊢
   by_cases hi : i < ps.length
   ·right
    have hpr : okPr n (ps.getD i ((0 : Int), ((0 : Int), (0 : Int)))) := hok _ (by rw [List.getD_eq_getElem?_getD, List.getElem?_eq_getElem hi]; exact List.getElem_mem hi)
    generalize hz : ps.getD i ((0 : Int), ((0 : Int), (0 : Int))) = z at *
    obtain ⟨o1, o2, o3, o4, o5, o6, o7⟩ := hpr
    refine ⟨(i + 1, lim z.2.1.toNat z.1.toNat z.2.2 (lim z.1.toNat z.2.1.toNat z.2.2 m1)), ⟨hi, ?_⟩, show ps.length - (i + 1) < ps.length - i by omega, ?_⟩
    ·have f1 := fine_lim i2.1 (a := z.1.toNat) (b := z.2.1.toNat) (v := z.2.2) (by omega) (by omega) (by omega) (by omega)
     refine ⟨fine_lim f1 (by omega) (by omega) (by omega) (by omega), fun t => ?_⟩
     rw [sat_lim f1.1 (by omega) (by omega), sat_lim i2.1.1 (by omega) (by omega), i2.2]
     constructor
     ·rintro ⟨⟨⟨a, b⟩, c⟩, d⟩
      refine ⟨a, fun j hj => ?_⟩
      rcases Nat.lt_or_ge j i with h | h
      ·exact b j h
      ·have : j = i := by omega
       subst this
       rw [hz]
       intro x hx
       simp at hx; subst hx
       omega
     ·rintro ⟨a, b⟩
      have := b i (by omega)
      rw [hz] at this
      have := this z (by simp)
      exact ⟨⟨⟨a, fun j hj => b j (by omega)⟩, by omega⟩, by omega⟩
    ·show f29l3B N (f29l3 N q) w more ps (ps.length : Int) (i : Int) hs ps cs ss ns m1 = _
     unfold f29l3B
     simp only [show ((i : Int) < (ps.length : Int)) by omega, Int.natCast_nonneg, decide_true, Bool.and_true, if_true, Int.toNat_natCast, hz]
     rw [f49_eq N _ _ o1 (by omega) o3 (by omega), andThen_some, f49_eq N _ _ o3 (by omega) o1 (by omega), andThen_some]
     simp only [w_succ (show i < 4611686018427387904 by omega)]
   ·left
    have : i = ps.length := by omega
    subst this
    refine ⟨_, ?_, m1, rfl, i2⟩
    show f29l3B N (f29l3 N q) w more ps (ps.length : Int) (ps.length : Int) hs ps cs ss ns m1 = _
    unfold f29l3B
    rw [if_neg (by simp)]) N (0, m) ⟨Nat.zero_le _, hm.congr fun t => ⟨fun h => ⟨h, fun p hp => absurd hp (Nat.not_lt_zero _)⟩, fun h => h.1⟩⟩ (by simpa using hN)
 rw [h2] at h1
 exact ⟨m', h1, h3.congr fun t => by rw [hgood]⟩
def bitOff (w : Int) (i : Nat) : Bool := Go.IntKind.wrap .i64 (((((BitVec.ofInt (Go.IntKind.bits .i64) (Int.fdiv w (2 ^ (min i (Go.IntKind.bits .i64))))) &&& (BitVec.ofInt (Go.IntKind.bits .i64) (1 : Int)))).toNat : Nat) : Int) == (0 : Int)
theorem bitOff_zero (i : Nat) : bitOff 0 i = true := by
 unfold bitOff
 rw [Int.zero_fdiv]
 rfl
def nt (ns : List Nt) (i : Nat) : Nt := ns.getD i (Sum.inl ((0 : Int), ((0 : Int), false)))
def NoteOk (x : Nt) (t : Nat → Int) : Prop := NoteT x (t (plc x).toNat)
theorem note_eq (N : Nat) {x : Nt} {n : Nat} {m : List Int} {R : (Nat → Int) → Prop} (h : Tells m R) (hn : n ≤ 5) (hx : okNt n x) {S : Type} (k : List Int → Option S) :
  ∃ m', either x (fun z => andThen (f119 N z.1 z.2.1 z.2.2 m) k) (fun z => andThen (f120 N z.1 z.2.1.1 z.2.1.2 z.2.2 m) k) = k m' ∧ Tells m' fun t => R t ∧ NoteT x (t (plc x).toNat - t 5) := by
 cases x with
 | inl c =>
  obtain ⟨m', e1, e2⟩ := cone_eq N h hn hx
  exact ⟨m', by rw [either_inl, e1, andThen_some], e2⟩
 | inr s =>
  obtain ⟨m', e1, e2⟩ := sign_eq N h hn hx
  exact ⟨m', by rw [either_inr, e1, andThen_some], e2⟩
theorem f29l4_eq (N : Nat) (w : Int) (more ns : List Nt) (n : Nat) (hn : n ≤ 5) (hN : ns.length < N) (hl : ns.length < 1000000) (hok : ∀ x ∈ ns, okNt n x) {m : List Int} {R : (Nat → Int) → Prop} (hm : Tells m R) :
  ∃ m', f29l4 N N w more ns (ns.length : Int) 0 m = some (more, m') ∧ Tells m' fun t => R t ∧ ∀ i, i < ns.length → bitOff w i = true → NoteT (nt ns i) (t (plc (nt ns i)).toNat - t 5) := by
 obtain ⟨r, h1, m', h2, h3⟩ := loop_run (fun q (s : Nat × List Int) => f29l4 N q w more ns (ns.length : Int) (s.1 : Int) s.2)
  (fun s => s.1 ≤ ns.length ∧ Tells s.2 fun t => R t ∧ ∀ i, i < s.1 → bitOff w i = true → NoteT (nt ns i) (t (plc (nt ns i)).toNat - t 5)) (fun s => ns.length - s.1)
  (fun r => ∃ m', r = (more, m') ∧ Tells m' fun t => R t ∧ ∀ i, i < ns.length → bitOff w i = true → NoteT (nt ns i) (t (plc (nt ns i)).toNat - t 5)) (by
   rintro q ⟨i, m1⟩ ⟨i1, i2⟩
   simp only at i1 i2 ⊢
   by_cases hi : i < ns.length
   ·right
    have hx : okNt n (nt ns i) := hok _ (by unfold nt; rw [List.getD_eq_getElem?_getD, List.getElem?_eq_getElem hi]; exact List.getElem_mem hi)
    have hstep : ∀ k : Int → List Nt → List Nt → Int → Int → List Int → Option (List Nt × List Int), f29l4B N k w more ns (ns.length : Int) (i : Int) m1 =
      if bitOff w i = true then either (nt ns i) (fun z => andThen (f119 N z.1 z.2.1 z.2.2 m1) (fun y => k w more ns (ns.length : Int) ((i + 1 : Nat) : Int) y)) (fun z => andThen (f120 N z.1 z.2.1.1 z.2.1.2 z.2.2 m1) (fun y => k w more ns (ns.length : Int) ((i + 1 : Nat) : Int) y)) else k w more ns (ns.length : Int) ((i + 1 : Nat) : Int) m1 := fun k => by
     unfold f29l4B
     simp only [show ((i : Int) < (ns.length : Int)) by omega, Int.natCast_nonneg, decide_true, Bool.and_true, if_true, Int.toNat_natCast, w_succ (show i < 4611686018427387904 by omega)]
     rfl
    by_cases hb : bitOff w i = true
    ·obtain ⟨m2, e1, e2⟩ := note_eq N i2 hn hx (fun y => f29l4 N q w more ns (ns.length : Int) ((i + 1 : Nat) : Int) y)
     refine ⟨(i + 1, m2), ⟨hi, e2.congr fun t => ?_⟩, show ns.length - (i + 1) < ns.length - i by omega, ?_⟩
     ·constructor
      ·rintro ⟨⟨a, b⟩, c⟩
       refine ⟨a, fun j hj => ?_⟩
       rcases Nat.lt_or_ge j i with h | h
       ·exact b j h
       ·have : j = i := by omega
        subst this; exact fun _ => c
      ·rintro ⟨a, b⟩
       exact ⟨⟨a, fun j hj => b j (by omega)⟩, b i (by omega) hb⟩
     ·show f29l4B N (f29l4 N q) w more ns (ns.length : Int) (i : Int) m1 = _
      rw [hstep, if_pos hb, e1]
    ·refine ⟨(i + 1, m1), ⟨hi, i2.congr fun t => ?_⟩, show ns.length - (i + 1) < ns.length - i by omega, ?_⟩
     ·constructor
      ·rintro ⟨a, b⟩
       refine ⟨a, fun j hj => ?_⟩
       rcases Nat.lt_or_ge j i with h | h
       ·exact b j h
       ·have : j = i := by omega
        subst this; exact fun h => absurd h hb
      ·rintro ⟨a, b⟩
       exact ⟨a, fun j hj => b j (by omega)⟩
     ·show f29l4B N (f29l4 N q) w more ns (ns.length : Int) (i : Int) m1 = _
      rw [hstep, if_neg hb]
   ·left
    have : i = ns.length := by omega
    subst this
    refine ⟨_, ?_, m1, rfl, i2⟩
    show f29l4B N (f29l4 N q) w more ns (ns.length : Int) (ns.length : Int) m1 = _
    unfold f29l4B
    rw [if_neg (by simp)]) N (0, m) ⟨Nat.zero_le _, hm.congr fun t => ⟨fun h => ⟨h, fun p hp => absurd hp (Nat.not_lt_zero _)⟩, fun h => h.1⟩⟩ (by simpa using hN)
 rw [h2] at h1
 exact ⟨m', h1, h3⟩
theorem f29l5_eq (N : Nat) (ns : List Nt) (n : Nat) (hn : n ≤ 5) (hN : ns.length < N) (hl : ns.length < 1000000) (hok : ∀ x ∈ ns, okNt n x) {m : List Int} {R : (Nat → Int) → Prop} (hm : Tells m R) :
  ∃ m', f29l5 N N ns (ns.length : Int) 0 m = some m' ∧ Tells m' fun t => R t ∧ ∀ i, i < ns.length → NoteT (nt ns i) (t (plc (nt ns i)).toNat - t 5) := by
 obtain ⟨r, h1, m', h2, h3⟩ := loop_run (fun q (s : Nat × List Int) => f29l5 N q ns (ns.length : Int) (s.1 : Int) s.2)
  (fun s => s.1 ≤ ns.length ∧ Tells s.2 fun t => R t ∧ ∀ i, i < s.1 → NoteT (nt ns i) (t (plc (nt ns i)).toNat - t 5)) (fun s => ns.length - s.1)
  (fun r => ∃ m', r = m' ∧ Tells m' fun t => R t ∧ ∀ i, i < ns.length → NoteT (nt ns i) (t (plc (nt ns i)).toNat - t 5)) (by
   rintro q ⟨i, m1⟩ ⟨i1, i2⟩
   simp only at i1 i2 ⊢
   by_cases hi : i < ns.length
   ·right
    have hx : okNt n (nt ns i) := hok _ (by unfold nt; rw [List.getD_eq_getElem?_getD, List.getElem?_eq_getElem hi]; exact List.getElem_mem hi)
    obtain ⟨m2, e1, e2⟩ := note_eq N i2 hn hx (fun y => f29l5 N q ns (ns.length : Int) ((i + 1 : Nat) : Int) y)
    refine ⟨(i + 1, m2), ⟨hi, e2.congr fun t => ?_⟩, show ns.length - (i + 1) < ns.length - i by omega, ?_⟩
    ·constructor
     ·rintro ⟨⟨a, b⟩, c⟩
      refine ⟨a, fun j hj => ?_⟩
      rcases Nat.lt_or_ge j i with h | h
      ·exact b j h
      ·have : j = i := by omega
       subst this; exact c
     ·rintro ⟨a, b⟩
      exact ⟨⟨a, fun j hj => b j (by omega)⟩, b i (by omega)⟩
    ·show f29l5B N (f29l5 N q) ns (ns.length : Int) (i : Int) m1 = _
     unfold f29l5B
     simp only [show ((i : Int) < (ns.length : Int)) by omega, Int.natCast_nonneg, decide_true, Bool.and_true, if_true, Int.toNat_natCast, w_succ (show i < 4611686018427387904 by omega)]
     exact e1
   ·left
    have : i = ns.length := by omega
    subst this
    refine ⟨_, ?_, m1, rfl, i2⟩
    show f29l5B N (f29l5 N q) ns (ns.length : Int) (ns.length : Int) m1 = _
    unfold f29l5B
    rw [if_neg (by simp)]) N (0, m) ⟨Nat.zero_le _, hm.congr fun t => ⟨fun h => ⟨h, fun p hp => absurd hp (Nat.not_lt_zero _)⟩, fun h => h.1⟩⟩ (by simpa using hN)
 rw [h2] at h1
 exact ⟨m', h1, h3⟩
def Truth (hs : List Span) (ps : List Pr) (K : Nt → Prop) (t : Nat → Int) : Prop := Box hs t ∧ Prs ps t ∧ ∀ x, K x → NoteOk x t
def zt (t : Nat → Int) (a : Nat) : Int := if a = 5 then 0 else t a
structure Tight (n : Nat) (m : List Int) (T : (Nat → Int) → Prop) : Prop where
 len : m.length = 36
 up : ∀ t, T t → ∀ a b, (a < n ∨ a = 5) → (b < n ∨ b = 5) → zt t b - zt t a ≤ ent m a b
 att : ∀ a b, (a < n ∨ a = 5) → (b < n ∨ b = 5) → ∃ t, T t ∧ zt t b - zt t a = ent m a b
 all : ∀ a, (a < n ∨ a = 5) → ∃ t, T t ∧ ∀ b, (b < n ∨ b = 5) → zt t b - zt t a = ent m a b
 fine : Fine m
 to : ∀ t, T t → Sat m (fun a => if a < n then t a else 0)
 fro : ∀ t, Sat m t → T (fun a => t a - t 5)
theorem truth_shift {hs : List Span} {ps : List Pr} {K : Nt → Prop} {t t' : Nat → Int} {n : Nat} (hn : hs.length = n) (hp : ∀ q ∈ ps, okPr n q) (hK : ∀ x, K x → okNt n x) (h : ∀ p, p < n → t' p = t p) (ht : Truth hs ps K t) : Truth hs ps K t' := by
 refine ⟨fun p hp' => by rw [h p (by omega)]; exact ht.1 p hp', fun q hq => ?_, fun x hx => ?_⟩
 ·obtain ⟨o1, o2, o3, o4, _⟩ := hp q hq
  rw [h q.1.toNat (by omega), h q.2.1.toNat (by omega)]
  exact ht.2.1 q hq
 ·have : (plc x).toNat < n := by
   have := hK x hx
   cases x with
   | inl c => obtain ⟨o1, o2, _⟩ := this; show c.1.toNat < n; omega
   | inr s => obtain ⟨o1, o2, _⟩ := this; show s.1.toNat < n; omega
  unfold NoteOk
  rw [h _ this]
  exact ht.2.2 x hx
theorem gaps_spec (N : Nat) (w : Int) (hs : List Span) (ps : List Pr) (cs : List Cn) (ss : List Sg) (ns more : List Nt) (hN : 1000 ≤ N) (hn : 1 ≤ hs.length) (hn5 : hs.length ≤ 5) (hok : ∀ s ∈ hs, okSp s) (hp : ∀ q ∈ ps, okPr hs.length q)
  (hpl : ps.length ≤ 12) (hns : ∀ x ∈ ns, okNt hs.length x) (hnl : ns.length ≤ 24) (hmo : ∀ x ∈ more, okNt hs.length x) (hml : more.length ≤ 24) :
  ∃ m ok, f29 N hs ps cs ss ns w more = some (m, ok) ∧ (ok = true ↔ ∃ t, Truth hs ps (fun x => (∃ i, i < ns.length ∧ bitOff w i = true ∧ x = nt ns i) ∨ x ∈ more) t) ∧
   (ok = true → Tight hs.length m (Truth hs ps (fun x => (∃ i, i < ns.length ∧ bitOff w i = true ∧ x = nt ns i) ∨ x ∈ more))) := by
 have hKok : ∀ x, ((∃ i, i < ns.length ∧ bitOff w i = true ∧ x = nt ns i) ∨ x ∈ more) → okNt hs.length x := fun x hx => by
  rcases hx with ⟨i, hi, _, rfl⟩ | hx
  ·exact hns _ (by unfold nt; rw [List.getD_eq_getElem?_getD, List.getElem?_eq_getElem hi]; exact List.getElem_mem hi)
  ·exact hmo x hx
 generalize hT : Truth hs ps (fun x => (∃ i, i < ns.length ∧ bitOff w i = true ∧ x = nt ns i) ∨ x ∈ more) = T
 have hTd : ∀ t, T t ↔ Box hs t ∧ Prs ps t ∧ (∀ i, i < ns.length → bitOff w i = true → NoteOk (nt ns i) t) ∧ ∀ x ∈ more, NoteOk x t := fun t => by
  rw [← hT]
  constructor
  ·rintro ⟨a, b, c⟩
   exact ⟨a, b, fun i hi hb => c _ (.inl ⟨i, hi, hb, rfl⟩), fun x hx => c x (.inr hx)⟩
  ·rintro ⟨a, b, c, d⟩
   refine ⟨a, b, fun x hx => ?_⟩
   rcases hx with ⟨i, hi, hb, rfl⟩ | hx
   ·exact c i hi hb
   ·exact d x hx
 have hsh : ∀ t t' : Nat → Int, (∀ p, p < hs.length → t' p = t p) → T t → T t' := fun t t' h ht => by rw [← hT] at ht ⊢; exact truth_shift rfl hp hKok h ht
 obtain ⟨k, rfl⟩ : ∃ k, N = k + 10 := ⟨N - 10, by omega⟩
 obtain ⟨m1, e1, t1⟩ := f29l2_eq (k + 10) w more hs ps cs ss ns (by omega) hn5 hok init_tells
 obtain ⟨m2, e2, t2⟩ := f29l3_eq (k + 10) w more hs ps cs ss ns hs.length hn5 (by omega) (by omega) hp t1
 obtain ⟨m3, e3, t3⟩ := f29l4_eq (k + 10) w more ns hs.length hn5 (by omega) (by omega) hns t2
 obtain ⟨m4, e4, t4⟩ := f29l5_eq (k + 10) more hs.length hn5 (by omega) (by omega) hmo t3
 obtain ⟨ok, e5, h5⟩ := f50_eq (k + 10) m4 (by omega)
 obtain ⟨s1, s2, s3, s4⟩ := fw_spec t4.1.1 t4.1.2.1 t4.1.2.2
 -- what the matrix says is what the furnace says
 have to : ∀ t, T t → Sat m4 (fun a => if a < hs.length then t a else 0) := fun t ht => by
  rw [t4.2]
  obtain ⟨a, b, c, d⟩ := (hTd t).1 ht
  have hbx : ∀ p, p < hs.length → 0 ≤ t p ∧ t p ≤ 1000 := fun p hp' => by
   have h1 := a p hp'
   have h2 : okSp (sp hs p) := hok _ (by unfold sp; rw [List.getD_eq_getElem?_getD, List.getElem?_eq_getElem hp']; exact List.getElem_mem hp')
   obtain ⟨o1, o2, o3⟩ := h2
   omega
  have h50 : ¬ 5 < hs.length := by omega
  have hpl : ∀ x, okNt hs.length x → (plc x).toNat < hs.length := fun x hx => by
   cases x with
   | inl c => obtain ⟨o1, o2, _⟩ := hx; show c.1.toNat < hs.length; omega
   | inr s => obtain ⟨o1, o2, _⟩ := hx; show s.1.toNat < hs.length; omega
  refine ⟨⟨⟨⟨fun x y hx hy => ?_, fun p hp' => ?_⟩, fun q hq => ?_⟩, fun i hi hb => ?_⟩, fun i hi => ?_⟩
  ·have h1 := hbx x
   have h2 := hbx y
   show (if y < hs.length then t y else 0) - (if x < hs.length then t x else 0) ≤ 1048576
   split <;> split <;> omega
  ·simp only [if_pos hp', if_neg h50]
   have := a p hp'
   omega
  ·obtain ⟨o1, o2, o3, o4, _⟩ := hp q hq
   simp only [if_pos (show q.1.toNat < hs.length by omega), if_pos (show q.2.1.toNat < hs.length by omega)]
   exact b q hq
  ·have hx := hKok _ (.inl ⟨i, hi, hb, rfl⟩)
   simp only [if_pos (hpl _ hx), if_neg h50, Int.sub_zero]
   exact c i hi hb
  ·have hm : nt more i ∈ more := by unfold nt; rw [List.getD_eq_getElem?_getD, List.getElem?_eq_getElem hi]; exact List.getElem_mem hi
   simp only [if_pos (hpl _ (hmo _ hm)), if_neg h50, Int.sub_zero]
   exact d _ hm
 have fro : ∀ t, Sat m4 t → T (fun a => t a - t 5) := fun t ht => by
  rw [t4.2] at ht
  obtain ⟨⟨⟨⟨_, b⟩, c⟩, d⟩, e⟩ := ht
  refine (hTd _).2 ⟨b, fun q hq => ?_, d, fun x hx => ?_⟩
  ·have := c q hq
   show (t q.1.toNat - t 5) - (t q.2.1.toNat - t 5) ≤ q.2.2 ∧ (t q.2.1.toNat - t 5) - (t q.1.toNat - t 5) ≤ q.2.2
   omega
  ·obtain ⟨i, hi, e'⟩ := List.getElem_of_mem hx
   have := e i hi
   unfold nt at this
   rw [List.getD_eq_getElem?_getD, List.getElem?_eq_getElem hi] at this
   simp only [Option.getD_some, e'] at this
   exact this
 refine ⟨fw 6 m4, ok, ?_, ?_, fun hk => ?_⟩
 ·unfold f29
  have e0 := f29l0_eq k w more hs ps cs ss ns
  unfold zero6 at e0
  rw [e0, andThen_some]
  simp only [e1, e2, e3, e4, e5, andThen_some]
 ·rw [h5, s2]
  exact ⟨fun ⟨t, ht⟩ => ⟨_, fro t ht⟩, fun ⟨t, ht⟩ => ⟨_, to t ht⟩⟩
 ·have hd := h5.1 hk
  have hup : ∀ t, T t → ∀ a b, (a < hs.length ∨ a = 5) → (b < hs.length ∨ b = 5) → zt t b - zt t a ≤ ent (fw 6 m4) a b := fun t ht a b ha hb => by
   have := s3 _ (to t ht) a b (by omega) (by omega)
   have ez : ∀ x, (x < hs.length ∨ x = 5) → (if x < hs.length then t x else 0) = zt t x := fun x hx => by
    unfold zt
    by_cases h5 : x = 5
    ·rw [if_pos h5, if_neg (by omega)]
    ·rw [if_neg h5, if_pos (by omega)]
   simp only [ez a ha, ez b hb] at this
   exact this
  have hall : ∀ a, (a < hs.length ∨ a = 5) → ∃ t, T t ∧ ∀ b, (b < hs.length ∨ b = 5) → zt t b - zt t a = ent (fw 6 m4) a b := fun a ha => by
   obtain ⟨c1, c2⟩ := s4 hd a (by omega)
   refine ⟨_, fro _ c1, fun b hb => ?_⟩
   unfold zt
   by_cases hb5 : b = 5 <;> by_cases ha5 : a = 5
   ·subst hb5; subst ha5; simp [c2]
   ·subst hb5; simp [ha5, c2]
   ·subst ha5; simp [hb5, c2]
   ·simp [ha5, hb5, c2]
  have hle := fw_le t4.1.1 6 (Nat.le_refl _) 0 (by omega)
  refine ⟨s1, hup, fun a b ha hb => by obtain ⟨t, h1, h2⟩ := hall a ha; exact ⟨t, h1, h2 b hb⟩, hall, ⟨s1, fun a b ha hb => ?_, fun a ha => ?_⟩, fun t ht => s3 _ (to t ht), fun t ht => fro t fun a b ha hb => Int.le_trans (ht a b ha hb) (hle.2 a b ha hb)⟩
  ·obtain ⟨t, ht, _⟩ := hall 5 (.inr rfl)
   have h1 := s3 _ (to t ht) a b ha hb
   have h2 := hle.2 a b ha hb
   have h3 : ent (fw 0 m4) a b = ent m4 a b := rfl
   have h4 := (t4.1.2.1 a b ha hb).2
   have hbx : ∀ p, p < hs.length → 0 ≤ t p ∧ t p ≤ 1000 := fun p hp' => by
    have h1 := ((hTd t).1 ht).1 p hp'
    have h2 : okSp (sp hs p) := hok _ (by unfold sp; rw [List.getD_eq_getElem?_getD, List.getElem?_eq_getElem hp']; exact List.getElem_mem hp')
    obtain ⟨o1, o2, o3⟩ := h2
    omega
   have g1 := hbx a
   have g2 := hbx b
   have h1 : (if b < hs.length then t b else 0) - (if a < hs.length then t a else 0) ≤ ent (fw 6 m4) a b := h1
   split at h1 <;> split at h1 <;> omega
  ·exact Int.le_of_eq (s4 hd a ha).2
end Go.Pl


namespace Go.Pl
open Go.Al Go.Proofs
theorem search {R : Type} (L : Nat → Nat → Option R) (n : Nat) (p : Nat → Bool) (hit : Nat → R) (miss : R) (step : ∀ q i, i < n → L (q + 1) i = if p i = true then some (hit i) else L q (i + 1)) (stop : ∀ q, L (q + 1) n = some miss)
  (N : Nat) (hN : n < N) : (∃ i, i < n ∧ p i = true ∧ (∀ j, j < i → p j = false) ∧ L N 0 = some (hit i)) ∨ ((∀ i, i < n → p i = false) ∧ L N 0 = some miss) := by
 obtain ⟨r, h1, h2⟩ := loop_run L (fun i => i ≤ n ∧ ∀ j, j < i → p j = false) (fun i => n - i) (fun r => (∃ i, i < n ∧ p i = true ∧ (∀ j, j < i → p j = false) ∧ r = hit i) ∨ ((∀ i, i < n → p i = false) ∧ r = miss)) (fun q i hi => by
  by_cases h : i < n
  ·by_cases hp : p i = true
   ·left; exact ⟨hit i, by rw [step q i h, if_pos hp], .inl ⟨i, h, hp, hi.2, rfl⟩⟩
   ·right
    refine ⟨i + 1, ⟨h, fun j hj => ?_⟩, by omega, by rw [step q i h, if_neg hp]⟩
    rcases Nat.lt_or_ge j i with h' | h'
    ·exact hi.2 j h'
    ·have : j = i := by omega
     subst this; simpa using hp
  ·left
   have : i = n := by omega
   subst this
   exact ⟨miss, stop q, .inr ⟨hi.2, rfl⟩⟩) N 0 ⟨by omega, fun j hj => absurd hj (Nat.not_lt_zero _)⟩ (by simpa using hN)
 rcases h2 with ⟨i, a, b, c, rfl⟩ | ⟨a, rfl⟩
 ·exact .inl ⟨i, a, b, c, h1⟩
 ·exact .inr ⟨a, h1⟩
theorem getD_mem {α : Type} {l : List α} {d : α} {i : Nat} (hi : i < l.length) : l.getD i d ∈ l := by
 rw [List.getD_eq_getElem?_getD, List.getElem?_eq_getElem hi]; exact List.getElem_mem hi
theorem getD_of_mem {α : Type} {l : List α} {x : α} (d : α) (hx : x ∈ l) : ∃ i, i < l.length ∧ l.getD i d = x := by
 obtain ⟨i, hi, e⟩ := List.getElem_of_mem hx
 exact ⟨i, hi, by rw [List.getD_eq_getElem?_getD, List.getElem?_eq_getElem hi]; exact e⟩
theorem searchL {α R : Type} (l : List α) (d : α) (P : α → Bool) (L : Nat → Nat → Option R) (hit : Nat → R) (miss : R) (step : ∀ q i, i < l.length → L (q + 1) i = if P (l.getD i d) = true then some (hit i) else L q (i + 1)) (stop : ∀ q, L (q + 1) l.length = some miss)
  (N : Nat) (hN : l.length < N) : (∃ i, i < l.length ∧ l.any P = true ∧ L N 0 = some (hit i)) ∨ (l.any P = false ∧ L N 0 = some miss) := by
 rcases search L l.length (fun i => P (l.getD i d)) hit miss step stop N hN with ⟨i, h1, h2, _, h4⟩ | ⟨h1, h2⟩
 ·exact .inl ⟨i, h1, List.any_eq_true.2 ⟨_, getD_mem h1, h2⟩, h4⟩
 ·refine .inr ⟨?_, h2⟩
  rw [List.any_eq_false]
  intro x hx
  obtain ⟨i, hi, e⟩ := getD_of_mem d hx
  have := h1 i hi
  simp only [e] at this
  simp [this]
def inB (lo hi n : Int) : Bool := decide (lo ≤ n) && decide (n ≤ hi)
theorem f57_eq (N : Nat) (x lo hi : Int) : f57 N x lo hi = some (!inB lo hi x, lo, hi) := by
 unfold f57 inB
 by_cases h : x < lo
 ·have : ¬ lo ≤ x := by omega
  simp [h, this]
 ·have h' : lo ≤ x := by omega
  have e : decide (x > hi) = !decide (x ≤ hi) := by rw [← decide_not, decide_eq_decide]; omega
  simp [h, h', e]
theorem f74_eq (N : Nat) (l : List Int) (lo hi : Int) (hN : l.length < N) (hl : l.length < 1000000) : ∃ r, f74 N l lo hi = some (r, lo, hi) ∧ decide (r ≥ 0) = l.any fun n => !inB lo hi n := by
 unfold f74
 rcases searchL l (0 : Int) (fun n => !inB lo hi n) (fun q i => f74l0 N q l (l.length : Int) (i : Int) lo hi) (fun i => .inl ((i : Int), lo, hi)) (.inr (lo, hi)) (fun q i hi' => by
  show f74l0B N (f74l0 N q) l (l.length : Int) (i : Int) lo hi = _
  unfold f74l0B
  simp only [show ((i : Int) < (l.length : Int)) by omega, Int.natCast_nonneg, decide_true, Bool.and_true, if_true, Int.toNat_natCast, w_succ (show i < 4611686018427387904 by omega), f57_eq, andThen_some]) (fun q => by
  show f74l0B N (f74l0 N q) l (l.length : Int) (l.length : Int) lo hi = _
  unfold f74l0B
  rw [if_neg (by simp)]) N hN with ⟨i, hi', ha, hr⟩ | ⟨ha, hr⟩
 ·have hr : f74l0 N N l (l.length : Int) 0 lo hi = some (.inl ((i : Int), lo, hi)) := hr
  exact ⟨i, by rw [hr]; rfl, by rw [ha]; simp⟩
 ·have hr : f74l0 N N l (l.length : Int) 0 lo hi = some (.inr (lo, hi)) := hr
  exact ⟨-1, by rw [hr]; rfl, by rw [ha]; rfl⟩
theorem f33_eq (N : Nat) (l : List Int) (lo hi : Int) (hN : l.length < N) (hl : l.length < 1000000) : f33 N lo hi l = some (l.all (inB lo hi)) := by
 obtain ⟨r, h1, h2⟩ := f74_eq N l lo hi hN hl
 unfold f33 f54
 rw [h1, andThen_some, andThen_some, h2]
 simp [List.all_eq_not_any_not]
instance (s : Span) : Decidable (okSp s) := by unfold okSp; infer_instance
instance (n : Nat) (q : Pr) : Decidable (okPr n q) := by unfold okPr; infer_instance
instance (n : Nat) (q : Cn) : Decidable (okCn n q) := by unfold okCn; infer_instance
instance (s : Span) : Decidable (okWr s) := by unfold okWr; infer_instance
instance (n : Nat) (q : Sg) : Decidable (okSg n q) := by unfold okSg; infer_instance
theorem f38_eq (N : Nat) (s : Span) (hN : 100 ≤ N) : f38 N s.1 s.2 = some (!decide (okSp s)) := by
 unfold f38
 rw [f33_eq N _ _ _ (by simp; omega) (by simp)]
 simp only [andThen_some, List.all_cons, List.all_nil, inB, Bool.and_true]
 by_cases h1 : 0 ≤ s.1 <;> by_cases h2 : s.1 ≤ 1000 <;> by_cases h3 : 0 ≤ s.2 <;> by_cases h4 : s.2 ≤ 1000 <;> by_cases h5 : s.1 ≤ s.2 <;> simp [okSp, h1, h2, h3, h4, h5] <;> omega
theorem f39_eq (N : Nat) (l : List Int) (hs : List Span) (ps : List Pr) (cs : List Cn) (ss : List Sg) (hN : 100 ≤ N) (hl : l.length < 100) (hn : hs.length < 1000000) : f39 N l hs ps cs ss = some (l.all (inB 0 ((hs.length : Int) - 1)), hs, ps, cs, ss) := by
 unfold f39
 rw [w64_id (by omega) (by omega), f33_eq N _ _ _ (by omega) (by omega)]
 rfl
theorem f40_eq (N : Nat) (q : Pr) (hs : List Span) (ps : List Pr) (cs : List Cn) (ss : List Sg) (hN : 100 ≤ N) (hn : hs.length < 1000000) : f40 N q.1 q.2.1 q.2.2 hs ps cs ss = some (!decide (okPr hs.length q), hs, ps, cs, ss) := by
 unfold f40
 rw [f39_eq N _ _ _ _ _ hN (by simp) hn, f33_eq N _ _ _ (by simp; omega) (by simp)]
 simp only [andThen_some, List.all_cons, List.all_nil, inB, Bool.and_true]
 have e : ∀ x : Int, decide (x ≤ (hs.length : Int) - 1) = decide (x < (hs.length : Int)) := fun x => by rw [decide_eq_decide]; omega
 simp only [e, okPr]
 by_cases h1 : 0 ≤ q.1 <;> by_cases h2 : q.1 < hs.length <;> by_cases h3 : 0 ≤ q.2.1 <;> by_cases h4 : q.2.1 < hs.length <;> by_cases h5 : q.1 = q.2.1 <;> simp [h1, h2, h3, h4, h5]
theorem f41_eq (N : Nat) (q : Cn) (hs : List Span) (ps : List Pr) (cs : List Cn) (ss : List Sg) (hN : 100 ≤ N) (hn : hs.length < 1000000) : f41 N q.1 q.2.1 q.2.2 hs ps cs ss = some (!decide (okCn hs.length q), hs, ps, cs, ss) := by
 unfold f41
 rw [f39_eq N _ _ _ _ _ hN (by simp) hn, f33_eq N _ _ _ (by simp; omega) (by simp)]
 simp only [andThen_some, List.all_cons, List.all_nil, inB, Bool.and_true]
 have e : ∀ x : Int, decide (x ≤ (hs.length : Int) - 1) = decide (x < (hs.length : Int)) := fun x => by rw [decide_eq_decide]; omega
 simp only [e, okCn]
 by_cases h1 : 0 ≤ q.1 <;> by_cases h2 : q.1 < hs.length <;> simp [*]
theorem f19_eq (N : Nat) (w : Span) (hN : 100 ≤ N) : f19 N w.1 w.2 = some (decide (okWr w)) := by
 unfold f19
 rw [f33_eq N _ _ _ (by simp; omega) (by simp)]
 simp only [andThen_some, List.all_cons, List.all_nil, inB, Bool.and_true]
 by_cases h1 : 0 ≤ w.1 <;> by_cases h2 : w.1 ≤ 1000 <;> by_cases h3 : 0 ≤ w.2 <;> by_cases h4 : w.2 ≤ 1000 <;> by_cases h5 : w.1 < w.2 <;> simp [okWr, h1, h2, h3, h4, h5] <;> omega
theorem f42_eq (N : Nat) (q : Sg) (hs : List Span) (ps : List Pr) (cs : List Cn) (ss : List Sg) (hN : 100 ≤ N) (hn : hs.length < 1000000) : f42 N q.1 q.2.1.1 q.2.1.2 q.2.2 hs ps cs ss = some (!decide (okSg hs.length q), hs, ps, cs, ss) := by
 unfold f42
 rw [f39_eq N _ _ _ _ _ hN (by simp) hn, f19_eq N _ hN]
 simp only [andThen_some, List.all_cons, List.all_nil, inB, Bool.and_true]
 have e : ∀ x : Int, decide (x ≤ (hs.length : Int) - 1) = decide (x < (hs.length : Int)) := fun x => by rw [decide_eq_decide]; omega
 simp only [e, okSg]
 by_cases h1 : 0 ≤ q.1 <;> by_cases h2 : q.1 < hs.length <;> by_cases h3 : okWr q.2.1 <;> by_cases h4 : q.2.2 < 1 <;> by_cases h5 : q.2.2 > 3 <;> simp [h1, h2, h3, h4, h5] <;> omega
theorem any_all {α : Type} (l : List α) (P : α → Prop) [DecidablePred P] : (l.any fun x => !decide (P x)) = !decide (∀ x ∈ l, P x) := by
 rw [Bool.eq_iff_iff]
 simp
theorem f43_eq (N : Nat) (hs : List Span) (hN : 100 ≤ N) (hn : hs.length < 100) : f43 N hs = some (!decide (∀ s ∈ hs, okSp s)) := by
 unfold f43 f68
 rcases searchL hs ((0 : Int), (0 : Int)) (fun s => !decide (okSp s)) (fun q i => f68l0 N q hs (hs.length : Int) (i : Int)) (fun i => .inl (i : Int)) (.inr ()) (fun q i hi => by
  show f68l0B N (f68l0 N q) hs (hs.length : Int) (i : Int) = _
  unfold f68l0B
  simp only [show ((i : Int) < (hs.length : Int)) by omega, Int.natCast_nonneg, decide_true, Bool.and_true, if_true, Int.toNat_natCast, w_succ (show i < 4611686018427387904 by omega), f38_eq N _ hN, andThen_some]) (fun q => by
  show f68l0B N (f68l0 N q) hs (hs.length : Int) (hs.length : Int) = _
  unfold f68l0B
  rw [if_neg (by simp)]) N (by omega) with ⟨i, hi', ha, hr⟩ | ⟨ha, hr⟩
 ·have hr : f68l0 N N hs (hs.length : Int) 0 = some (.inl (i : Int)) := hr
  rw [hr, ← any_all, ha]; simp
 ·have hr : f68l0 N N hs (hs.length : Int) 0 = some (.inr ()) := hr
  rw [hr, ← any_all, ha]; rfl
theorem f44_eq (N : Nat) (l : List Pr) (hs : List Span) (ps : List Pr) (cs : List Cn) (ss : List Sg) (hN : 100 ≤ N) (hn : hs.length < 100) (hl : l.length < 100) : f44 N l hs ps cs ss = some (!decide (∀ q ∈ l, okPr hs.length q), hs, ps, cs, ss) := by
 unfold f44 f69
 rcases searchL l ((0 : Int), ((0 : Int), (0 : Int))) (fun s => !decide (okPr hs.length s)) (fun q i => f69l0 N q l (l.length : Int) (i : Int) hs ps cs ss) (fun i => .inl ((i : Int), hs, ps, cs, ss)) (.inr (hs, ps, cs, ss)) (fun q i hi => by
  show f69l0B N (f69l0 N q) l (l.length : Int) (i : Int) hs ps cs ss = _
  unfold f69l0B
  simp only [show ((i : Int) < (l.length : Int)) by omega, Int.natCast_nonneg, decide_true, Bool.and_true, if_true, Int.toNat_natCast, w_succ (show i < 4611686018427387904 by omega), f40_eq N _ _ _ _ _ hN (show hs.length < 1000000 by omega), andThen_some]) (fun q => by
  show f69l0B N (f69l0 N q) l (l.length : Int) (l.length : Int) hs ps cs ss = _
  unfold f69l0B
  rw [if_neg (by simp)]) N (by omega) with ⟨i, hi', ha, hr⟩ | ⟨ha, hr⟩
 ·have hr : f69l0 N N l (l.length : Int) 0 hs ps cs ss = some (.inl ((i : Int), hs, ps, cs, ss)) := hr
  rw [hr, ← any_all, ha]; simp
 ·have hr : f69l0 N N l (l.length : Int) 0 hs ps cs ss = some (.inr (hs, ps, cs, ss)) := hr
  rw [hr, ← any_all, ha]; rfl
theorem f45_eq (N : Nat) (l : List Cn) (hs : List Span) (ps : List Pr) (cs : List Cn) (ss : List Sg) (hN : 100 ≤ N) (hn : hs.length < 100) (hl : l.length < 100) : f45 N l hs ps cs ss = some (!decide (∀ q ∈ l, okCn hs.length q), hs, ps, cs, ss) := by
 unfold f45 f70
 rcases searchL l ((0 : Int), ((0 : Int), false)) (fun s => !decide (okCn hs.length s)) (fun q i => f70l0 N q l (l.length : Int) (i : Int) hs ps cs ss) (fun i => .inl ((i : Int), hs, ps, cs, ss)) (.inr (hs, ps, cs, ss)) (fun q i hi => by
  show f70l0B N (f70l0 N q) l (l.length : Int) (i : Int) hs ps cs ss = _
  unfold f70l0B
  simp only [show ((i : Int) < (l.length : Int)) by omega, Int.natCast_nonneg, decide_true, Bool.and_true, if_true, Int.toNat_natCast, w_succ (show i < 4611686018427387904 by omega), f41_eq N _ _ _ _ _ hN (show hs.length < 1000000 by omega), andThen_some]) (fun q => by
  show f70l0B N (f70l0 N q) l (l.length : Int) (l.length : Int) hs ps cs ss = _
  unfold f70l0B
  rw [if_neg (by simp)]) N (by omega) with ⟨i, hi', ha, hr⟩ | ⟨ha, hr⟩
 ·have hr : f70l0 N N l (l.length : Int) 0 hs ps cs ss = some (.inl ((i : Int), hs, ps, cs, ss)) := hr
  rw [hr, ← any_all, ha]; simp
 ·have hr : f70l0 N N l (l.length : Int) 0 hs ps cs ss = some (.inr (hs, ps, cs, ss)) := hr
  rw [hr, ← any_all, ha]; rfl
theorem f46_eq (N : Nat) (l : List Sg) (hs : List Span) (ps : List Pr) (cs : List Cn) (ss : List Sg) (hN : 100 ≤ N) (hn : hs.length < 100) (hl : l.length < 100) : f46 N l hs ps cs ss = some (!decide (∀ q ∈ l, okSg hs.length q), hs, ps, cs, ss) := by
 unfold f46 f71
 rcases searchL l ((0 : Int), (((0 : Int), (0 : Int)), (0 : Int))) (fun s => !decide (okSg hs.length s)) (fun q i => f71l0 N q l (l.length : Int) (i : Int) hs ps cs ss) (fun i => .inl ((i : Int), hs, ps, cs, ss)) (.inr (hs, ps, cs, ss)) (fun q i hi => by
  show f71l0B N (f71l0 N q) l (l.length : Int) (i : Int) hs ps cs ss = _
  unfold f71l0B
  simp only [show ((i : Int) < (l.length : Int)) by omega, Int.natCast_nonneg, decide_true, Bool.and_true, if_true, Int.toNat_natCast, w_succ (show i < 4611686018427387904 by omega), f42_eq N _ _ _ _ _ hN (show hs.length < 1000000 by omega), andThen_some]) (fun q => by
  show f71l0B N (f71l0 N q) l (l.length : Int) (l.length : Int) hs ps cs ss = _
  unfold f71l0B
  rw [if_neg (by simp)]) N (by omega) with ⟨i, hi', ha, hr⟩ | ⟨ha, hr⟩
 ·have hr : f71l0 N N l (l.length : Int) 0 hs ps cs ss = some (.inl ((i : Int), hs, ps, cs, ss)) := hr
  rw [hr, ← any_all, ha]; simp
 ·have hr : f71l0 N N l (l.length : Int) 0 hs ps cs ss = some (.inr (hs, ps, cs, ss)) := hr
  rw [hr, ← any_all, ha]; rfl
def chk (hs : List Span) (ps : List Pr) (cs : List Cn) (ss : List Sg) : Int :=
 if ¬ (1 ≤ hs.length ∧ hs.length ≤ 5) then 4 else if ¬ (∀ s ∈ hs, okSp s) then 4
 else if ¬ (ps.length ≤ 8) then 5 else if ¬ (cs.length ≤ 6) then 5 else if ¬ (ss.length ≤ 4) then 5
 else if ¬ (∀ q ∈ ps, okPr hs.length q) then 2 else if ¬ (∀ c ∈ cs, okCn hs.length c) then 2 else if ¬ (∀ s ∈ ss, okSg hs.length s) then 2 else 0
theorem f27_eq (N : Nat) (hs : List Span) (ps : List Pr) (cs : List Cn) (ss : List Sg) (hN : 100 ≤ N) (h1 : hs.length < 100) (h2 : ps.length < 100) (h3 : cs.length < 100) (h4 : ss.length < 100) : f27 N hs ps cs ss = some (chk hs ps cs ss) := by
 unfold f27 chk
 rw [f33_eq N _ _ _ (by simp; omega) (by simp), f43_eq N hs hN h1, f44_eq N ps hs ps cs ss hN h1 h2]
 simp only [andThen_some, f45_eq N cs hs ps cs ss hN h1 h3, f46_eq N ss hs ps cs ss hN h1 h4, List.all_cons, List.all_nil, inB, Bool.and_true]
 have d1 : decide ((ps.length : Int) > 8) = !decide (ps.length ≤ 8) := by rw [← decide_not, decide_eq_decide]; omega
 have d2 : decide ((cs.length : Int) > 6) = !decide (cs.length ≤ 6) := by rw [← decide_not, decide_eq_decide]; omega
 have d3 : decide ((ss.length : Int) > 4) = !decide (ss.length ≤ 4) := by rw [← decide_not, decide_eq_decide]; omega
 have d4 : (decide ((1 : Int) ≤ (hs.length : Int)) && decide ((hs.length : Int) ≤ 5)) = decide (1 ≤ hs.length ∧ hs.length ≤ 5) := by rw [← Bool.decide_and, decide_eq_decide]; omega
 rw [d1, d2, d3, d4]
 have ifn : ∀ (P : Prop) [Decidable P] (a b : Int), (if ¬ P then a else b) = (if (!decide P) = true then a else b) := fun P _ a b => by by_cases h : P <;> simp [h]
 simp only [ifn]
 generalize decide (1 ≤ hs.length ∧ hs.length ≤ 5) = b1
 generalize decide (∀ s ∈ hs, okSp s) = b2
 generalize decide (ps.length ≤ 8) = b3
 generalize decide (cs.length ≤ 6) = b4
 generalize decide (ss.length ≤ 4) = b5
 generalize decide (∀ q ∈ ps, okPr hs.length q) = b6
 generalize decide (∀ q ∈ cs, okCn hs.length q) = b7
 generalize decide (∀ q ∈ ss, okSg hs.length q) = b8
 cases b1 <;> cases b2 <;> cases b3 <;> cases b4 <;> cases b5 <;> cases b6 <;> cases b7 <;> cases b8 <;> rfl
theorem badSp_eq {R : Type} (s : Span) (a b : R) : (if (!inB 0 s.2 s.1) = false then (if decide (s.2 > 1000) = true then a else b) else a) = if (!decide (okSp s)) = true then a else b := by
 by_cases h1 : 0 ≤ s.1 ∧ s.1 ≤ s.2
 ·have e : inB 0 s.2 s.1 = true := by simp [inB, h1]
  rw [e, if_pos (show (!true) = false from rfl)]
  by_cases h3 : s.2 > 1000
  ·rw [if_pos (decide_eq_true h3), if_pos (by rw [decide_eq_false (by unfold okSp; omega)]; rfl)]
  ·rw [if_neg (fun h => h3 (of_decide_eq_true h)), if_neg (by rw [decide_eq_true (by unfold okSp; omega)]; decide)]
 ·have e : inB 0 s.2 s.1 = false := by
   rw [inB, ← Bool.decide_and]; exact decide_eq_false h1
  rw [e, if_neg (show ¬ (!false) = false by decide), if_pos (by rw [decide_eq_false (by unfold okSp; omega)]; rfl)]
structure Valid (hs : List Span) (ps : List Pr) (cs : List Cn) (ss : List Sg) : Prop where
 n1 : 1 ≤ hs.length
 n5 : hs.length ≤ 5
 h : ∀ s ∈ hs, okSp s
 p8 : ps.length ≤ 8
 c6 : cs.length ≤ 6
 s4 : ss.length ≤ 4
 p : ∀ q ∈ ps, okPr hs.length q
 c : ∀ c ∈ cs, okCn hs.length c
 s : ∀ s ∈ ss, okSg hs.length s
theorem chk_valid {hs : List Span} {ps : List Pr} {cs : List Cn} {ss : List Sg} : chk hs ps cs ss = 0 ↔ Valid hs ps cs ss := by
 unfold chk
 constructor
 ·intro h
  split at h; cases h
  split at h; cases h
  split at h; cases h
  split at h; cases h
  split at h; cases h
  split at h; cases h
  split at h; cases h
  split at h; cases h
  rename_i a b c d e f g i
  have a := Classical.not_not.1 a
  exact ⟨a.1, a.2, Classical.not_not.1 b, Classical.not_not.1 c, Classical.not_not.1 d, Classical.not_not.1 e, Classical.not_not.1 f, Classical.not_not.1 g, Classical.not_not.1 i⟩
 ·intro h
  rw [if_neg (not_not_intro ⟨h.n1, h.n5⟩), if_neg (not_not_intro h.h), if_neg (not_not_intro h.p8), if_neg (not_not_intro h.c6), if_neg (not_not_intro h.s4), if_neg (not_not_intro h.p), if_neg (not_not_intro h.c), if_neg (not_not_intro h.s)]
end Go.Pl


namespace Go.Pl
open Go.Al Go.Proofs
def nts (cs : List Cn) (ss : List Sg) : List Nt := cs.map Sum.inl ++ ss.map Sum.inr
theorem take_get {α : Type} (l : List α) (d : α) {i : Nat} (hi : i < l.length) : l.take (i + 1) = l.take i ++ [l.getD i d] := by
 rw [List.getD_eq_getElem?_getD, List.getElem?_eq_getElem hi, List.take_succ_eq_append_getElem hi]; rfl
theorem f28l0_eq (N : Nat) (l : List Cn) (a1 : List Span) (a2 : List Pr) (a3 : List Cn) (a4 : List Sg) (b1 : List Span) (b2 : List Pr) (b3 : List Cn) (b4 : List Sg) (b5 : List Nt) (c1 : List Span) (c2 : List Pr) (c3 : List Cn) (c4 : List Sg) (hN : l.length < N) (hl : l.length < 1000) :
  f28l0 N N l (l.length : Int) 0 a1 a2 a3 a4 b1 b2 b3 b4 b5 c1 c2 c3 c4 [] = some (a1, a2, a3, a4, b1, b2, b3, b4, b5, c1, c2, c3, c4, l.map Sum.inl) := by
 obtain ⟨r, h1, h2⟩ := loop_run (fun q (i : Nat) => f28l0 N q l (l.length : Int) (i : Int) a1 a2 a3 a4 b1 b2 b3 b4 b5 c1 c2 c3 c4 ((l.take i).map Sum.inl)) (fun i => i ≤ l.length) (fun i => l.length - i)
  (fun r => r = (a1, a2, a3, a4, b1, b2, b3, b4, b5, c1, c2, c3, c4, l.map Sum.inl)) (fun q i hi => by
   by_cases h : i < l.length
   ·right
    refine ⟨i + 1, h, by omega, ?_⟩
    show f28l0B N (f28l0 N q) l (l.length : Int) (i : Int) a1 a2 a3 a4 b1 b2 b3 b4 b5 c1 c2 c3 c4 ((l.take i).map Sum.inl) = _
    unfold f28l0B
    simp only [show ((i : Int) < (l.length : Int)) by omega, Int.natCast_nonneg, decide_true, Bool.and_true, if_true, Int.toNat_natCast, w_succ (show i < 4611686018427387904 by omega)]
    rw [if_pos (by simp [boundLen]; omega), take_get l ((0 : Int), ((0 : Int), false)) h, List.map_append]
    rfl
   ·left
    have : i = l.length := by omega
    subst this
    refine ⟨_, ?_, rfl⟩
    show f28l0B N (f28l0 N q) l (l.length : Int) (l.length : Int) a1 a2 a3 a4 b1 b2 b3 b4 b5 c1 c2 c3 c4 ((l.take l.length).map Sum.inl) = _
    unfold f28l0B
    rw [if_neg (by simp), List.take_length]) N 0 (Nat.zero_le _) (by simpa using hN)
 rw [h2] at h1
 exact h1
theorem f28l1_eq (N : Nat) (l : List Sg) (b1 : List Span) (b2 : List Pr) (b3 : List Cn) (b4 : List Sg) (b5 : List Nt) (c1 : List Span) (c2 : List Pr) (c3 : List Cn) (c4 : List Sg) (z : List Nt) (hN : l.length < N) (hl : l.length < 1000) (hz : z.length < 1000) :
  f28l1 N N l (l.length : Int) 0 b1 b2 b3 b4 b5 c1 c2 c3 c4 z = some (b1, b2, b3, b4, b5, c1, c2, c3, c4, z ++ l.map Sum.inr) := by
 obtain ⟨r, h1, h2⟩ := loop_run (fun q (i : Nat) => f28l1 N q l (l.length : Int) (i : Int) b1 b2 b3 b4 b5 c1 c2 c3 c4 (z ++ (l.take i).map Sum.inr)) (fun i => i ≤ l.length) (fun i => l.length - i)
  (fun r => r = (b1, b2, b3, b4, b5, c1, c2, c3, c4, z ++ l.map Sum.inr)) (fun q i hi => by
   by_cases h : i < l.length
   ·right
    refine ⟨i + 1, h, by omega, ?_⟩
    show f28l1B N (f28l1 N q) l (l.length : Int) (i : Int) b1 b2 b3 b4 b5 c1 c2 c3 c4 (z ++ (l.take i).map Sum.inr) = _
    unfold f28l1B
    simp only [show ((i : Int) < (l.length : Int)) by omega, Int.natCast_nonneg, decide_true, Bool.and_true, if_true, Int.toNat_natCast, w_succ (show i < 4611686018427387904 by omega)]
    rw [if_pos (by simp [boundLen]; omega), take_get l ((0 : Int), (((0 : Int), (0 : Int)), (0 : Int))) h, List.map_append, ← List.append_assoc]
    rfl
   ·left
    have : i = l.length := by omega
    subst this
    refine ⟨_, ?_, rfl⟩
    show f28l1B N (f28l1 N q) l (l.length : Int) (l.length : Int) b1 b2 b3 b4 b5 c1 c2 c3 c4 (z ++ (l.take l.length).map Sum.inr) = _
    unfold f28l1B
    rw [if_neg (by simp), List.take_length]) N 0 (Nat.zero_le _) (by simpa using hN)
 rw [h2] at h1
 simpa using h1
theorem f28_eq (N : Nat) (hs : List Span) (ps : List Pr) (cs : List Cn) (ss : List Sg) (hN : 100 ≤ N) (h3 : cs.length < 100) (h4 : ss.length < 100) : f28 N hs ps cs ss = some (hs, ps, cs, ss, nts cs ss) := by
 unfold f28
 rw [f28l0_eq N cs _ _ _ _ _ _ _ _ _ _ _ _ _ (by omega) (by omega), andThen_some]
 simp only
 rw [f28l1_eq N ss _ _ _ _ _ _ _ _ _ _ (by omega) (by omega) (by simp; omega), andThen_some]
 rfl
theorem nt_mem {ns : List Nt} {i : Nat} (hi : i < ns.length) : nt ns i ∈ ns := getD_mem hi
theorem nts_ok {hs : List Span} {ps : List Pr} {cs : List Cn} {ss : List Sg} (v : Valid hs ps cs ss) : ∀ x ∈ nts cs ss, okNt hs.length x := fun x hx => by
 rcases List.mem_append.1 hx with h | h
 ·obtain ⟨c, hc, rfl⟩ := List.mem_map.1 h; exact v.c c hc
 ·obtain ⟨c, hc, rfl⟩ := List.mem_map.1 h; exact v.s c hc
theorem nts_len (cs : List Cn) (ss : List Sg) : (nts cs ss).length = cs.length + ss.length := by simp [nts]
abbrev TruthO (hs : List Span) (ps : List Pr) (cs : List Cn) (ss : List Sg) : (Nat → Int) → Prop := Truth hs ps fun x => x ∈ nts cs ss
theorem Truth.congr {hs : List Span} {ps : List Pr} {K K' : Nt → Prop} (h : ∀ x, K x ↔ K' x) : Truth hs ps K = Truth hs ps K' := by
 have : K = K' := funext fun x => propext (h x)
 rw [this]
theorem f13_bad (N : Nat) (hs : List Span) (ps : List Pr) (cs : List Cn) (ss : List Sg) (hN : 100 ≤ N) (h1 : hs.length < 100) (h2 : ps.length < 100) (h3 : cs.length < 100) (h4 : ss.length < 100) (hc : chk hs ps cs ss ≠ 0) :
  f13 N hs ps cs ss = some ([], [], [], [], [], zero6, chk hs ps cs ss) := by
 unfold f13
 rw [f27_eq N hs ps cs ss hN h1 h2 h3 h4, andThen_some, if_pos (by simpa using hc)]
 rfl
theorem f13_eq (N : Nat) (hs : List Span) (ps : List Pr) (cs : List Cn) (ss : List Sg) (hN : 1000 ≤ N) (v : Valid hs ps cs ss) :
  ∃ m ok, f13 N hs ps cs ss = some (hs, ps, cs, ss, nts cs ss, m, if ok = true then 0 else 9) ∧ (ok = true ↔ ∃ t, TruthO hs ps cs ss t) ∧ (ok = true → Tight hs.length m (TruthO hs ps cs ss)) := by
 have n5 := v.n5
 have p8 := v.p8
 have c6 := v.c6
 have s4 := v.s4
 obtain ⟨m, ok, e1, e2, e3⟩ := gaps_spec N 0 hs ps cs ss (nts cs ss) [] hN v.n1 v.n5 v.h v.p (by omega) (nts_ok v) (by rw [nts_len]; omega) (fun x hx => by cases hx) (Nat.zero_le _)
 rw [Truth.congr (K' := fun x => x ∈ nts cs ss) fun x => by
  constructor
  ·rintro (⟨i, hi, _, rfl⟩ | h)
   ·exact nt_mem hi
   ·cases h
  ·intro h
   obtain ⟨i, hi, e⟩ := getD_of_mem (Sum.inl ((0 : Int), ((0 : Int), false))) h
   exact .inl ⟨i, hi, bitOff_zero i, e.symm⟩] at e2 e3
 refine ⟨m, ok, ?_, e2, e3⟩
 unfold f13
 rw [f27_eq N hs ps cs ss (by omega) (by omega) (by omega) (by omega) (by omega), andThen_some, chk_valid.2 v, if_neg (by decide), f28_eq N hs ps cs ss (by omega) (by omega) (by omega), andThen_some]
 simp only
 rw [e1, andThen_some]
 cases ok <;> rfl
def cz (n p : Nat) (v : Int) : Int := if p < n then v else 0
def hts (n : Nat) (m : List Int) : List Int := [cz n 0 (-ent m 0 5), cz n 0 (ent m 5 0), cz n 1 (-ent m 1 5), cz n 1 (ent m 5 1), cz n 2 (-ent m 2 5), cz n 2 (ent m 5 2), cz n 3 (-ent m 3 5), cz n 3 (ent m 5 3), cz n 4 (-ent m 4 5), cz n 4 (ent m 5 4)]
theorem hts_succ {m : List Int} {i : Nat} (hi : i < 5) : setRow (hts i m) (0 + i * 2) [-ent m i 5, ent m 5 i] = hts (i + 1) m := by
 have : i = 0 ∨ i = 1 ∨ i = 2 ∨ i = 3 ∨ i = 4 := by omega
 rcases this with rfl | rfl | rfl | rfl | rfl <;> rfl
theorem f14_eq (N : Nat) (hs : List Span) (ps : List Pr) (cs : List Cn) (ss : List Sg) (ns : List Nt) (m : List Int) (hN : 100 ≤ N) (hn : hs.length ≤ 5) (hb : ∀ p, p < hs.length → -10000 ≤ ent m p 5 ∧ ent m p 5 ≤ 10000) :
  f14 N hs ps cs ss ns m = some (hts hs.length m) := by
 obtain ⟨r, h1, h2⟩ := loop_run (fun q (i : Nat) => f14l0 N q (hs.length : Int) (i : Int) m (hts i m)) (fun i => i ≤ hs.length) (fun i => hs.length - i) (fun r => r = hts hs.length m) (fun q i hi => by
   by_cases h : i < hs.length
   ·right
    refine ⟨i + 1, h, by omega, ?_⟩
    show f14l0B N (f14l0 N q) (hs.length : Int) (i : Int) m (hts i m) = _
    unfold f14l0B
    have hb := hb i h
    have e : Go.IntKind.wrap .i64 (0 - List.getD m (0 + i * 6 + 5) 0) = -ent m i 5 := by
     have e2 : List.getD m (0 + i * 6 + 5) 0 = ent m i 5 := by unfold ent; rw [Nat.zero_add]
     rw [e2, w64_id (by omega) (by omega)]; omega
    have e3 : List.getD m (30 + i * 1) 0 = ent m 5 i := by unfold ent; rw [Nat.mul_one]
    simp only [show ((i : Int) < (hs.length : Int)) by omega, show ((i : Int) < 6) by omega, show ((i : Int) < 5) by omega, Int.natCast_nonneg, decide_true, Bool.and_true, if_true, Int.toNat_natCast, w_succ (show i < 4611686018427387904 by omega)]
    rw [e, e3, hts_succ (by omega)]
    rfl
   ·left
    have : i = hs.length := by omega
    subst this
    refine ⟨_, ?_, rfl⟩
    show f14l0B N (f14l0 N q) (hs.length : Int) (hs.length : Int) m (hts hs.length m) = _
    unfold f14l0B
    rw [if_neg (by simp)]) N 0 (Nat.zero_le _) (by simp; omega)
 rw [h2] at h1
 unfold f14
 have h1 : f14l0 N N (hs.length : Int) 0 m [0, 0, 0, 0, 0, 0, 0, 0, 0, 0] = some (hts hs.length m) := h1
 rw [h1]; rfl
def spn (n : Nat) (m : List Int) : List Span := (List.range n).map fun p => (-ent m p 5, ent m 5 p)
@[simp] theorem spn_len (n : Nat) (m : List Int) : (spn n m).length = n := by simp [spn]
theorem sp_spn {n p : Nat} {m : List Int} (hp : p < n) : sp (spn n m) p = (-ent m p 5, ent m 5 p) := by
 unfold sp spn
 rw [List.getD_eq_getElem?_getD]
 simp [hp]
theorem cut_hts {n : Nat} {m : List Int} (h1 : 1 ≤ n) (h5 : n ≤ 5) :
  cut [((hts n m).getD 0 0, (hts n m).getD 1 0), ((hts n m).getD 2 0, (hts n m).getD 3 0), ((hts n m).getD 4 0, (hts n m).getD 5 0), ((hts n m).getD 6 0, (hts n m).getD 7 0), ((hts n m).getD 8 0, (hts n m).getD 9 0)] 0 n = spn n m := by
 have : n = 1 ∨ n = 2 ∨ n = 3 ∨ n = 4 ∨ n = 5 := by omega
 rcases this with rfl | rfl | rfl | rfl | rfl <;> rfl
theorem tight_bd {n : Nat} {m : List Int} {hs : List Span} {ps : List Pr} {K : Nt → Prop} (h : Tight n m (Truth hs ps K)) (hn : hs.length = n) (hn5 : n ≤ 5) (hok : ∀ s ∈ hs, okSp s) : ∀ a b, (a < n ∨ a = 5) → (b < n ∨ b = 5) → -1000 ≤ ent m a b ∧ ent m a b ≤ 1000 := fun a b ha hb => by
 obtain ⟨t, ht, e⟩ := h.att a b ha hb
 have hz : ∀ x, (x < n ∨ x = 5) → 0 ≤ zt t x ∧ zt t x ≤ 1000 := fun x hx => by
  unfold zt
  by_cases h5 : x = 5
  ·rw [if_pos h5]; omega
  ·rw [if_neg h5]
   have h1 := ht.1 x (by omega)
   have h2 : okSp (sp hs x) := hok _ (getD_mem (by omega))
   obtain ⟨o1, o2, o3⟩ := h2
   omega
 have := hz a ha
 have := hz b hb
 omega
theorem f6_bad (N : Nat) (hs : List Span) (ps : List Pr) (cs : List Cn) (ss : List Sg) (hN : 100 ≤ N) (h1 : hs.length < 100) (h2 : ps.length < 100) (h3 : cs.length < 100) (h4 : ss.length < 100) (hc : chk hs ps cs ss ≠ 0) :
  f6 N hs ps cs ss = some ([], chk hs ps cs ss) := by
 unfold f6
 rw [f13_bad N hs ps cs ss hN h1 h2 h3 h4 hc, andThen_some]
 simp only
 rw [if_pos (by simpa using hc)]
theorem f6_no (N : Nat) (hs : List Span) (ps : List Pr) (cs : List Cn) (ss : List Sg) (hN : 1000 ≤ N) (v : Valid hs ps cs ss) (ht : ¬ ∃ t, TruthO hs ps cs ss t) : f6 N hs ps cs ss = some ([], 9) := by
 obtain ⟨m, ok, e1, e2, e3⟩ := f13_eq N hs ps cs ss hN v
 have : ok = false := by
  cases ok with
  | false => rfl
  | true => exact absurd (e2.1 rfl) ht
 subst this
 unfold f6
 rw [e1, andThen_some]
 rfl
theorem f6_yes (N : Nat) (hs : List Span) (ps : List Pr) (cs : List Cn) (ss : List Sg) (hN : 1000 ≤ N) (v : Valid hs ps cs ss) (ht : ∃ t, TruthO hs ps cs ss t) :
  ∃ m, f13 N hs ps cs ss = some (hs, ps, cs, ss, nts cs ss, m, 0) ∧ Tight hs.length m (TruthO hs ps cs ss) ∧ f14 N hs ps cs ss (nts cs ss) m = some (hts hs.length m) ∧ f6 N hs ps cs ss = some (spn hs.length m, 0) := by
 obtain ⟨m, ok, e1, e2, e3⟩ := f13_eq N hs ps cs ss hN v
 have := e2.2 ht
 subst this
 have ht := e3 rfl
 have n1 := v.n1
 have n5 := v.n5
 have e4 := f14_eq N hs ps cs ss (nts cs ss) m (by omega) n5 fun p hp => by have := tight_bd ht rfl n5 v.h p 5 (.inl hp) (.inr rfl); omega
 refine ⟨m, e1, ht, e4, ?_⟩
 unfold f6
 rw [e1, andThen_some]
 simp only
 rw [if_neg (by decide), e4, andThen_some]
 simp only [Int.natCast_nonneg, show ((hs.length : Int) ≤ 5) by omega, Int.le_refl, decide_true, Bool.and_true, if_true, Int.toNat_natCast, show Int.toNat (0 : Int) = 0 from rfl]
 rw [cut_hts n1 n5]
 unfold f15
 rw [if_neg (by simp), if_pos (by simp [boundLen]; omega), andThen_some]
 rfl
end Go.Pl


namespace Go.Pl
open Go.Al Go.Proofs
theorem loop_all {R : Type} (L : Nat → Nat → Option R) (n : Nat) (r : R) (step : ∀ q i, i < n → L (q + 1) i = L q (i + 1)) (stop : ∀ q, L (q + 1) n = some r) (N : Nat) (hN : n < N) : L N 0 = some r := by
 obtain ⟨r', h1, h2⟩ := loop_run L (fun i => i ≤ n) (fun i => n - i) (fun x => x = r) (fun q i hi => by
  by_cases h : i < n
  ·right; exact ⟨i + 1, h, by omega, step q i h⟩
  ·left
   have : i = n := by omega
   subst this
   exact ⟨r, stop q, rfl⟩) N 0 (Nat.zero_le _) (by simpa using hN)
 rw [h2] at h1; exact h1
end Go.Pl


namespace Go.Pl
open Go.Al Go.Proofs
def filt (P : Nat → Bool) (n : Nat) : List Int := ((List.range n).filter P).map fun i : Nat => (i : Int)
theorem filt_succ (P : Nat → Bool) (n : Nat) : filt P (n + 1) = if P n = true then filt P n ++ [(n : Int)] else filt P n := by
 unfold filt
 rw [List.range_succ, List.filter_append, List.map_append]
 by_cases h : P n = true <;> simp [h]
theorem filt_len (P : Nat → Bool) (n : Nat) : (filt P n).length ≤ n := by
 unfold filt
 rw [List.length_map]
 have := List.length_filter_le P (List.range n)
 simpa using this
theorem filt_congr {P P' : Nat → Bool} (n : Nat) (h : ∀ i, i < n → P i = P' i) : filt P n = filt P' n := by
 unfold filt
 congr 1
 refine List.filter_congr fun i hi => h i (by simpa using hi)
def goodS (w s : Span) : Bool := decide (w.1 ≤ s.1) && decide (s.2 < w.2)
def goodP (w s : Span) : Bool := decide (w.1 ≤ s.2) && decide (s.1 < w.2)
theorem f22_eq (N : Nat) (w s : Span) : f22 N w.1 w.2 s.1 s.2 = some (goodS w s, goodP w s) := by
 unfold f22 goodS goodP
 by_cases h1 : w.1 ≤ s.1 <;> by_cases h2 : w.1 ≤ s.2 <;> simp [h1, h2]
theorem hts_get {n i : Nat} {m : List Int} (hi : i < n) (hn : n ≤ 5) : (hts n m).getD (0 + i * 2 + 0) 0 = -ent m i 5 ∧ (hts n m).getD (0 + i * 2 + 1) 0 = ent m 5 i := by
 have : i = 0 ∨ i = 1 ∨ i = 2 ∨ i = 3 ∨ i = 4 := by omega
 rcases this with rfl | rfl | rfl | rfl | rfl <;> simp [hts, cz, hi]
theorem f20_eq (N : Nat) (hs : List Span) (ps : List Pr) (cs : List Cn) (ss : List Sg) (ns : List Nt) (w : Span) (m : List Int) (hN : 100 ≤ N) (hn : hs.length ≤ 5) :
  f20 N hs ps cs ss ns w.1 w.2 (hts hs.length m) = some (filt (fun p => goodS w (sp (spn hs.length m) p)) hs.length, filt (fun p => goodP w (sp (spn hs.length m) p)) hs.length, w.1, w.2, hts hs.length m) := by
 generalize hG : (fun p => goodS w (sp (spn hs.length m) p)) = G
 generalize hH : (fun p => goodP w (sp (spn hs.length m) p)) = H
 obtain ⟨r, h1, h2⟩ := loop_run (fun q (i : Nat) => f20l0 N q (filt G i) (filt H i) (hs.length : Int) (i : Int) w.1 w.2 (hts hs.length m)) (fun i => i ≤ hs.length) (fun i => hs.length - i)
  (fun r => r = (filt G hs.length, filt H hs.length, w.1, w.2, hts hs.length m)) (fun q i hi => by
   by_cases h : i < hs.length
   ·right
    refine ⟨i + 1, h, by omega, ?_⟩
    show f20l0B N (f20l0 N q) (filt G i) (filt H i) (hs.length : Int) (i : Int) w.1 w.2 (hts hs.length m) = _
    unfold f20l0B
    have e : f21 N (i : Int) w.1 w.2 (hts hs.length m) = some (G i, H i, w.1, w.2, hts hs.length m) := by
     unfold f21
     have := hts_get (m := m) h hn
     simp only [show ((i : Int) < 5) by omega, Int.natCast_nonneg, decide_true, Bool.and_true, if_true, Int.toNat_natCast]
     rw [this.1, this.2, ← hG, ← hH]
     have e := f22_eq N w (sp (spn hs.length m) i)
     rw [sp_spn h] at e
     simp only at e
     simp only [e, sp_spn h, andThen_some]
    have hg := filt_len G i
    have hh := filt_len H i
    have b1 : Nat.ble ((filt G i).length + [(i : Int)].length) boundLen = true := by simp [boundLen]; omega
    have b2 : Nat.ble ((filt H i).length + [(i : Int)].length) boundLen = true := by simp [boundLen]; omega
    simp only [show ((i : Int) < (hs.length : Int)) by omega, decide_true, if_true, e, andThen_some, w_succ (show i < 4611686018427387904 by omega), b1, b2]
    rw [filt_succ, filt_succ]
    cases G i <;> cases H i <;> rfl
   ·left
    have : i = hs.length := by omega
    subst this
    refine ⟨_, ?_, rfl⟩
    show f20l0B N (f20l0 N q) (filt G hs.length) (filt H hs.length) (hs.length : Int) (hs.length : Int) w.1 w.2 (hts hs.length m) = _
    unfold f20l0B
    rw [if_neg (by simp)]) N 0 (Nat.zero_le _) (by simp; omega)
 rw [h2] at h1
 unfold f20
 have h1 : f20l0 N N [] [] (hs.length : Int) 0 w.1 w.2 (hts hs.length m) = some (filt G hs.length, filt H hs.length, w.1, w.2, hts hs.length m) := h1
 rw [h1]; rfl
theorem f10_bad (N : Nat) (hs : List Span) (ps : List Pr) (cs : List Cn) (ss : List Sg) (w : Span) (hN : 100 ≤ N) (h1 : hs.length < 100) (h2 : ps.length < 100) (h3 : cs.length < 100) (h4 : ss.length < 100) (hc : chk hs ps cs ss ≠ 0) :
  f10 N hs ps cs ss w.1 w.2 = some ([], [], chk hs ps cs ss) := by
 unfold f10
 rw [f13_bad N hs ps cs ss hN h1 h2 h3 h4 hc, andThen_some]
 simp only
 rw [if_pos (by simpa using hc)]
theorem f10_no (N : Nat) (hs : List Span) (ps : List Pr) (cs : List Cn) (ss : List Sg) (w : Span) (hN : 1000 ≤ N) (v : Valid hs ps cs ss) (ht : ¬ ∃ t, TruthO hs ps cs ss t) : f10 N hs ps cs ss w.1 w.2 = some ([], [], 9) := by
 obtain ⟨m, ok, e1, e2, e3⟩ := f13_eq N hs ps cs ss hN v
 have : ok = false := by
  cases ok with
  | false => rfl
  | true => exact absurd (e2.1 rfl) ht
 subst this
 unfold f10
 rw [e1, andThen_some]
 rfl
theorem f10_yes (N : Nat) (hs : List Span) (ps : List Pr) (cs : List Cn) (ss : List Sg) (w : Span) (hN : 1000 ≤ N) (v : Valid hs ps cs ss) {m : List Int} (hm : f13 N hs ps cs ss = some (hs, ps, cs, ss, nts cs ss, m, 0)) (hh : f14 N hs ps cs ss (nts cs ss) m = some (hts hs.length m)) :
  f10 N hs ps cs ss w.1 w.2 = some (if okWr w then (filt (fun p => goodS w (sp (spn hs.length m) p)) hs.length, filt (fun p => goodP w (sp (spn hs.length m) p)) hs.length, 0) else ([], [], 2)) := by
 unfold f10
 rw [hm, andThen_some]
 simp only
 rw [if_neg (by decide), f19_eq N w (by omega), andThen_some]
 by_cases hw : okWr w
 ·rw [if_neg (by rw [decide_eq_true hw]; decide), if_pos hw, hh, andThen_some, f20_eq N hs ps cs ss (nts cs ss) w m (by omega) v.n5, andThen_some]
 ·rw [if_pos (by rw [decide_eq_false hw]; rfl), if_neg hw]
end Go.Pl


namespace Go.Pl
open Go.Al Go.Proofs
theorem dd {p q : Prop} [Decidable p] [Decidable q] (hp : p) (hq : q) : (decide p && decide q) = true := by simp [hp, hq]
theorem d1 {p : Prop} [Decidable p] (hp : p) : decide p = true := decide_eq_true hp
theorem dn {p : Prop} [Decidable p] (hp : ¬ p) : ¬ decide p = true := by simp [hp]
abbrev V2 := Int × Int
def byte2 (v : V2) : Prop := 0 ≤ v.1 ∧ v.1 ≤ 255 ∧ 0 ≤ v.2 ∧ v.2 ≤ 255
def hot (v : V2) : Int := 700 + v.1
def spanV (v : V2) : Span := (hot v - v.2 % 32, hot v + v.2 / 8)
def mostV (t : Int) (v : V2) : Int := (if t - hot v > hot v - t then t - hot v else hot v - t) + v.2 % 8
def tr (T : List Int) (i : Nat) : Int := T.getD i 0
def pairsV (ps : List Pr) (T : List Int) (i : Nat) (v : V2) : List Pr := if i = 0 then ps else ps ++ [((i : Int) - 1, (i : Int), mostV (tr T (i - 1)) v)]
structure MadeO (i : Nat) (T : List Int) (hs : List Span) (ps : List Pr) : Prop where
 le : i ≤ 4
 lt : T.length = i
 lh : hs.length = i
 lp : ps.length ≤ i
 t : ∀ p, p < i → 700 ≤ tr T p ∧ tr T p ≤ 955 ∧ (sp hs p).1 ≤ tr T p ∧ tr T p ≤ (sp hs p).2 ∧ okSp (sp hs p)
 p : ∀ q ∈ ps, okPr i q ∧ tr T q.1.toNat - tr T q.2.1.toNat ≤ q.2.2 ∧ tr T q.2.1.toNat - tr T q.1.toNat ≤ q.2.2
theorem tr_append (T : List Int) (a : Int) (j : Nat) : tr (T ++ [a]) j = if j < T.length then tr T j else if j = T.length then a else 0 := by
 unfold tr
 simp only [List.getD_eq_getElem?_getD]
 by_cases h : j < T.length
 ·rw [if_pos h, List.getElem?_append_left h]
 ·rw [if_neg h, List.getElem?_append_right (by omega)]
  by_cases e : j = T.length
  ·subst e; simp
  ·rw [if_neg e]
   obtain ⟨k, hk⟩ : ∃ k, j - T.length = k + 1 := ⟨j - T.length - 1, by omega⟩
   rw [hk]; rfl
theorem sp_append (T : List Span) (a : Span) (j : Nat) : sp (T ++ [a]) j = if j < T.length then sp T j else if j = T.length then a else (0, 0) := by
 unfold sp
 simp only [List.getD_eq_getElem?_getD]
 by_cases h : j < T.length
 ·rw [if_pos h, List.getElem?_append_left h]
 ·rw [if_neg h, List.getElem?_append_right (by omega)]
  by_cases e : j = T.length
  ·subst e; simp
  ·rw [if_neg e]
   obtain ⟨k, hk⟩ : ∃ k, j - T.length = k + 1 := ⟨j - T.length - 1, by omega⟩
   rw [hk]; rfl
theorem MadeO.step {i : Nat} {T : List Int} {hs : List Span} {ps : List Pr} (m : MadeO i T hs ps) (hi : i < 4) {v : V2} (hv : byte2 v) : MadeO (i + 1) (T ++ [hot v]) (hs ++ [spanV v]) (pairsV ps T i v) := by
 have m1 := m.lt; have m2 := m.lh; have m3 := m.lp
 unfold byte2 at hv
 have hh : hot v = 700 + v.1 := rfl
 refine ⟨by omega, by simp [m1], by simp [m2], by unfold pairsV; split; (· omega); (· simp; omega), fun p hp => ?_, fun q hq => ?_⟩
 ·rw [tr_append, sp_append, m1, m2]
  by_cases h : p < i
  ·rw [if_pos h, if_pos h]; exact m.t p h
  ·have : p = i := by omega
   subst this
   simp only [Nat.lt_irrefl, if_false, if_true]
   unfold okSp spanV
   rw [hh]; simp only
   omega
 ·have old : q ∈ ps → _ := fun h => by
   obtain ⟨a, b, c⟩ := m.p q h
   have a' := a
   unfold okPr at a
   have e1 : tr (T ++ [hot v]) q.1.toNat = tr T q.1.toNat := by rw [tr_append, m1, if_pos (by omega)]
   have e2 : tr (T ++ [hot v]) q.2.1.toNat = tr T q.2.1.toNat := by rw [tr_append, m1, if_pos (by omega)]
   show okPr (i + 1) q ∧ tr (T ++ [hot v]) q.1.toNat - tr (T ++ [hot v]) q.2.1.toNat ≤ q.2.2 ∧ tr (T ++ [hot v]) q.2.1.toNat - tr (T ++ [hot v]) q.1.toNat ≤ q.2.2
   rw [e1, e2]
   refine ⟨?_, b, c⟩
   unfold okPr
   omega
  unfold pairsV at hq
  by_cases e : i = 0
  ·rw [if_pos e] at hq; exact old hq
  ·rw [if_neg e] at hq
   rcases List.mem_append.1 hq with h | h
   ·exact old h
   ·simp at h; subst h
    have e1 : tr (T ++ [hot v]) ((i : Int) - 1).toNat = tr T (i - 1) := by
     rw [show ((i : Int) - 1).toNat = i - 1 by omega, tr_append, m1, if_pos (by omega)]
    have e2 : tr (T ++ [hot v]) ((i : Int)).toNat = hot v := by
     rw [Int.toNat_natCast, tr_append, m1, if_neg (by omega), if_pos rfl]
    have := m.t (i - 1) (by omega)
    simp only
    rw [e1, e2]
    unfold okPr mostV
    simp only
    rw [hh]
    split <;> omega
theorem g20 (a b : Int) : List.getD [a, b] 0 0 = a := rfl
theorem g21 (a b : Int) : List.getD [a, b] 1 0 = b := rfl
theorem f5_eq (N : Nat) (a b : Int) : f5 N a b = some (a, b) := rfl
theorem f4_step (N q : Nat) (x y : List V2) (i : Nat) (T : List Int) (hs hs4 : List Span) (ps ps4 : List Pr) (c c4 : List Cn) (s s4 : List Sg) (m : MadeO i T hs ps) (hi : i < 4) (hx : ∀ v ∈ x, byte2 v) (hgo : i = 0 ∨ i < x.length) :
  ∃ v, byte2 v ∧ f4l0 N (q + 1) T (i : Int) x y hs4 ps4 c4 s4 hs ps c s = f4l0 N q (T ++ [hot v]) ((i + 1 : Nat) : Int) x y hs4 ps4 c4 s4 (hs ++ [spanV v]) (pairsV ps T i v) c s := by
 have m1 := m.lt; have m2 := m.lh; have m3 := m.lp
 have c0 : (decide ((0 : Int) ≤ 0) && decide ((0 : Int) < 2)) = true := by decide
 have c1 : (decide ((0 : Int) ≤ 1) && decide ((1 : Int) < 2)) = true := by decide
 have c32 : ((32 : Int) != 0) = true := by decide
 have c8 : ((8 : Int) != 0) = true := by decide
 have b1 : ∀ a : Int, Nat.ble (T.length + ([a] : List Int).length) boundLen = true := fun p => by rw [Nat.ble_eq]; simp; unfold boundLen; omega
 have b2 : ∀ a : Span, Nat.ble (hs.length + ([a] : List Span).length) boundLen = true := fun p => by rw [Nat.ble_eq]; simp; unfold boundLen; omega
 have b3 : ∀ a : Pr, Nat.ble (ps.length + ([a] : List Pr).length) boundLen = true := fun p => by rw [Nat.ble_eq]; simp; unfold boundLen; omega
 have key : ∀ v : V2, byte2 v → Go.IntKind.wrap .i64 v.1 = v.1 ∧ Go.IntKind.wrap .i64 v.2 = v.2 ∧ Go.IntKind.wrap .i64 (700 + v.1) = hot v ∧ Int.tmod v.2 32 = v.2 % 32 ∧ Int.tmod v.2 8 = v.2 % 8 ∧ Int.tdiv v.2 8 = v.2 / 8 ∧
   Go.IntKind.wrap .i64 (hot v - v.2 % 32) = hot v - v.2 % 32 ∧ Go.IntKind.wrap .i64 (v.2 / 8) = v.2 / 8 ∧ Go.IntKind.wrap .i64 (hot v + v.2 / 8) = hot v + v.2 / 8 := fun v hv => by
  unfold byte2 at hv
  have hh : hot v = 700 + v.1 := rfl
  refine ⟨w64_id (by omega) (by omega), w64_id (by omega) (by omega), w64_id (by omega) (by omega), Int.tmod_eq_emod_of_nonneg (by omega), Int.tmod_eq_emod_of_nonneg (by omega), Int.tdiv_eq_ediv_of_nonneg (by omega),
   w64_id (by omega) (by omega), w64_id (by omega) (by omega), w64_id (by omega) (by omega)⟩
 have hd : byte2 ((100 : Int), (90 : Int)) := by unfold byte2; decide
 have ws := w_succ (show i < 4611686018427387904 by omega)
 by_cases hlt : i < x.length
 ·refine ⟨x.getD i (0, 0), hx _ (getD_mem hlt), ?_⟩
  have hv := hx _ (getD_mem (d := ((0 : Int), (0 : Int))) hlt)
  obtain ⟨l1, l2, l3, l4, l5, l6, l7, l8, l9⟩ := key _ hv
  show f4l0B N (f4l0 N q) T (i : Int) x y hs4 ps4 c4 s4 hs ps c s = _
  unfold f4l0B
  have hix : (decide ((0 : Int) ≤ (i : Int)) && decide ((i : Int) < (x.length : Int))) = true := dd (by omega) (by omega)
  have hi4 : decide ((i : Int) < 4) = true := d1 (by omega)
  have hil : decide ((i : Int) < (x.length : Int)) = true := d1 (by omega)
  generalize hV : x.getD i (0, 0) = V at *
  by_cases e : i = 0
  ·subst e
   rw [if_neg (by simp)]
   simp only [g20, g21, c0, c1, c32, c8, hix, hi4, hil, f5_eq, andThen_some, Int.toNat_natCast, hV, if_true, l1, l2, l3, l4, l5, l6, l7, l8, l9, b1, b2, ws]
   rfl
  ·have t1 := m.t (i - 1) (by omega)
   have eb : ((i : Int) == 0) = false := by simp; omega
   have hg : decide ((i : Int) > 0) = true := d1 (by omega)
   have w1 : Go.IntKind.wrap .i64 ((i : Int) - 1) = (i : Int) - 1 := w64_id (by omega) (by omega)
   have w2 : ((i : Int) - 1).toNat = i - 1 := by omega
   have hin : (decide ((0 : Int) ≤ (i : Int) - 1) && decide ((i : Int) - 1 < ((T ++ [hot V]).length : Int))) = true := dd (by omega) (by simp; omega)
   have e1 : (T ++ [hot V]).getD (i - 1) 0 = tr T (i - 1) := by
    have := tr_append T (hot V) (i - 1)
    rw [m1, if_pos (by omega)] at this
    exact this
   have hh : hot V = 700 + V.1 := rfl
   unfold byte2 at hv
   have w3 : Go.IntKind.wrap .i64 (tr T (i - 1) - hot V) = tr T (i - 1) - hot V := w64_id (by omega) (by omega)
   have w4 : Go.IntKind.wrap .i64 (hot V - tr T (i - 1)) = hot V - tr T (i - 1) := w64_id (by omega) (by omega)
   have w5 : Go.IntKind.wrap .i64 ((if tr T (i - 1) - hot V > hot V - tr T (i - 1) then tr T (i - 1) - hot V else hot V - tr T (i - 1)) + V.2 % 8) = mostV (tr T (i - 1)) V := w64_id (by split <;> omega) (by split <;> omega)
   rw [if_pos eb]
   simp only [g20, g21, c0, c1, c32, c8, hix, hi4, hil, f5_eq, andThen_some, Int.toNat_natCast, hV, if_true, l1, l2, l3, l4, l5, l6, l7, l8, l9, b1, b2, b3, ws, hg, w1, w2, hin, e1, w3, w4, w5]
   unfold pairsV spanV
   rw [if_neg e, if_pos (by simp)]
 ·have h0 : i = 0 := hgo.resolve_right hlt
  subst h0
  refine ⟨_, hd, ?_⟩
  obtain ⟨l1, l2, l3, l4, l5, l6, l7, l8, l9⟩ := key _ hd
  simp only at l1 l2 l3 l4 l5 l6 l7 l8 l9
  show f4l0B N (f4l0 N q) T ((0 : Nat) : Int) x y hs4 ps4 c4 s4 hs ps c s = _
  unfold f4l0B
  have hil : decide (((0 : Nat) : Int) < (x.length : Int)) = false := decide_eq_false (by omega)
  rw [if_neg (by simp), if_neg (by rw [hil]; decide)]
  simp only [g20, g21, c0, c1, c32, c8, f5_eq, andThen_some, if_true, l1, l2, l3, l4, l5, l6, l7, l8, l9, b1, b2, ws]
  rfl
theorem f4l0_ok (N : Nat) (x y : List V2) (hN : 100 ≤ N) (hx : ∀ v ∈ x, byte2 v) : ∃ n T hs ps, f4l0 N N [] 0 x y [] [] [] [] [] [] [] [] = some (T, x, y, [], [], [], [], hs, ps, [], []) ∧ 1 ≤ n ∧ MadeO n T hs ps := by
 obtain ⟨res, h1, i, T, hs, ps, rfl, hi0, hm⟩ := loop_run (fun q (s : Nat × List Int × List Span × List Pr) => f4l0 N q s.2.1 (s.1 : Int) x y [] [] [] [] s.2.2.1 s.2.2.2 [] []) (fun s => MadeO s.1 s.2.1 s.2.2.1 s.2.2.2) (fun s => 4 - s.1)
  (fun res => ∃ (i : Nat) (T : List Int) (hs : List Span) (ps : List Pr), res = (T, x, y, [], [], [], [], hs, ps, [], []) ∧ 1 ≤ i ∧ MadeO i T hs ps) (fun q s hs => by
   obtain ⟨i, T, hs', ps⟩ := s
   simp only at hs
   by_cases hgo : i < 4 ∧ (i = 0 ∨ i < x.length)
   ·right
    obtain ⟨v, hv, e⟩ := f4_step N q x y i T hs' [] ps [] [] [] [] [] hs hgo.1 hx hgo.2
    exact ⟨(i + 1, T ++ [hot v], hs' ++ [spanV v], pairsV ps T i v), hs.step hgo.1 hv, by simp only; omega, e⟩
   ·left
    refine ⟨_, ?_, i, T, hs', ps, rfl, ?_, hs⟩
    ·show f4l0B N (f4l0 N q) T (i : Int) x y [] [] [] [] hs' ps [] [] = _
     have h4 := hs.le
     have hne : i ≠ 0 := fun e => hgo ⟨by omega, .inl e⟩
     unfold f4l0B
     rw [if_pos (by simp; omega)]
     by_cases hlt : i < x.length
     ·rw [if_pos (d1 (by omega)), if_neg (dn (by omega))]
     ·rw [if_neg (dn (by omega))]
    ·have h4 := hs.le
     by_cases e : i = 0
     ·exact absurd ⟨by omega, .inl e⟩ hgo
     ·omega) N (0, [], [], []) ⟨by simp, rfl, rfl, by simp, (fun p hp => by omega), (fun p hp => by cases hp)⟩ (by simp only; omega)
 exact ⟨i, T, hs, ps, h1, hi0, hm⟩
def coneV (T : List Int) (v : V2) : Cn := (v.1 % (T.length : Int), 690 + v.2, decide (tr T (v.1 % (T.length : Int)).toNat ≥ 690 + v.2))
structure MadeC (n : Nat) (T : List Int) (cs : List Cn) : Prop where
 l : cs.length ≤ 4
 c : ∀ c ∈ cs, okCn n c ∧ NoteT (.inl c) (tr T c.1.toNat)
theorem f4l1_ok (N : Nat) (x y : List V2) (T : List Int) (n : Nat) (hs4 hs : List Span) (ps4 ps : List Pr) (c4 : List Cn) (s4 s : List Sg) (hN : 100 ≤ N) (hy : ∀ v ∈ y, byte2 v) (hn : T.length = n) (h1 : 1 ≤ n) (h4 : n ≤ 4) :
  ∃ cs, f4l1 N N T 0 x y hs4 ps4 c4 s4 hs ps [] s = some (hs4, ps4, c4, s4, hs, ps, cs, s) ∧ MadeC n T cs := by
 have c0 : (decide ((0 : Int) ≤ 0) && decide ((0 : Int) < 2)) = true := by decide
 have c1 : (decide ((0 : Int) ≤ 1) && decide ((1 : Int) < 2)) = true := by decide
 obtain ⟨res, h1, cs, rfl, hm⟩ := loop_run (fun q (st : Nat × List Cn) => f4l1 N q T (st.1 : Int) x y hs4 ps4 c4 s4 hs ps st.2 s) (fun st => st.1 ≤ 4 ∧ st.2.length ≤ st.1 ∧ MadeC n T st.2) (fun st => 4 - st.1)
  (fun res => ∃ cs, res = (hs4, ps4, c4, s4, hs, ps, cs, s) ∧ MadeC n T cs) (fun q st hi => by
   obtain ⟨i, cs⟩ := st
   simp only at hi
   obtain ⟨i4, hl, hm⟩ := hi
   by_cases hgo : i < 4 ∧ i < y.length
   ·right
    have hv := hy _ (getD_mem (d := ((0 : Int), (0 : Int))) hgo.2)
    refine ⟨(i + 1, cs ++ [coneV T (y.getD i (0, 0))]), ⟨by simp only; omega, by simp; omega, by simp; omega, fun c hc => ?_⟩, by simp only; omega, ?_⟩
    ·rcases List.mem_append.1 hc with h | h
     ·exact hm.c c h
     ·rw [List.mem_singleton] at h; subst h
      generalize y.getD i (0, 0) = V at hv
      unfold byte2 at hv
      have hz : (n : Int) ≠ 0 := by omega
      have a1 := Int.emod_nonneg V.1 hz
      have a2 := Int.emod_lt_of_pos V.1 (show (0 : Int) < n by omega)
      unfold okCn coneV NoteT
      rw [hn]
      simp only
      refine ⟨⟨a1, a2, by omega, by omega⟩, ?_⟩
      by_cases h : 690 + V.2 ≤ tr T (V.1 % (n : Int)).toNat
      ·rw [decide_eq_true (show tr T (V.1 % (n : Int)).toNat ≥ 690 + V.2 from h)]
       simpa using h
      ·rw [decide_eq_false (show ¬ tr T (V.1 % (n : Int)).toNat ≥ 690 + V.2 from h)]
       simp; omega
    ·show f4l1B N (f4l1 N q) T (i : Int) x y hs4 ps4 c4 s4 hs ps cs s = _
     unfold f4l1B
     have hix : (decide ((0 : Int) ≤ (i : Int)) && decide ((i : Int) < (y.length : Int))) = true := dd (by omega) (by omega)
     have hi4 : decide ((i : Int) < 4) = true := d1 (by omega)
     have hil : decide ((i : Int) < (y.length : Int)) = true := d1 (by omega)
     have hz : ((T.length : Int) != 0) = true := by simp; rw [← List.length_eq_zero_iff]; omega
     generalize hV : y.getD i (0, 0) = V at *
     unfold byte2 at hv
     have l1 : Go.IntKind.wrap .i64 V.1 = V.1 := w64_id (by omega) (by omega)
     have l2 : Go.IntKind.wrap .i64 V.2 = V.2 := w64_id (by omega) (by omega)
     have l3 : Go.IntKind.wrap .i64 (690 + V.2) = 690 + V.2 := w64_id (by omega) (by omega)
     have l4 : Int.tmod V.1 (T.length : Int) = V.1 % (T.length : Int) := Int.tmod_eq_emod_of_nonneg (by omega)
     have hz' : (T.length : Int) ≠ 0 := by omega
     have a1 := Int.emod_nonneg V.1 hz'
     have a2 := Int.emod_lt_of_pos V.1 (show (0 : Int) < T.length by omega)
     have hin : (decide ((0 : Int) ≤ V.1 % (T.length : Int)) && decide (V.1 % (T.length : Int) < (T.length : Int))) = true := dd a1 a2
     have b1 : ∀ a : Cn, Nat.ble (cs.length + ([a] : List Cn).length) boundLen = true := fun p => by rw [Nat.ble_eq]; simp; unfold boundLen; omega
     have ws := w_succ (show i < 4611686018427387904 by omega)
     simp only [c0, c1, hix, hi4, hil, hz, Int.toNat_natCast, hV, if_true, l1, l2, l3, l4, hin, b1, ws]
     rfl
   ·left
    refine ⟨_, ?_, cs, rfl, hm⟩
    show f4l1B N (f4l1 N q) T (i : Int) x y hs4 ps4 c4 s4 hs ps cs s = _
    unfold f4l1B
    by_cases hlt : i < y.length
    ·rw [if_pos (d1 (by omega)), if_neg (dn (by omega))]
    ·rw [if_neg (dn (by omega))]) N (0, []) ⟨by simp, by simp, by simp, fun c hc => by cases hc⟩ (by simp only; omega)
 exact ⟨cs, h1, hm⟩
theorem f4_ok (N : Nat) (x y : List V2) (hN : 100 ≤ N) (hx : ∀ v ∈ x, byte2 v) (hy : ∀ v ∈ y, byte2 v) : ∃ hs ps cs, f4 N x y = some (hs, ps, cs, []) ∧ hs.length ≤ 4 ∧ Valid hs ps cs [] ∧ ∃ t, TruthO hs ps cs [] t := by
 obtain ⟨n, T, hs, ps, e1, h1, m⟩ := f4l0_ok N x y hN hx
 obtain ⟨cs, e2, mc⟩ := f4l1_ok N x y T n [] hs [] ps [] [] [] hN hy m.lt h1 m.le
 refine ⟨hs, ps, cs, ?_, by rw [m.lh]; exact m.le, ⟨by rw [m.lh]; exact h1, by rw [m.lh]; have := m.le; omega, fun s hs' => ?_, by have := m.lp; have := m.le; omega, by have := mc.l; omega, by simp, fun q hq => by rw [m.lh]; exact (m.p q hq).1, fun c hc => by rw [m.lh]; exact (mc.c c hc).1, fun s hs => by cases hs⟩, tr T, ?_, ?_, ?_⟩
 ·unfold f4
  rw [e1, andThen_some]
  simp only
  rw [e2, andThen_some]
 ·obtain ⟨i, hi, rfl⟩ := getD_of_mem ((0 : Int), (0 : Int)) hs'
  rw [m.lh] at hi
  exact (m.t i hi).2.2.2.2
 ·intro p hp
  rw [m.lh] at hp
  have := m.t p hp
  exact ⟨this.2.2.1, this.2.2.2.1⟩
 ·intro q hq
  exact (m.p q hq).2
 ·intro c hc
  unfold nts at hc
  rw [List.map_nil, List.append_nil] at hc
  obtain ⟨c', h, rfl⟩ := List.mem_map.1 hc
  exact (mc.c c' h).2
theorem f7_eq (N : Nat) (hs : List Span) (ps : List Pr) (cs : List Cn) (v : Valid hs ps cs []) : f7 N hs ps cs [] = some (hs, ps, cs, []) := by
 have := v.n5; have := v.p8; have := v.c6
 unfold f7
 rw [if_pos (by rw [Nat.ble_eq]; simp; unfold boundLen; omega), if_pos (by rw [Nat.ble_eq]; simp; unfold boundLen; omega), if_pos (by rw [Nat.ble_eq]; simp; unfold boundLen; omega), if_pos (by decide)]
 rfl
end Go.Pl


namespace Go.Pl
open Go.Al Go.Proofs
abbrev Sn := Int × (Int × ((Int × Int) × (Int × Int)))
def s0 : Sn := (0, 0, (0, 0), 0, 0)
theorem f55_eq (N : Nat) (x lo hi : Int) : f55 N x lo hi = some (!inB lo hi x, lo, hi) := by
 unfold f55 inB
 by_cases h : x < lo
 ·have : ¬ lo ≤ x := by omega
  simp [h, this]
 ·have h' : lo ≤ x := by omega
  have e : decide (x > hi) = !decide (x ≤ hi) := by rw [← decide_not, decide_eq_decide]; omega
  simp [h, h', e]
theorem f74a_eq (N : Nat) (l : List Int) (lo hi : Int) (hN : l.length < N) (hl : l.length < 1000000) : ∃ r, f74a N l lo hi = some (r, lo, hi) ∧ decide (r ≥ 0) = l.any fun n => !inB lo hi n := by
 unfold f74a
 rcases searchL l (0 : Int) (fun n => !inB lo hi n) (fun q i => f74al0 N q l (l.length : Int) (i : Int) lo hi) (fun i => .inl ((i : Int), lo, hi)) (.inr (lo, hi)) (fun q i hi' => by
  show f74al0B N (f74al0 N q) l (l.length : Int) (i : Int) lo hi = _
  unfold f74al0B
  simp only [show ((i : Int) < (l.length : Int)) by omega, Int.natCast_nonneg, decide_true, Bool.and_true, if_true, Int.toNat_natCast, w_succ (show i < 4611686018427387904 by omega), f55_eq, andThen_some]) (fun q => by
  show f74al0B N (f74al0 N q) l (l.length : Int) (l.length : Int) lo hi = _
  unfold f74al0B
  rw [if_neg (by simp)]) N hN with ⟨i, hi', ha, hr⟩ | ⟨ha, hr⟩
 ·have hr : f74al0 N N l (l.length : Int) 0 lo hi = some (.inl ((i : Int), lo, hi)) := hr
  exact ⟨i, by rw [hr]; rfl, by rw [ha]; simp⟩
 ·have hr : f74al0 N N l (l.length : Int) 0 lo hi = some (.inr (lo, hi)) := hr
  exact ⟨-1, by rw [hr]; rfl, by rw [ha]; rfl⟩
theorem f31_eq (N : Nat) (l : List Int) (lo hi : Int) (hN : l.length < N) (hl : l.length < 1000000) : f31 N lo hi l = some (l.all (inB lo hi)) := by
 obtain ⟨r, h1, h2⟩ := f74a_eq N l lo hi hN hl
 unfold f31 f54a
 rw [h1, andThen_some, andThen_some, h2]
 simp [List.all_eq_not_any_not]
theorem f73_ok (N : Nat) (hN : 100 ≤ N) {a b lo hi : Int} (h : a ≤ b) (h1 : lo ≤ a) (h2 : b ≤ hi) : f73 N a b lo hi = some true := by
 unfold f73
 rw [if_pos (by simpa using h), f31_eq N _ _ _ (by simp; omega) (by simp), andThen_some]
 simp [inB]; omega
def okSn (s : Sn) : Prop := s.1 = 1 ∧ s.2.1 = 1 ∧ s.2.2.1 = (1, 1) ∧ 0 ≤ s.2.2.2.1 ∧ s.2.2.2.1 ≤ s.2.2.2.2 ∧ s.2.2.2.2 ≤ 1000
theorem f52_ok (N : Nat) (hN : 100 ≤ N) {s : Sn} (h : okSn s) : f52 N s.1 s.2.1 s.2.2.1.1 s.2.2.1.2 s.2.2.2.1 s.2.2.2.2 = some false := by
 obtain ⟨h1, h2, h3, h4, h5, h6⟩ := h
 unfold f52 f53
 rw [h1, h2, h3, f31_eq N _ _ _ (by simp; omega) (by simp), f31_eq N _ _ _ (by simp; omega) (by simp), f73_ok N hN (by decide) (by decide) (by decide), f73_ok N hN h5 h4 h6]
 rfl
theorem f51_ok (N : Nat) (hN : 100 ≤ N) (l : List Sn) (hl : l.length < 100) (h : ∀ s ∈ l, okSn s) : f51 N l = some false := by
 obtain ⟨r, h1, h2⟩ := loop_run (fun q (i : Nat) => f72l0 N q l (l.length : Int) (i : Int)) (fun i => i ≤ l.length) (fun i => l.length - i) (fun r => r = .inr ()) (fun q i hi => by
  by_cases hlt : i < l.length
  ·right
   refine ⟨i + 1, hlt, by omega, ?_⟩
   show f72l0B N (f72l0 N q) l (l.length : Int) (i : Int) = _
   unfold f72l0B
   have := f52_ok N hN (h _ (getD_mem (d := s0) hlt))
   simp only [show ((i : Int) < (l.length : Int)) by omega, Int.natCast_nonneg, decide_true, Bool.and_true, if_true, Int.toNat_natCast, w_succ (show i < 4611686018427387904 by omega)]
   erw [this]
   rfl
  ·left
   have : i = l.length := by omega
   subst this
   refine ⟨_, ?_, rfl⟩
   show f72l0B N (f72l0 N q) l (l.length : Int) (l.length : Int) = _
   unfold f72l0B
   rw [if_neg (by simp)]) N 0 (Nat.zero_le _) (by omega)
 subst h2
 unfold f51 f72
 have h1 : f72l0 N N l (l.length : Int) 0 = some (.inr ()) := h1
 rw [h1]; rfl
theorem f30_ok (N : Nat) (hN : 100 ≤ N) (l : List Sn) (hl : l.length ≤ 6) (h : ∀ s ∈ l, okSn s) : f30 N 1 10 0 10 0 l = some 0 := by
 unfold f30
 rw [f31_eq N _ _ _ (by simp; omega) (by simp), f31_eq N _ _ _ (by simp; omega) (by simp), f31_eq N _ _ _ (by simp; omega) (by simp), f31_eq N _ _ _ (by simp; omega) (by simp), f31_eq N _ _ _ (by simp; omega) (by simp), f51_ok N hN l (by omega) h]
 have : decide ((l.length : Int) > 6) = false := by rw [decide_eq_false]; omega
 simp only [this]
 rfl
def lowS (l : List Sn) : Int := l.foldl (fun m a => if a.2.2.2.1 > m then a.2.2.2.1 else m) 0
def highS (l : List Sn) : Int := l.foldl (fun m a => if a.2.2.2.2 < m then a.2.2.2.2 else m) 1000
def upTo (n : Nat) : List Int := (List.range n).map fun i : Nat => (i : Int)
theorem f9_0 : f9 50000 0 = some (upTo 0) := by kernel_rfl
theorem f9_1 : f9 50000 1 = some (upTo 1) := by kernel_rfl
theorem f9_2 : f9 50000 2 = some (upTo 2) := by kernel_rfl
theorem f9_3 : f9 50000 3 = some (upTo 3) := by kernel_rfl
theorem f9_4 : f9 50000 4 = some (upTo 4) := by kernel_rfl
def setN (n : Nat) : Int := 2 ^ n - 1
theorem l0_0 : f16l0 50000 50000 [] (upTo 0) 0 (upTo 0) 0 0 [] 1 10 0 10 0 [] = some (.inr (setN 0, [], 1, 10, 0, 10, 0, [])) := by kernel_rfl
theorem l0_1 (a : Sn) : f16l0 50000 50000 [a] (upTo 1) 0 (upTo 1) 1 0 [] 1 10 0 10 0 [a] = some (.inr (setN 1, [], 1, 10, 0, 10, 0, [a])) := by kernel_rfl
theorem l0_2 (a b : Sn) : f16l0 50000 50000 [a, b] (upTo 2) 0 (upTo 2) 2 0 [] 1 10 0 10 0 [a, b] = some (.inr (setN 2, [], 1, 10, 0, 10, 0, [a, b])) := by kernel_rfl
theorem l0_3 (a b c : Sn) : f16l0 50000 50000 [a, b, c] (upTo 3) 0 (upTo 3) 3 0 [] 1 10 0 10 0 [a, b, c] = some (.inr (setN 3, [], 1, 10, 0, 10, 0, [a, b, c])) := by kernel_rfl
theorem l0_4 (a b c d : Sn) : f16l0 50000 50000 [a, b, c, d] (upTo 4) 0 (upTo 4) 4 0 [] 1 10 0 10 0 [a, b, c, d] = some (.inr (setN 4, [], 1, 10, 0, 10, 0, [a, b, c, d])) := by kernel_rfl
theorem h_0 : f17 50000 (setN 0) 1 10 0 10 0 [] [] = some (lowS [], highS [], 1, 10, 0, 10, 0, [], []) := by kernel_rfl
theorem h_1 (a : Sn) : f17 50000 (setN 1) 1 10 0 10 0 [a] [] = some (lowS [a], highS [a], 1, 10, 0, 10, 0, [a], []) := by kernel_rfl
theorem h_2 (a b : Sn) : f17 50000 (setN 2) 1 10 0 10 0 [a, b] [] = some (lowS [a, b], highS [a, b], 1, 10, 0, 10, 0, [a, b], []) := by kernel_rfl
theorem h_3 (a b c : Sn) : f17 50000 (setN 3) 1 10 0 10 0 [a, b, c] [] = some (lowS [a, b, c], highS [a, b, c], 1, 10, 0, 10, 0, [a, b, c], []) := by kernel_rfl
theorem h_4 (a b c d : Sn) : f17 50000 (setN 4) 1 10 0 10 0 [a, b, c, d] [] = some (lowS [a, b, c, d], highS [a, b, c, d], 1, 10, 0, 10, 0, [a, b, c, d], []) := by kernel_rfl
theorem f9_eq {n : Nat} (h : n ≤ 4) : f9 50000 (n : Int) = some (upTo n) := by
 have : n = 0 ∨ n = 1 ∨ n = 2 ∨ n = 3 ∨ n = 4 := by omega
 rcases this with rfl | rfl | rfl | rfl | rfl
 ·exact f9_0
 ·exact f9_1
 ·exact f9_2
 ·exact f9_3
 ·exact f9_4
theorem upTo_len (n : Nat) : (upTo n).length = n := by simp [upTo]
theorem l0_eq (l : List Sn) (h : l.length ≤ 4) : f16l0 50000 50000 l (upTo l.length) 0 (upTo l.length) (l.length : Int) 0 [] 1 10 0 10 0 l = some (.inr (setN l.length, [], 1, 10, 0, 10, 0, l)) := by
 match l, h with
 | [], _ => exact l0_0
 | [a], _ => exact l0_1 a
 | [a, b], _ => exact l0_2 a b
 | [a, b, c], _ => exact l0_3 a b c
 | [a, b, c, d], _ => exact l0_4 a b c d
 | _ :: _ :: _ :: _ :: _ :: _, h => simp at h
theorem h_eq (l : List Sn) (h : l.length ≤ 4) : f17 50000 (setN l.length) 1 10 0 10 0 l [] = some (lowS l, highS l, 1, 10, 0, 10, 0, l, []) := by
 match l, h with
 | [], _ => exact h_0
 | [a], _ => exact h_1 a
 | [a, b], _ => exact h_2 a b
 | [a, b, c], _ => exact h_3 a b c
 | [a, b, c, d], _ => exact h_4 a b c d
 | _ :: _ :: _ :: _ :: _ :: _, h => simp at h
theorem f8_eq (l : List Sn) (hl : l.length ≤ 4) (h : ∀ s ∈ l, okSn s) : f8 50000 1 10 0 10 0 l (upTo l.length) = some (if lowS l > highS l then (0, 0, 7) else (lowS l, highS l, 0)) := by
 unfold f8 f16
 rw [f30_ok 50000 (by decide) l (by omega) h, andThen_some, if_neg (by decide), upTo_len, l0_eq l hl]
 simp only [andThen_some, either_inr, either_inl]
 rw [if_neg (by decide), h_eq l hl, andThen_some]
 simp only [decide_eq_true_eq]
 by_cases h : lowS l > highS l
 ·rw [if_pos h, if_pos h]
 ·rw [if_neg h, if_neg h]
theorem foldMax (l : List Sn) (m x : Int) : (l.foldl (fun m a => if a.2.2.2.1 > m then a.2.2.2.1 else m) m ≤ x) ↔ (m ≤ x ∧ ∀ a ∈ l, a.2.2.2.1 ≤ x) := by
 induction l generalizing m with
 | nil => simp
 | cons a l ih =>
  rw [List.foldl_cons, ih]
  simp only [List.mem_cons, forall_eq_or_imp]
  by_cases h : a.2.2.2.1 > m
  ·rw [if_pos h]; constructor
   ·rintro ⟨h1, h2⟩; exact ⟨by omega, h1, h2⟩
   ·rintro ⟨_, h1, h2⟩; exact ⟨h1, h2⟩
  ·rw [if_neg h]; constructor
   ·rintro ⟨h1, h2⟩; exact ⟨h1, by omega, h2⟩
   ·rintro ⟨h1, _, h2⟩; exact ⟨h1, h2⟩
theorem foldMin (l : List Sn) (m x : Int) : (x ≤ l.foldl (fun m a => if a.2.2.2.2 < m then a.2.2.2.2 else m) m) ↔ (x ≤ m ∧ ∀ a ∈ l, x ≤ a.2.2.2.2) := by
 induction l generalizing m with
 | nil => simp
 | cons a l ih =>
  rw [List.foldl_cons, ih]
  simp only [List.mem_cons, forall_eq_or_imp]
  by_cases h : a.2.2.2.2 < m
  ·rw [if_pos h]; constructor
   ·rintro ⟨h1, h2⟩; exact ⟨by omega, h1, h2⟩
   ·rintro ⟨_, h1, h2⟩; exact ⟨h1, h2⟩
  ·rw [if_neg h]; constructor
   ·rintro ⟨h1, h2⟩; exact ⟨h1, by omega, h2⟩
   ·rintro ⟨h1, _, h2⟩; exact ⟨h1, h2⟩
theorem low_le (l : List Sn) (x : Int) : lowS l ≤ x ↔ 0 ≤ x ∧ ∀ a ∈ l, a.2.2.2.1 ≤ x := foldMax l 0 x
theorem le_high (l : List Sn) (x : Int) : x ≤ highS l ↔ x ≤ 1000 ∧ ∀ a ∈ l, x ≤ a.2.2.2.2 := foldMin l 1000 x
end Go.Pl


namespace Go.Pl
open Go.Al Go.Proofs
theorem Tight.span {hs : List Span} {ps : List Pr} {cs : List Cn} {ss : List Sg} {m : List Int} (ht : Tight hs.length m (TruthO hs ps cs ss)) {p : Nat} (hp : p < hs.length) {lo hi : Int}
  (h1 : ∀ t, TruthO hs ps cs ss t → lo ≤ t p ∧ t p ≤ hi) (h2 : ∃ t, TruthO hs ps cs ss t ∧ t p = lo) (h3 : ∃ t, TruthO hs ps cs ss t ∧ t p = hi) (hn : hs.length ≤ 5) : sp (spn hs.length m) p = (lo, hi) := by
 rw [sp_spn hp]
 have hz : ∀ t : Nat → Int, zt t p = t p ∧ zt t 5 = 0 := fun t => ⟨by unfold zt; rw [if_neg (by omega)], by unfold zt; rw [if_pos rfl]⟩
 obtain ⟨t1, a1, a2⟩ := h2
 obtain ⟨t2, b1, b2⟩ := h3
 have u1 := ht.up t1 a1 p 5 (.inl hp) (.inr rfl)
 have u2 := ht.up t2 b1 5 p (.inr rfl) (.inl hp)
 obtain ⟨s1, c1, c2⟩ := ht.att p 5 (.inl hp) (.inr rfl)
 obtain ⟨s2, e1, e2⟩ := ht.att 5 p (.inr rfl) (.inl hp)
 have q1 := h1 s1 c1
 have q2 := h1 s2 e1
 rw [(hz _).1, (hz _).2] at u1 u2 c2 e2
 have : -ent m p 5 = lo ∧ ent m 5 p = hi := by omega
 rw [this.1, this.2]
end Go.Pl


namespace Go.Pl
open Go.Al Go.Proofs
theorem known_ok : f12 50000 = some true := by kernel_rfl
end Go.Pl


namespace Go.Pl
open Go.Al Go.Proofs
def wareV (v : V2) : Span := (660 + v.1, if 660 + v.1 + 1 + v.2 / 2 < 1000 then 660 + v.1 + 1 + v.2 / 2 else 1000)
def sgn (w : Span) : Sn := (1, 1, (1, 1), w.1, w.2 - 1)
def okW (w : Span) : Prop := 660 ≤ w.1 ∧ w.1 < w.2 ∧ w.2 ≤ 1000
theorem wareV_ok {v : V2} (h : byte2 v) : okW (wareV v) := by
 unfold byte2 at h
 unfold okW wareV
 simp only
 split <;> omega
theorem f3l0_ok (N : Nat) (x : List V2) (hs : List Span) (ps : List Pr) (cs : List Cn) (hN : 100 ≤ N) (hx : ∀ v ∈ x, byte2 v) :
  ∃ W : List Span, f3l0 N N x [] [] 0 hs ps cs [] = some (W.map sgn, W, hs, ps, cs, []) ∧ W.length ≤ 4 ∧ ∀ w ∈ W, okW w := by
 have c0 : (decide ((0 : Int) ≤ 0) && decide ((0 : Int) < 2)) = true := by decide
 have c1 : (decide ((0 : Int) ≤ 1) && decide ((1 : Int) < 2)) = true := by decide
 have c2 : ((2 : Int) != 0) = true := by decide
 obtain ⟨res, h1, W, rfl, hm⟩ := loop_run (fun q (st : Nat × List Span) => f3l0 N q x (st.2.map sgn) st.2 (st.1 : Int) hs ps cs []) (fun st => st.1 ≤ 4 ∧ st.2.length ≤ st.1 ∧ ∀ w ∈ st.2, okW w) (fun st => 4 - st.1)
  (fun res => ∃ W : List Span, res = (W.map sgn, W, hs, ps, cs, []) ∧ W.length ≤ 4 ∧ ∀ w ∈ W, okW w) (fun q st hi => by
   obtain ⟨i, W⟩ := st
   simp only at hi
   obtain ⟨i4, hl, hm⟩ := hi
   by_cases hgo : i < 4 ∧ i < x.length
   ·right
    have hv := hx _ (getD_mem (d := ((0 : Int), (0 : Int))) hgo.2)
    refine ⟨(i + 1, W ++ [wareV (x.getD i (0, 0))]), ⟨by simp only; omega, by simp; omega, fun w hw => ?_⟩, by simp only; omega, ?_⟩
    ·rcases List.mem_append.1 hw with h | h
     ·exact hm w h
     ·rw [List.mem_singleton] at h; subst h; exact wareV_ok hv
    ·show f3l0B N (f3l0 N q) x (W.map sgn) W (i : Int) hs ps cs [] = _
     unfold f3l0B
     have hix : (decide ((0 : Int) ≤ (i : Int)) && decide ((i : Int) < (x.length : Int))) = true := dd (by omega) (by omega)
     have hi4 : decide ((i : Int) < 4) = true := d1 (by omega)
     have hil : decide ((i : Int) < (x.length : Int)) = true := d1 (by omega)
     generalize hV : x.getD i (0, 0) = V at *
     have hw := wareV_ok hv
     unfold okW at hw
     have hv' := hv
     unfold byte2 at hv
     have l1 : Go.IntKind.wrap .i64 V.1 = V.1 := w64_id (by omega) (by omega)
     have l2 : Go.IntKind.wrap .i64 V.2 = V.2 := w64_id (by omega) (by omega)
     have l3 : Go.IntKind.wrap .i64 (660 + V.1) = 660 + V.1 := w64_id (by omega) (by omega)
     have l4 : Int.tdiv V.2 2 = V.2 / 2 := Int.tdiv_eq_ediv_of_nonneg (by omega)
     have l5 : Go.IntKind.wrap .i64 (V.2 / 2) = V.2 / 2 := w64_id (by omega) (by omega)
     have l6 : Go.IntKind.wrap .i64 (660 + V.1 + 1) = 660 + V.1 + 1 := w64_id (by omega) (by omega)
     have l7 : Go.IntKind.wrap .i64 (660 + V.1 + 1 + V.2 / 2) = 660 + V.1 + 1 + V.2 / 2 := w64_id (by omega) (by omega)
     have e2 : (wareV V).2 = if 660 + V.1 + 1 + V.2 / 2 < 1000 then 660 + V.1 + 1 + V.2 / 2 else 1000 := rfl
     have l8 : Go.IntKind.wrap .i64 ((wareV V).2 - 1) = (wareV V).2 - 1 := w64_id (by omega) (by omega)
     have b1 : ∀ a : Span, Nat.ble (W.length + ([a] : List Span).length) boundLen = true := fun p => by rw [Nat.ble_eq]; simp; unfold boundLen; omega
     have b2 : ∀ a : Sn, Nat.ble ((W.map sgn).length + ([a] : List Sn).length) boundLen = true := fun p => by rw [Nat.ble_eq]; simp; unfold boundLen; omega
     have ws := w_succ (show i < 4611686018427387904 by omega)
     simp only [c0, c1, c2, hix, hi4, hil, Int.toNat_natCast, hV, if_true, l1, l2, l3, l4, l5, l6, l7, ← e2, l8, b1, b2, ws, f5_eq, andThen_some, List.map_append]
     rfl
   ·left
    refine ⟨_, ?_, W, rfl, by omega, hm⟩
    show f3l0B N (f3l0 N q) x (W.map sgn) W (i : Int) hs ps cs [] = _
    unfold f3l0B
    by_cases hlt : i < x.length
    ·rw [if_pos (d1 (by omega)), if_neg (dn (by omega))]
    ·rw [if_neg (dn (by omega))]) N (0, []) ⟨by simp, by simp, fun c hc => by cases hc⟩ (by simp only; omega)
 exact ⟨W, h1, hm⟩
theorem f11_eq (N : Nat) (l : List Int) (x : Int) (hN : l.length < N) (hl : l.length < 1000000) : f11 N l x = some (l.any fun n => n == x) := by
 unfold f11
 rcases searchL l (0 : Int) (fun n => n == x) (fun q i => f11l0 N q l x (i : Int)) (fun i => .inl true) (.inr ()) (fun q i hi' => by
  show f11l0B N (f11l0 N q) l x (i : Int) = _
  unfold f11l0B
  simp only [show ((i : Int) < (l.length : Int)) by omega, Int.natCast_nonneg, decide_true, Bool.and_true, if_true, Int.toNat_natCast, w_succ (show i < 4611686018427387904 by omega)]) (fun q => by
  show f11l0B N (f11l0 N q) l x (l.length : Int) = _
  unfold f11l0B
  rw [if_neg (by simp)]) N hN with ⟨i, hi', ha, hr⟩ | ⟨ha, hr⟩
 ·have hr : f11l0 N N l x 0 = some (.inl true) := hr
  rw [hr, ha]; rfl
 ·have hr : f11l0 N N l x 0 = some (.inr ()) := hr
  rw [hr, ha]; rfl
theorem f11_filt (N : Nat) (A : Nat → Bool) (n p : Nat) (hN : 100 ≤ N) (hn : n ≤ 5) (hp : p < n) : f11 N (filt A n) (p : Int) = some (A p) := by
 have := filt_len A n
 rw [f11_eq N _ _ (by omega) (by omega)]
 congr 1
 rw [Bool.eq_iff_iff, List.any_eq_true]
 unfold filt
 simp only [List.mem_map, List.mem_filter, List.mem_range, beq_iff_eq]
 constructor
 ·rintro ⟨_, ⟨a, ⟨_, h⟩, rfl⟩, e⟩
  have : a = p := by omega
  subst this; exact h
 ·intro h
  exact ⟨(p : Int), ⟨p, ⟨hp, h⟩, rfl⟩, rfl⟩
structure Cnt (n : Nat) (G : List Int) (f : Nat → Nat) : Prop where
 len : G.length = 4
 at' : ∀ p, p < n → G.getD p 0 = f p
theorem Cnt.inc {n j : Nat} {G : List Int} {f : Nat → Nat} (h : Cnt n G f) (hj : j < n) (hn : n ≤ 4) : Cnt n (G.set j ((f j + 1 : Nat) : Int)) (fun p => if p = j then f p + 1 else f p) := by
 refine ⟨by simp [h.len], fun p hp => ?_⟩
 rw [getD_set, h.len]
 by_cases e : p = j
 ·subst e; rw [if_pos ⟨rfl, by omega⟩]; simp
 ·rw [if_neg (by omega), if_neg e]; exact h.at' p hp
theorem f3l2_ok (N : Nat) (W HS : List Span) (f : Int) (i : Int) (A B : Nat → Bool) (hs : List Span) (ps : List Pr) (cs : List Cn) (b1 b2 : Int) (G M : List Int) (cg cm : Nat → Nat) (hN : 100 ≤ N) (hn : HS.length ≤ 4) (hg : Cnt HS.length G cg) (hm : Cnt HS.length M cm) (bg : ∀ p, cg p ≤ 100) (bm : ∀ p, cm p ≤ 100) :
  ∃ G' M', f3l2 N N W HS f i (filt A HS.length) (filt B HS.length) 0 hs ps cs [] b1 b2 G M = some (W, HS, f, i, hs, ps, cs, [], b1, b2, G', M') ∧ Cnt HS.length G' (fun p => cg p + (A p).toNat) ∧ Cnt HS.length M' (fun p => cm p + (B p).toNat) := by
 obtain ⟨res, h1, G', M', rfl, hg', hm'⟩ := loop_run (fun q (st : Nat × List Int × List Int) => f3l2 N q W HS f i (filt A HS.length) (filt B HS.length) (st.1 : Int) hs ps cs [] b1 b2 st.2.1 st.2.2)
  (fun st => st.1 ≤ HS.length ∧ Cnt HS.length st.2.1 (fun p => cg p + (if p < st.1 then (A p).toNat else 0)) ∧ Cnt HS.length st.2.2 (fun p => cm p + (if p < st.1 then (B p).toNat else 0))) (fun st => HS.length - st.1)
  (fun res => ∃ G' M', res = (W, HS, f, i, hs, ps, cs, [], b1, b2, G', M') ∧ Cnt HS.length G' (fun p => cg p + (A p).toNat) ∧ Cnt HS.length M' (fun p => cm p + (B p).toNat)) (fun q st hi => by
   obtain ⟨j, G, M⟩ := st
   simp only at hi
   obtain ⟨hj, hg, hm⟩ := hi
   by_cases hlt : j < HS.length
   ·right
    have inc : ∀ {X : List Int} {c : Nat → Nat} (D : Nat → Bool), Cnt HS.length X (fun p => c p + (if p < j then (D p).toNat else 0)) → Cnt HS.length (if D j then X.set j ((c j + 1 : Nat) : Int) else X) (fun p => c p + (if p < j + 1 then (D p).toNat else 0)) := fun {X c} D h => by
     by_cases hD : D j = true
     ·rw [if_pos hD]
      have := h.inc hlt hn
      simp only [Nat.lt_irrefl, if_false, Nat.add_zero] at this
      refine ⟨this.len, fun p hp => ?_⟩
      rw [this.at' p hp]
      by_cases e : p = j
      ·subst e; simp [hD]
      ·simp only [if_neg e]
       by_cases h2 : p < j
       ·rw [if_pos h2, if_pos (by omega)]
       ·rw [if_neg h2, if_neg (by omega)]
     ·rw [if_neg hD]
      refine ⟨h.len, fun p hp => ?_⟩
      rw [h.at' p hp]
      by_cases e : p = j
      ·subst e; simp [hD]
      ·by_cases h2 : p < j
       ·rw [if_pos h2, if_pos (by omega)]
       ·rw [if_neg h2, if_neg (by omega)]
    refine ⟨(j + 1, if A j then G.set j ((cg j + 1 : Nat) : Int) else G, if B j then M.set j ((cm j + 1 : Nat) : Int) else M), ⟨hlt, inc A hg, inc B hm⟩, by simp only; omega, ?_⟩
    show f3l2B N (f3l2 N q) W HS f i (filt A HS.length) (filt B HS.length) (j : Int) hs ps cs [] b1 b2 G M = _
    unfold f3l2B
    have hil : decide ((j : Int) < (HS.length : Int)) = true := d1 (by omega)
    have hi4 : (decide ((0 : Int) ≤ (j : Int)) && decide ((j : Int) < 4)) = true := dd (by omega) (by omega)
    have ws := w_succ (show j < 4611686018427387904 by omega)
    have g1 := hg.at' j hlt
    have m1 := hm.at' j hlt
    simp only [Nat.lt_irrefl, if_false, Nat.add_zero] at g1 m1
    have bg' := bg j
    have bm' := bm j
    simp only [hil, hi4, if_true, f11_filt N A _ j hN (by omega) hlt, f11_filt N B _ j hN (by omega) hlt, andThen_some, Int.toNat_natCast, Nat.mul_one, Nat.zero_add, g1, m1, w_succ (show cg j < 4611686018427387904 by omega), w_succ (show cm j < 4611686018427387904 by omega), ws]
    cases A j <;> cases B j <;> rfl
   ·left
    have : j = HS.length := by omega
    subst this
    refine ⟨_, ?_, G, M, rfl, ⟨hg.len, fun p hp => ?_⟩, ⟨hm.len, fun p hp => ?_⟩⟩
    ·show f3l2B N (f3l2 N q) W HS f i (filt A HS.length) (filt B HS.length) (HS.length : Int) hs ps cs [] b1 b2 G M = _
     unfold f3l2B
     rw [if_neg (by simp)]
    ·rw [hg.at' p hp, if_pos hp]
    ·rw [hm.at' p hp, if_pos hp]) N (0, G, M) ⟨Nat.zero_le _, by simpa using hg, by simpa using hm⟩ (by simp only; omega)
 exact ⟨G', M', h1, hg', hm'⟩
def cS (W HS : List Span) (i p : Nat) : Nat := (W.take i).countP fun w => goodS w (sp HS p)
def cP (W HS : List Span) (i p : Nat) : Nat := (W.take i).countP fun w => goodP w (sp HS p)
theorem take_getL (l : List Span) {i : Nat} (hi : i < l.length) : l.take (i + 1) = l.take i ++ [sp l i] := by
 unfold sp
 rw [List.getD_eq_getElem?_getD, List.getElem?_eq_getElem hi, Option.getD_some, List.take_append_getElem]
theorem countP_one {α : Type} (f : α → Bool) (a : α) : [a].countP f = (f a).toNat := by
 rw [List.countP_singleton]; cases f a <;> rfl
theorem count_le {α : Type} (l : List α) (f : α → Bool) (i : Nat) : (l.take i).countP f ≤ i := by
 have := List.countP_le_length (p := f) (l := l.take i)
 rw [List.length_take] at this
 omega
theorem f3l1_ok (N : Nat) (W : List Span) (m : List Int) (f : Int) (hs : List Span) (ps : List Pr) (cs : List Cn) (b1 b2 : Int) (hN : 1000 ≤ N) (v : Valid hs ps cs []) (hn : hs.length ≤ 4) (hW : W.length ≤ 4) (hok : ∀ w ∈ W, okW w)
  (hm : f13 N hs ps cs [] = some (hs, ps, cs, [], nts cs [], m, 0)) (hh : f14 N hs ps cs [] (nts cs []) m = some (hts hs.length m)) :
  ∃ G M, f3l1 N N W (spn hs.length m) f 0 hs ps cs [] b1 b2 [0, 0, 0, 0] [0, 0, 0, 0] = some (.inr (W, spn hs.length m, f, b1, b2, G, M)) ∧ Cnt hs.length G (cS W (spn hs.length m) W.length) ∧ Cnt hs.length M (cP W (spn hs.length m) W.length) := by
 have hl : (spn hs.length m).length = hs.length := by simp [spn]
 obtain ⟨res, h1, G, M, rfl, hg, hm⟩ := loop_run (fun q (st : Nat × List Int × List Int) => f3l1 N q W (spn hs.length m) f (st.1 : Int) hs ps cs [] b1 b2 st.2.1 st.2.2)
  (fun st => st.1 ≤ W.length ∧ Cnt hs.length st.2.1 (cS W (spn hs.length m) st.1) ∧ Cnt hs.length st.2.2 (cP W (spn hs.length m) st.1)) (fun st => W.length - st.1)
  (fun res => ∃ G M, res = .inr (W, spn hs.length m, f, b1, b2, G, M) ∧ Cnt hs.length G (cS W (spn hs.length m) W.length) ∧ Cnt hs.length M (cP W (spn hs.length m) W.length)) (fun q st hi => by
   obtain ⟨i, G, M⟩ := st
   simp only at hi
   obtain ⟨hi', hg, hmm⟩ := hi
   by_cases hlt : i < W.length
   ·right
    have hw : okW (sp W i) := hok _ (getD_mem hlt)
    have hwr : okWr (sp W i) := by unfold okW at hw; unfold okWr; omega
    obtain ⟨G', M', e, hg', hm'⟩ := f3l2_ok N W (spn hs.length m) f (i : Int) (fun p => goodS (sp W i) (sp (spn hs.length m) p)) (fun p => goodP (sp W i) (sp (spn hs.length m) p)) hs ps cs b1 b2 G M _ _ (by omega) (by omega) (hl ▸ hg) (hl ▸ hmm)
     (fun p => Nat.le_trans (count_le _ _ _) (by omega)) (fun p => Nat.le_trans (count_le _ _ _) (by omega))
    rw [hl] at e hg' hm'
    have sS : ∀ p, cS W (spn hs.length m) i p + (goodS (sp W i) (sp (spn hs.length m) p)).toNat = cS W (spn hs.length m) (i + 1) p := fun p => by
     unfold cS; rw [take_getL W hlt, List.countP_append, countP_one]
    have sP : ∀ p, cP W (spn hs.length m) i p + (goodP (sp W i) (sp (spn hs.length m) p)).toNat = cP W (spn hs.length m) (i + 1) p := fun p => by
     unfold cP; rw [take_getL W hlt, List.countP_append, countP_one]
    have hg' : Cnt hs.length G' (cS W (spn hs.length m) (i + 1)) := ⟨hg'.len, fun p hp => (hg'.at' p hp).trans (congrArg Int.ofNat (sS p))⟩
    have hm' : Cnt hs.length M' (cP W (spn hs.length m) (i + 1)) := ⟨hm'.len, fun p hp => (hm'.at' p hp).trans (congrArg Int.ofNat (sP p))⟩
    refine ⟨(i + 1, G', M'), ⟨hlt, hg', hm'⟩, by simp only; omega, ?_⟩
    show f3l1B N (f3l1 N q) W (spn hs.length m) f (i : Int) hs ps cs [] b1 b2 G M = _
    unfold f3l1B
    have ws := w_succ (show i < 4611686018427387904 by omega)
    have e10 := f10_yes N hs ps cs [] (sp W i) hN v hm hh
    rw [if_pos hwr] at e10
    have esp : W.getD i (0, 0) = sp W i := rfl
    rw [if_pos (d1 (by omega)), f7_eq N hs ps cs v, andThen_some, if_pos (dd (by omega) (by omega))]
    simp only [Int.toNat_natCast, esp]
    rw [e10, andThen_some]
    simp only
    rw [if_neg (by decide), e, andThen_some]
    simp only [ws]
   ·left
    have : i = W.length := by omega
    subst this
    refine ⟨_, ?_, G, M, rfl, hg, hmm⟩
    show f3l1B N (f3l1 N q) W (spn hs.length m) f (W.length : Int) hs ps cs [] b1 b2 G M = _
    unfold f3l1B
    rw [if_neg (by simp)]) N (0, [0, 0, 0, 0], [0, 0, 0, 0]) ⟨Nat.zero_le _, ⟨rfl, fun p hp => by
     have : p = 0 ∨ p = 1 ∨ p = 2 ∨ p = 3 := by omega
     rcases this with rfl | rfl | rfl | rfl <;> rfl⟩, ⟨rfl, fun p hp => by
     have : p = 0 ∨ p = 1 ∨ p = 2 ∨ p = 3 := by omega
     rcases this with rfl | rfl | rfl | rfl <;> rfl⟩⟩ (by simp only; omega)
 exact ⟨G, M, h1, hg, hm⟩
structure Sees (W : List Span) (HS : List Span) (f b1 b2 : Int) (p : Nat) : Prop where
 g : (((cS W HS W.length p : Nat) : Int) == (W.length : Int)) = (decide (f = 0) && (decide (b1 ≤ (sp HS p).1) && decide ((sp HS p).2 ≤ b2)))
 m : cP W HS W.length p < W.length → f = 0 → b2 < (sp HS p).1 ∨ (sp HS p).2 < b1
 l : (sp HS p).1 ≤ (sp HS p).2
theorem f3l3_ok (N : Nat) (W HS : List Span) (f b1 b2 : Int) (G M : List Int) (hN : 100 ≤ N) (hn : HS.length ≤ 4) (hg : Cnt HS.length G (cS W HS W.length)) (hm : Cnt HS.length M (cP W HS W.length)) (hs : ∀ p, p < HS.length → Sees W HS f b1 b2 p) :
  f3l3 N N W HS f 0 b1 b2 G M = some (.inr ()) := by
 refine loop_all (fun q i => f3l3 N q W HS f (i : Int) b1 b2 G M) HS.length (.inr ()) (fun q j hlt => ?_) (fun q => ?_) N (by omega)
 ·show f3l3B N (f3l3 N q) W HS f (j : Int) b1 b2 G M = _
  unfold f3l3B
  have hil : decide ((j : Int) < (HS.length : Int)) = true := d1 (by omega)
  have hix : (decide ((0 : Int) ≤ (j : Int)) && decide ((j : Int) < (HS.length : Int))) = true := dd (by omega) (by omega)
  have hi4 : (decide ((0 : Int) ≤ (j : Int)) && decide ((j : Int) < 4)) = true := dd (by omega) (by omega)
  have ws := w_succ (show j < 4611686018427387904 by omega)
  have g1 := hg.at' j hlt
  have m1 := hm.at' j hlt
  obtain ⟨sg, sm, sl⟩ := hs j hlt
  have esp : HS.getD j (0, 0) = sp HS j := rfl
  simp only [hil, hix, hi4, if_true, Int.toNat_natCast, Nat.mul_one, Nat.zero_add, g1, m1, ws, esp, sg]
  generalize sp HS j = s at *
  have e4 : decide (((cP W HS W.length j : Nat) : Int) < (W.length : Int)) = decide (cP W HS W.length j < W.length) := by rw [decide_eq_decide]; omega
  rw [e4]
  by_cases h0 : f = 0
  ·subst h0
   by_cases h1 : b1 ≤ s.1 <;> by_cases h2 : b2 < s.1 <;> by_cases h3 : s.2 ≤ b2 <;> by_cases h4 : cP W HS W.length j < W.length <;> by_cases h5 : s.2 < b1 <;>
    first
    | (exfalso; omega)
    | (exfalso; have := sm h4 rfl; omega)
    | simp [h1, h2, h3, h4, h5]
  ·have e0 : (f == 0) = false := by simpa using h0
   by_cases h4 : cP W HS W.length j < W.length <;> simp [h0, h4]
 ·show f3l3B N (f3l3 N q) W HS f (HS.length : Int) b1 b2 G M = _
  unfold f3l3B
  rw [if_neg (by simp)]
theorem sees (W HS : List Span) (p : Nat) (hp : p < HS.length) (hok : ∀ w ∈ W, okW w) (h0 : 0 ≤ (sp HS p).1) (h1 : (sp HS p).1 ≤ (sp HS p).2) (h2 : (sp HS p).2 ≤ 1000) {f b1 b2 : Int}
  (hb : (b1, b2, f) = if lowS (W.map sgn) > highS (W.map sgn) then (0, 0, 7) else (lowS (W.map sgn), highS (W.map sgn), 0)) : Sees W HS f b1 b2 p := by
 have a1 := low_le (W.map sgn)
 have a2 := le_high (W.map sgn)
 have hL : ∀ x, lowS (W.map sgn) ≤ x ↔ 0 ≤ x ∧ ∀ w ∈ W, w.1 ≤ x := fun x => by
  rw [a1]
  constructor
  ·rintro ⟨h, k⟩
   exact ⟨h, fun w hw => by have := k _ (List.mem_map.2 ⟨w, hw, rfl⟩); unfold sgn at this; simp only at this; omega⟩
  ·rintro ⟨h, k⟩
   refine ⟨h, fun a ha => ?_⟩
   obtain ⟨w, hw, rfl⟩ := List.mem_map.1 ha
   have := k w hw
   unfold sgn; simp only; omega
 have hH : ∀ x, x ≤ highS (W.map sgn) ↔ x ≤ 1000 ∧ ∀ w ∈ W, x < w.2 := fun x => by
  rw [a2]
  constructor
  ·rintro ⟨h, k⟩
   exact ⟨h, fun w hw => by have := k _ (List.mem_map.2 ⟨w, hw, rfl⟩); unfold sgn at this; simp only at this; omega⟩
  ·rintro ⟨h, k⟩
   refine ⟨h, fun a ha => ?_⟩
   obtain ⟨w, hw, rfl⟩ := List.mem_map.1 ha
   have := k w hw
   unfold sgn; simp only; omega
 generalize lowS (W.map sgn) = L at *
 generalize highS (W.map sgn) = H at *
 have hS : cS W HS W.length p = W.length ↔ ∀ w ∈ W, goodS w (sp HS p) = true := by
  unfold cS; rw [List.take_length]; exact List.countP_eq_length
 have hP : cP W HS W.length p = W.length ↔ ∀ w ∈ W, goodP w (sp HS p) = true := by
  unfold cP; rw [List.take_length]; exact List.countP_eq_length
 have hPle : cP W HS W.length p ≤ W.length := count_le _ _ _
 have hS' : cS W HS W.length p = W.length ↔ L ≤ (sp HS p).1 ∧ (sp HS p).2 ≤ H := by
  rw [hS, hL, hH]
  unfold goodS
  simp only [Bool.and_eq_true, decide_eq_true_eq]
  exact ⟨fun k => ⟨⟨h0, fun w hw => (k w hw).1⟩, h2, fun w hw => (k w hw).2⟩, fun k w hw => ⟨k.1.2 w hw, k.2.2 w hw⟩⟩
 have hP' : cP W HS W.length p < W.length → H < (sp HS p).1 ∨ (sp HS p).2 < L := fun hlt => by
  by_cases k1 : L ≤ (sp HS p).2
  ·by_cases k2 : (sp HS p).1 ≤ H
   ·exfalso
    have : cP W HS W.length p = W.length := hP.2 fun w hw => by
     unfold goodP
     rw [decide_eq_true (((hL _).1 k1).2 w hw), decide_eq_true (((hH _).1 k2).2 w hw)]
     rfl
    omega
   ·left; omega
  ·right; omega
 by_cases hLH : L > H
 ·rw [if_pos hLH] at hb
  simp only [Prod.mk.injEq] at hb
  obtain ⟨rfl, rfl, rfl⟩ := hb
  refine ⟨?_, fun _ h => (nomatch h), h1⟩
  rw [decide_eq_false (by decide), Bool.false_and, beq_eq_false_iff_ne]
  intro e
  have := hS'.1 (Int.ofNat_inj.1 e)
  omega
 ·rw [if_neg hLH] at hb
  simp only [Prod.mk.injEq] at hb
  obtain ⟨rfl, rfl, rfl⟩ := hb
  refine ⟨?_, fun h _ => hP' h, h1⟩
  rw [decide_eq_true rfl, Bool.true_and, ← Bool.decide_and, ← decide_eq_decide.2 hS', Bool.eq_iff_iff, beq_iff_eq, decide_eq_true_eq]
  exact Int.ofNat_inj
theorem law3 (x y z : List V2) (hx : ∀ v ∈ x, byte2 v) (hy : ∀ v ∈ y, byte2 v) (hz : ∀ v ∈ z, byte2 v) : f3 50000 x y z = some true := by
 obtain ⟨hs, ps, cs, e4, hn, v, ht⟩ := f4_ok 50000 x y (by decide) hx hy
 obtain ⟨W, e0, hWl, hWok⟩ := f3l0_ok 50000 z hs ps cs (by decide) hz
 obtain ⟨m, hm, tight, hh, e6⟩ := f6_yes 50000 hs ps cs [] (by decide) v ht
 have hl : (spn hs.length m).length = hs.length := by simp [spn]
 have hWm : (W.map sgn).length = W.length := List.length_map ..
 have e8 := f8_eq (W.map sgn) (by omega) (fun s hs => by
  obtain ⟨w, hw, rfl⟩ := List.mem_map.1 hs
  have := hWok w hw
  unfold okW at this
  unfold okSn sgn
  simp only
  exact ⟨trivial, trivial, trivial, by omega, by omega, by omega⟩)
 have e9 := f9_eq (n := (W.map sgn).length) (by omega)
 have n5 := v.n5
 have hb : ∀ p, p < hs.length → 0 ≤ (sp (spn hs.length m) p).1 ∧ (sp (spn hs.length m) p).1 ≤ (sp (spn hs.length m) p).2 ∧ (sp (spn hs.length m) p).2 ≤ 1000 := fun p hp => by
  rw [sp_spn hp]
  simp only
  have z : ∀ t : Nat → Int, zt t p = t p ∧ zt t 5 = 0 := fun t => ⟨by unfold zt; rw [if_neg (by omega)], by unfold zt; rw [if_pos rfl]⟩
  obtain ⟨t1, a1, a2⟩ := tight.att p 5 (.inl hp) (.inr rfl)
  obtain ⟨t2, b1, b2⟩ := tight.att 5 p (.inr rfl) (.inl hp)
  have u := tight.up t1 a1 5 p (.inr rfl) (.inl hp)
  rw [(z _).1, (z _).2] at a2 b2 u
  have k1 := a1.1 p hp
  have k2 := b1.1 p hp
  have ok := v.h _ (getD_mem (d := ((0 : Int), (0 : Int))) hp)
  have ok : okSp (sp hs p) := ok
  unfold okSp at ok
  omega
 have l1 := fun f b1 b2 => f3l1_ok 50000 W m f hs ps cs b1 b2 (by decide) v hn hWl hWok hm hh
 have l3 := fun f b1 b2 (hb' : (b1, b2, f) = if lowS (W.map sgn) > highS (W.map sgn) then (0, 0, 7) else (lowS (W.map sgn), highS (W.map sgn), 0)) G M hg hm' => f3l3_ok 50000 W (spn hs.length m) f b1 b2 G M (by decide) (by omega) hg hm' fun p hp => sees W (spn hs.length m) p hp hWok (hb p (hl ▸ hp)).1 (hb p (hl ▸ hp)).2.1 (hb p (hl ▸ hp)).2.2 hb'
 unfold f3
 rw [e4, andThen_some]
 simp only
 rw [e0, andThen_some]
 simp only
 rw [f7_eq 50000 hs ps cs v, andThen_some]
 simp only
 rw [e6, andThen_some, e9, andThen_some, e8, andThen_some]
 simp only
 rw [if_pos (by decide), hl, if_pos (by simp)]
 by_cases hc : lowS (W.map sgn) > highS (W.map sgn)
 ·obtain ⟨G, M, e1, hg, hm'⟩ := l1 7 0 0
  have e3 := l3 7 0 0 (by rw [if_pos hc]) G M (by rw [hl]; exact hg) (by rw [hl]; exact hm')
  rw [if_pos hc]
  simp only
  rw [if_pos (by decide), if_neg (by decide)]
  erw [e1]
  rw [andThen_some, either_inr]
  simp only
  rw [e3, andThen_some, either_inr, known_ok]
  rfl
 ·obtain ⟨G, M, e1, hg, hm'⟩ := l1 0 (lowS (W.map sgn)) (highS (W.map sgn))
  have e3 := l3 0 _ _ (by rw [if_neg hc]) G M (by rw [hl]; exact hg) (by rw [hl]; exact hm')
  rw [if_neg hc]
  simp only
  rw [if_neg (by decide)]
  erw [e1]
  rw [andThen_some, either_inr]
  simp only
  rw [e3, andThen_some, either_inr, known_ok]
  rfl
end Go.Pl


namespace Go.Proofs.YtcgmelealalhhaaGreatDoor
open Go.ChangeShapes Go.WideShapes Go.ChangeAt Go.RowKit Go.Al
theorem own : ownKnob Tryz.prog.godebug = none := by kernel_rfl
theorem laidOut : laidOutB Tryz.prog = true := by kernel_rfl
abbrev Q0 : Ty := .pair (.int .u8) (.int .u8)
abbrev Q1 : Ty := .list Q0
abbrev Q2 : Ty := .pair Q1 Q1
def LAID : List (String × DataW Unit) := [("math/bits.deBruijn32tab", Rows.laid_math_bits_deBruijn32tab), ("math/bits.deBruijn64tab", Rows.laid_math_bits_deBruijn64tab)]
theorem door_met (os : Os) (args : Array Value) : laidMetH Tryz.prog LAID ((World.doorLaid Tryz.prog 400 os).forCall (fun _ _ => 0) ⟨#[], args, []⟩).memory :=
 laidMetH_of_parts3 (fuel := 8) (laidMet_of_run' 8 (by kernel_rfl) (by kernel_rfl)) (by kernel_rfl) (by kernel_rfl)
theorem tab_cells {W : World} {name : String} {g : Nat} {k : IntKind} {xs : List Int} (hg : Tryz.prog.globalNamed name = some g) (h : Lib.TabIs Tryz.prog W name k xs) (h0 : xs ≠ []) : g < W.heap.size ∧ W.rangeAt g 0 (xs.map (Value.int k)) := by
 constructor
 ·have h1 := h.cell hg 0 (List.length_pos_iff.2 h0)
  by_cases hlt : g < W.heap.size
  ·exact hlt
  ·rw [World.cell?, Array.getElem?_eq_none (by simpa using hlt)] at h1
   cases h1
 ·intro j v hv
  rw [List.getElem?_map, Option.map_eq_some_iff] at hv
  obtain ⟨z, hz, rfl⟩ := hv
  obtain ⟨hj, rfl⟩ := List.getElem?_eq_some_iff.1 hz
  have := h.cell hg j hj
  rw [Nat.zero_add, this, List.getD_eq_getElem?_getD, hz]
  rfl
set_option maxRecDepth 100000 in
theorem tabs_of_laid {W : World} (h : laidMetH Tryz.prog LAID W) : ∀ g k xs, tabOf g = some (k, xs) → g < W.heap.size ∧ W.rangeAt g 0 (xs.map (Value.int k)) := by
 rw [MakeChecks.laidMetH_plain _ _ _ (by kernel_rfl)] at h
 obtain ⟨ps, ⟨g0, t0, cs0, f0, p0, q0, hg0, ht0, hv0, hd0, ⟨g1, t1, cs1, f1, p1, q1, hg1, ht1, hv1, hd1, _, _⟩, _⟩, _, _⟩ := h
 obtain rfl := Option.some.inj ((show Tryz.prog.globalNamed "math/bits.deBruijn32tab" = some 0 by kernel_rfl).symm.trans hg0)
 obtain rfl := Option.some.inj ((show (Tryz.prog.globals[0]?).map (·.type) = some 180 by kernel_rfl).symm.trans ht0)
 have T0 : Lib.TabIs Tryz.prog W "math/bits.deBruijn32tab" .u8 [0, 1, 28, 2, 29, 14, 24, 3, 30, 22, 20, 15, 25, 17, 4, 8, 31, 27, 13, 23, 21, 19, 16, 7, 26, 12, 18, 6, 11, 5, 10, 9] := by
  unfold Lib.TabIs
  rw [hv0, ← Lib.cells_of_tab (k := .u8) (n := 32) (e := 5) (by kernel_rfl) (by kernel_rfl) (by kernel_rfl) (by kernel_rfl) hd0]
 obtain rfl := Option.some.inj ((show Tryz.prog.globalNamed "math/bits.deBruijn64tab" = some 1 by kernel_rfl).symm.trans hg1)
 obtain rfl := Option.some.inj ((show (Tryz.prog.globals[1]?).map (·.type) = some 181 by kernel_rfl).symm.trans ht1)
 have T1 : Lib.TabIs Tryz.prog W "math/bits.deBruijn64tab" .u8 [0, 1, 56, 2, 57, 49, 28, 3, 61, 58, 42, 50, 38, 29, 17, 4, 62, 47, 59, 36, 45, 43, 51, 22, 53, 39, 33, 30, 24, 18, 12, 5, 63, 55, 48, 27, 60, 41, 37, 16, 46, 35, 44, 21, 52, 32, 23, 11, 54, 26, 40, 15, 34, 20, 31, 10, 25, 14, 19, 9, 13, 8, 7, 6] := by
  unfold Lib.TabIs
  rw [hv1, ← Lib.cells_of_tab (k := .u8) (n := 64) (e := 5) (by kernel_rfl) (by kernel_rfl) (by kernel_rfl) (by kernel_rfl) hd1]
 intro g k xs hx
 match g, hx with
 | 0, hx => cases hx; exact tab_cells (by kernel_rfl) T0 (by simp)
 | 1, hx => cases hx; exact tab_cells (by kernel_rfl) T1 (by simp)
 | n + 2, hx => exact nomatch hx
end Go.Proofs.YtcgmelealalhhaaGreatDoor


namespace Go.Proofs.YtcgmelealalhhaaGreatDoor
open Go.ChangeShapes Go.WideShapes Go.ChangeAt Go.RowKit Go.Al
def Pure3 : Prop := ∀ (x0 : den Q2) (x1 : den (.list Q0)), GoodD Q2 x0 → GoodD (.list Q0) x1 → ∃ N, f3 N x0.1 x0.2 x1 = some true
set_option maxRecDepth 100000 in
theorem lifted3 (pure : Pure3) (os : Os) (started : os.Started) (H : Type) (enc : TypeId × Value → H) :
  ReturnsInHanded {} Tryz.checked os 3 .any (fun w args => (Rows.topLoadPlaceSpec.pre enc Tryz.prog Tryz.f3 Rows.topLoadPlaceRow.domain false w args ∧ laidMetH Tryz.prog LAID w) ∧ sizedMet enc Tryz.prog Tryz.f3 (OpenSpec.ofChange Rows.topLoadPlaceSpec) false w args) (Rows.topLoadPlaceSpec.post enc Tryz.prog Tryz.f3 false true false false) := by
 refine returnsInHanded_of_change_and (C := Tryz.checked) (X := fun w _ => laidMetH Tryz.prog LAID w) (fun _ _ _ hh h => h.of_heap hh) own started (by kernel_rfl) Tryz.func3
  (ChangeSpec.witness_shaped (enc := enc) (C := Tryz.checked) (os := os) (X := fun w _ => laidMetH Tryz.prog LAID w) false (World.doorLaid Tryz.prog 400 os) #[.agg #[.slice none 0 0, .slice none 0 0], .slice none 0 0] 8 rfl (World.shaped_of_RefB (by kernel_rfl) (by kernel_rfl)) (by kernel_rfl) (by kernel_rfl) (by kernel_rfl) (door_met os _)) ?_
 intro W base args ds gs before hval0 hW hcnd _ hL _
 have hval : ∀ (j : Nat) t v, Tryz.f3.params[j]? = some t → args[j]? = some v → Value.okWide Tryz.prog W .any base t v := hval0
 have hW' := hW
 obtain ⟨p, q, hA0, hV, rfl, hfz, hnd⟩ := hW
 have hA : DataW.TrodAll enc Tryz.prog W 0 (fun _ => true) true Tryz.f3.params.toList args.toList ds p := hA0
 rw [show Tryz.f3.params.toList = [24, 22] by kernel_rfl] at hA
 obtain ⟨v0, vs0, d0, ds0, p0, q0, hargs, rfl, rfl, h0, r0⟩ := trodAll_cons hA
 obtain ⟨v1, vs1, d1, ds1, p1, q1, rfl, rfl, rfl, h1, r1⟩ := trodAll_cons r0
 obtain ⟨rfl, rfl, rfl⟩ := trodAll_nil r1
 obtain rfl : args = #[v0, v1] := by cases args; simp_all
 obtain ⟨rfl, rfl⟩ := trodVars_none hV
 obtain ⟨x0, g0, c0⟩ := arg_agg (ω := fun _ => 0) (γ := fun _ => 0) (κ := fun _ => 0) (by kernel_rfl) 20 Q2 (by kernel_rfl) (hval 0 24 v0 (by kernel_rfl) rfl) h0
 obtain ⟨x1, g1, c1⟩ := arg_slice (ω := fun _ => 0) (γ := fun _ => 0) (κ := fun _ => 0) (by kernel_rfl) 20 Q0 (by kernel_rfl) (hval 1 22 v1 (by kernel_rfl) rfl) h1
 obtain ⟨N, hN⟩ := pure x0 x1 g0 g1
 have key := law_calls (W := W) (f3ok N) (by kernel_rfl) (ins := [.agg (cellsT Q2 x0), .one (.sl Q0 x1 none false)]) (cargs := [v0, v1]) (mres := [])
  (show andThen (f3 N x0.1 x0.2 x1) (fun y => some (AV.a (.one (.bool y)), ([] : Mem))) = _ by rw [hN]; rfl) (.cons c0 (.cons c1 .nil)) (tabs_of_laid hL)
 refine key.mono fun e W' ⟨he, bel⟩ => ?_
 subst he
 exact ⟨_, rfl, _, _, _, [], _, [], hW', trodAll_mk1 (shut_bool (by kernel_rfl) _), (trodAll_cons_mk (bel.trod laidOut (by kernel_rfl) (of_decide_eq_true (by kernel_rfl)) h0) (trodAll_cons_mk (bel.trod laidOut (by kernel_rfl) (of_decide_eq_true (by kernel_rfl)) h1) trodAll_mk0)), rfl, bel.frame _, fun h => by cases h⟩
theorem row3 (pure : Pure3) : Rows.TopLoadPlaceSaid :=
 OpenClaim.holds_of_wide 3 Tryz.f3 rfl rfl rfl rfl rfl rfl rfl ⟨rfl, rfl, rfl, rfl, rfl⟩ rfl rfl rfl rfl rfl (by kernel_rfl) Tryz.func3 (by kernel_rfl)
  (of_decide_eq_true (by kernel_rfl)) (by unfold Func.isWrapper; first | (rw [if_pos (by decide +kernel)]; kernel_rfl) | (rw [if_neg (by decide +kernel)]; exact ⟨rfl, rfl⟩))
  (fun os started H enc _ => lifted3 pure os started H enc)
end Go.Proofs.YtcgmelealalhhaaGreatDoor


namespace Go.Proofs.YtcgmelealalhhaaGreatDoor
open Go.Pl
theorem u8_two {v : Int × Int} (h : Go.Al.GoodD Q0 v) : byte2 v := by
 obtain ⟨h1, h2⟩ := h
 have b : ∀ n : Int, (Go.Lit.int .u8 n).wf = true → 0 ≤ n ∧ n ≤ 255 := fun n hn => by
  unfold Go.Lit.wf at hn
  rw [Bool.and_eq_true, decide_eq_true_eq, decide_eq_true_eq] at hn
  exact hn
 have h1 := b _ h1
 have h2 := b _ h2
 exact ⟨h1.1, h1.2, h2.1, h2.2⟩
theorem pure3 : Pure3 := fun x0 x1 g0 g1 => ⟨50000, law3 x0.1 x0.2 x1 (fun v hv => u8_two (g0.1.2 v hv)) (fun v hv => u8_two (g0.2.2 v hv)) (fun v hv => u8_two (g1.2 v hv))⟩
theorem topLoadPlace_row : Rows.TopLoadPlaceSaid := row3 pure3
theorem topLoadPlace_holds : Rows.TopLoadPlaceCardSaid :=
 Claim7.holds_tied_plain_at .later [] [.data, .data] true (true, "9a4ecbd70f853c9715da6c00e76d496c4f5c1c4109924e56c5c776359b307af8") false
  topLoadPlace_row (fun _ h => by cases h) (by kernel_rfl) (fun _ h => by cases h) topLoadPlace_row_tie rfl ⟨rfl, rfl⟩ (by kernel_rfl) rfl
  (fun f fn hf hfn => by
   obtain rfl : f = 3 := Option.some.inj ((show Tryz.prog.funcNamed "smalto/smaltotop.TopLoadPlace" = some 3 by kernel_rfl).symm.trans hf) |>.symm
   obtain rfl : fn = Tryz.f3 := (Option.some.inj (Tryz.func3.symm.trans hfn)).symm
   exact ⟨by kernel_rfl, fun j t ht => by
    have hm : t ∈ Tryz.f3.params.toList := by simpa using Array.mem_of_getElem? ht
    rw [show Tryz.f3.params.toList = [24, 22] by kernel_rfl] at hm
    have hall : ([24, 22].all fun u => !Tryz.prog.wantsStandIn u) = true := by kernel_rfl
    exact (show Tryz.prog.wantsStandIn t = false by simpa using List.all_eq_true.1 hall t hm)⟩)
  (by kernel_rfl)
end Go.Proofs.YtcgmelealalhhaaGreatDoor

