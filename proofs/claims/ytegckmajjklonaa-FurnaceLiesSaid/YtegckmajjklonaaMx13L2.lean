/- The law. FurnaceLies: no more notes than were written wrong must be wrong; without those of Wrong there is a truth, with any one of them there is none; if none must be there is a truth with all. No conditions. -/
import Derived.Test.YtegckmajjklonaaMx13L1
set_option linter.unusedVariables false
set_option linter.unusedSimpArgs false
namespace Go.Pl
open Go.Al Go.Proofs

theorem bitOff_nat {w i : Nat} (hi : i < 20) : bitOff (w : Int) i = !w.testBit i := by
  unfold bitOff
  have e1 : (2 : Int) ^ (min i (Go.IntKind.bits .i64)) = ((2 ^ i : Nat) : Int) := by
    rw [Nat.min_eq_left (show i ≤ Go.IntKind.bits .i64 by show i ≤ 64; omega), Int.natCast_pow]; rfl
  rw [e1, ← Int.ofNat_fdiv]
  have e2 : (BitVec.ofInt (Go.IntKind.bits .i64) ((w / 2 ^ i : Nat) : Int) &&& BitVec.ofInt (Go.IntKind.bits .i64) 1).toNat = w / 2 ^ i % 2 := by
    rw [BitVec.ofInt_natCast, BitVec.toNat_and, BitVec.toNat_ofNat]
    show w / 2 ^ i % 2 ^ 64 &&& 1 = _
    rw [Nat.and_one_is_mod, Nat.mod_mod_of_dvd _ (by decide)]
  rw [e2, w64_id (by omega) (by have := Nat.mod_lt (w / 2 ^ i) (show 0 < 2 by decide); omega), Nat.testBit_eq_decide_div_mod_eq]
  have := Nat.mod_lt (w / 2 ^ i) (show 0 < 2 by decide)
  rcases (show w / 2 ^ i % 2 = 0 ∨ w / 2 ^ i % 2 = 1 by omega) with h | h <;> rw [h] <;> rfl
theorem wrap_pow {i : Nat} (hi : i < 20) : Go.IntKind.wrap .i64 (1 * (2 ^ (min i (Go.IntKind.bits .i64)))) = ((2 ^ i : Nat) : Int) := by
  have e1 : (2 : Int) ^ (min i (Go.IntKind.bits .i64)) = ((2 ^ i : Nat) : Int) := by
    rw [Nat.min_eq_left (show i ≤ Go.IntKind.bits .i64 by show i ≤ 64; omega), Int.natCast_pow]; rfl
  have : (2 : Nat) ^ i < 2 ^ 20 := Nat.pow_lt_pow_right (by decide) hi
  rw [e1, Int.one_mul]
  generalize 2 ^ i = p at *
  rw [w64_id (by omega) (by omega)]
theorem wrap_or {w i : Nat} (hw : w < 2 ^ 20) (hi : i < 20) : Go.IntKind.wrap .i64 (((((BitVec.ofInt (Go.IntKind.bits .i64) (w : Int)) ||| (BitVec.ofInt (Go.IntKind.bits .i64) (Go.IntKind.wrap .i64 (1 * (2 ^ (min (Int.toNat (i : Int)) (Go.IntKind.bits .i64)))))))).toNat : Nat) : Int) = ((w ||| 2 ^ i : Nat) : Int) := by
  rw [Int.toNat_natCast, wrap_pow hi, BitVec.ofInt_natCast, BitVec.ofInt_natCast, BitVec.toNat_or, BitVec.toNat_ofNat, BitVec.toNat_ofNat]
  have h2 : (2 : Nat) ^ i < 2 ^ 20 := Nat.pow_lt_pow_right (by decide) hi
  have h3 : w ||| 2 ^ i < 2 ^ 20 := Nat.or_lt_two_pow hw h2
  show Go.IntKind.wrap .i64 ((w % 2 ^ 64 ||| 2 ^ i % 2 ^ 64 : Nat) : Int) = _
  generalize 2 ^ i = p at *
  rw [Nat.mod_eq_of_lt (by omega), Nat.mod_eq_of_lt (by omega), w64_id (by omega) (by omega)]

/-- the bits of a list -/
def Msk (w : Nat) (l : List Int) : Prop := w < 2 ^ 20 ∧ ∀ i, i < 20 → (w.testBit i = true ↔ (i : Int) ∈ l)
theorem msk_nil : Msk 0 [] := ⟨by decide, fun i _ => by simp⟩
theorem msk_snoc {w i : Nat} {l : List Int} (h : Msk w l) (hi : i < 20) : Msk (w ||| 2 ^ i) (l ++ [(i : Int)]) := by
  refine ⟨Nat.or_lt_two_pow h.1 (Nat.pow_lt_pow_right (by decide) hi), fun j hj => ?_⟩
  rw [Nat.testBit_or, Nat.testBit_two_pow, List.mem_append, ← h.2 j hj]
  simp only [Bool.or_eq_true, decide_eq_true_eq, List.mem_singleton]
  constructor
  · rintro (h | h)
    · exact .inl h
    · right; omega
  · rintro (h | h)
    · exact .inl h
    · right; omega

/-- smaller, of lists that are as long -/
def lexB : List Int → List Int → Bool
  | x :: a, y :: b => if x = y then lexB a b else decide (x < y)
  | _, _ => false
def lss (a b : List Int) : Bool := if a.length = b.length then lexB a b else decide (a.length < b.length)
theorem lexB_total : ∀ (a b : List Int), a.length = b.length → lexB a b = false → lexB b a = false → a = b := by
  intro a
  induction a with
  | nil => intro b h _ _; exact (List.eq_nil_of_length_eq_zero h.symm).symm
  | cons x a ih =>
    intro b hl h1 h2
    cases b with
    | nil => cases hl
    | cons y b =>
      unfold lexB at h1 h2
      by_cases e : x = y
      · subst e
        rw [if_pos rfl] at h1 h2
        rw [ih b (by simpa using hl) h1 h2]
      · rw [if_neg e] at h1
        rw [if_neg (fun h => e h.symm)] at h2
        have h1 := of_decide_eq_false h1
        have h2 := of_decide_eq_false h2
        omega
theorem lss_total {a b : List Int} (h1 : lss a b = false) (h2 : lss b a = false) : a = b := by
  unfold lss at h1 h2
  by_cases e : a.length = b.length
  · rw [if_pos e] at h1
    rw [if_pos e.symm] at h2
    exact lexB_total a b e h1 h2
  · rw [if_neg e] at h1
    rw [if_neg (fun h => e h.symm)] at h2
    have h1 := of_decide_eq_false h1
    have h2 := of_decide_eq_false h2
    omega
theorem lexB_trans : ∀ (a b c : List Int), a.length = b.length → b.length = c.length → lexB a b = true → lexB b c = true → lexB a c = true := by
  intro a
  induction a with
  | nil => intro b c h1 h2 h; cases b <;> simp [lexB] at h
  | cons x a ih =>
    intro b c h1 h2 h3 h4
    cases b with
    | nil => cases h1
    | cons y b =>
      cases c with
      | nil => cases h2
      | cons z c =>
        unfold lexB at h3 h4 ⊢
        by_cases e : x = y
        · subst e
          rw [if_pos rfl] at h3
          by_cases e2 : x = z
          · subst e2
            rw [if_pos rfl] at h4 ⊢
            exact ih b c (by simpa using h1) (by simpa using h2) h3 h4
          · rw [if_neg e2] at h4 ⊢; exact h4
        · rw [if_neg e] at h3
          by_cases e2 : y = z
          · subst e2
            rw [if_neg e]; exact h3
          · rw [if_neg e2] at h4
            have h3 := of_decide_eq_true h3
            have h4 := of_decide_eq_true h4
            rw [if_neg (by omega)]
            exact decide_eq_true (by omega)
theorem lss_trans {a b c : List Int} (h1 : lss a b = true) (h2 : lss b c = true) : lss a c = true := by
  unfold lss at h1 h2 ⊢
  by_cases e1 : a.length = b.length
  · rw [if_pos e1] at h1
    by_cases e2 : b.length = c.length
    · rw [if_pos e2] at h2
      rw [if_pos (by omega)]
      exact lexB_trans a b c e1 e2 h1 h2
    · rw [if_neg e2] at h2
      rw [if_neg (by omega)]
      have h2 := of_decide_eq_true h2
      exact decide_eq_true (by omega)
  · rw [if_neg e1] at h1
    have h1 := of_decide_eq_true h1
    by_cases e2 : b.length = c.length
    · rw [if_neg (by omega)]
      exact decide_eq_true (by omega)
    · rw [if_neg e2] at h2
      have h2 := of_decide_eq_true h2
      rw [if_neg (by omega)]
      exact decide_eq_true (by omega)

/-- lists of numbers from one on, below another one, the smaller ones first -/
def Ext (n first k : Nat) (s : List Int) : Prop := s.length = k ∧ s.Pairwise (· < ·) ∧ ∀ x ∈ s, (first : Int) ≤ x ∧ x < n
theorem ext_zero {n first : Nat} {s : List Int} : Ext n first 0 s ↔ s = [] := by
  constructor
  · rintro ⟨h, _⟩; exact List.eq_nil_of_length_eq_zero h
  · rintro rfl; exact ⟨rfl, .nil, by simp⟩
theorem ext_cons {n first k i : Nat} {s : List Int} (h : Ext n (i + 1) k s) (h1 : first ≤ i) (h2 : i < n) : Ext n first (k + 1) ((i : Int) :: s) := by
  obtain ⟨a, b, c⟩ := h
  refine ⟨by simp [a], ?_, fun x hx => ?_⟩
  · rw [List.pairwise_cons]
    exact ⟨fun y hy => by have := c y hy; omega, b⟩
  · rw [List.mem_cons] at hx
    rcases hx with rfl | hx
    · omega
    · have := c x hx; omega
theorem ext_split {n first k : Nat} {s : List Int} (h : Ext n first (k + 1) s) : ∃ (i : Nat) (r : List Int), s = (i : Int) :: r ∧ first ≤ i ∧ i < n ∧ Ext n (i + 1) k r := by
  obtain ⟨a, b, c⟩ := h
  cases s with
  | nil => cases a
  | cons x r =>
    rw [List.pairwise_cons] at b
    have hx := c x (by simp)
    refine ⟨x.toNat, r, by rw [Int.toNat_of_nonneg (by omega)], by omega, by omega, by simpa using a, b.2, fun y hy => ?_⟩
    have h1 := b.1 y hy
    have h2 := c y (by simp [hy])
    omega

section
variable (hs : List Span) (ps : List Pr) (cs : List Cn) (ss : List Sg)

/-- the furnace without some notes -/
noncomputable def canB (ns : List Nt) (l : List Int) : Bool := @decide (∃ t, Truth hs ps (KBut ns l) t) (Classical.propDecidable _)
theorem canB_iff {ns : List Nt} {l : List Int} : canB hs ps ns l = true ↔ ∃ t, Truth hs ps (KBut ns l) t := by unfold canB; exact @decide_eq_true_iff _ (Classical.propDecidable _)

theorem gaps_mask (N : Nat) (hN : 1000 ≤ N) (v : Valid hs ps cs ss) {w : Nat} {l : List Int} (hw : ∀ i, i < 20 → (w.testBit i = true ↔ (i : Int) ∈ l)) :
    ∃ m, f92 N hs ps cs ss (nts cs ss) w [] = some (m, canB hs ps (nts cs ss) l) ∧ (canB hs ps (nts cs ss) l = true → Tight hs.length m (Truth hs ps (KBut (nts cs ss) l))) := by
  have p8 := v.p8
  have c6 := v.c6
  have s4 := v.s4
  have hl := nts_len cs ss
  obtain ⟨m, ok, e1, e2, e3⟩ := gaps_spec N w hs ps cs ss (nts cs ss) [] hN v.n1 v.n5 v.h v.p (by omega) (nts_ok v) (by omega) (fun x hx => by cases hx) (Nat.zero_le _)
  rw [Truth.congr (K' := KBut (nts cs ss) l) fun x => by
    constructor
    · rintro (⟨i, hi, hb, rfl⟩ | h)
      · refine ⟨i, hi, fun hm => ?_, rfl⟩
        rw [bitOff_nat (by omega), (hw i (by omega)).2 hm] at hb
        cases hb
      · cases h
    · rintro ⟨i, hi, hb, rfl⟩
      refine .inl ⟨i, hi, ?_, rfl⟩
      rw [bitOff_nat (by omega)]
      have : ¬ w.testBit i = true := fun h => hb ((hw i (by omega)).1 h)
      simpa using this] at e2 e3
  have : ok = canB hs ps (nts cs ss) l := by
    rw [Bool.eq_iff_iff, e2, canB_iff]
  subst this
  exact ⟨m, e1, e3⟩

theorem y0_eq (N : Nat) (hN : 1000 ≤ N) (v : Valid hs ps cs ss) {w : Nat} {l : List Int} (hw : Msk w l) (hl : l.length < 100) (fl : Bool) (hf : fl = true ↔ l = []) :
    y0 N (fl, l) w 0 [] 0 hs ps cs ss (nts cs ss) = some (if canB hs ps (nts cs ss) l = true then (false, 1, l, if l = [] then 6 else 0, hs, ps, cs, ss, nts cs ss) else (true, 0, [], 0, hs, ps, cs, ss, nts cs ss)) := by
  obtain ⟨m, e1, _⟩ := gaps_mask hs ps cs ss N hN v hw.2
  unfold y0
  rw [if_pos (by decide), if_pos (by decide), e1, andThen_some]
  simp only
  cases hc : canB hs ps (nts cs ss) l with
  | false => rfl
  | true =>
    cases fl with
    | true =>
      have := hf.1 rfl
      subst this
      rfl
    | false =>
      have hne : l ≠ [] := fun h => by simpa using hf.2 h
      have hleaf : (f93 N (false, l)) = some (false, l) := by
        unfold f93
        simp only [Bool.false_eq_true, if_false, List.nil_append]
        rw [if_pos (by simp [boundLen]; omega)]
      simp only [Bool.not_true, Bool.false_eq_true, if_false, if_true, hleaf, andThen_some, if_neg hne]

/-- sets of one size, from a first number on -/
theorem of_eq (N : Nat) (hN : 1000 ≤ N) (v : Valid hs ps cs ss) (n : Nat) (hn : n ≤ 10) :
    ∀ k M l fl w first, k ≤ 10 → k < M → l.length + k ≤ 10 → Msk w l → (fl = true ↔ l = []) → first ≤ n →
      (∃ s, Ext n first k s ∧ canB hs ps (nts cs ss) (l ++ s) = true ∧ (∀ s', Ext n first k s' → canB hs ps (nts cs ss) (l ++ s') = true → lexB s' s = false) ∧
        f113 N M (fl, l) (w : Int) (first : Int) (k : Int) (n : Int) 0 [] 0 hs ps cs ss (nts cs ss) = some (false, (n : Int), 1, l ++ s, if l ++ s = [] then 6 else 0, hs, ps, cs, ss, nts cs ss)) ∨
      ((∀ s, Ext n first k s → canB hs ps (nts cs ss) (l ++ s) = false) ∧
        f113 N M (fl, l) (w : Int) (first : Int) (k : Int) (n : Int) 0 [] 0 hs ps cs ss (nts cs ss) = some (true, (n : Int), 0, [], 0, hs, ps, cs, ss, nts cs ss)) := by
  intro k
  induction k with
  | zero =>
    intro M l fl w first _ hM hl hw hf hfn
    obtain ⟨M, rfl⟩ : ∃ M', M = M' + 1 := ⟨M - 1, by omega⟩
    have e : f113 N (M + 1) (fl, l) (w : Int) (first : Int) ((0 : Nat) : Int) (n : Int) 0 [] 0 hs ps cs ss (nts cs ss) = some (if canB hs ps (nts cs ss) l = true then (false, (n : Int), 1, l, if l = [] then 6 else 0, hs, ps, cs, ss, nts cs ss) else (true, (n : Int), 0, [], 0, hs, ps, cs, ss, nts cs ss)) := by
      show f113B N (f113 N M) (fl, l) (w : Int) (first : Int) ((0 : Nat) : Int) (n : Int) 0 [] 0 hs ps cs ss (nts cs ss) = _
      unfold f113B
      rw [if_pos (by simp)]
      simp only
      rw [y0_eq hs ps cs ss N hN v hw (by omega) fl hf, andThen_some]
      split <;> rfl
    rw [e]
    cases hc : canB hs ps (nts cs ss) l with
    | true =>
      left
      refine ⟨[], ext_zero.2 rfl, by rw [List.append_nil]; exact hc, fun s' hs' _ => ?_, by rw [List.append_nil]; rfl⟩
      rw [ext_zero.1 hs']; rfl
    | false =>
      right
      refine ⟨fun s hs' => ?_, rfl⟩
      rw [ext_zero.1 hs', List.append_nil]; exact hc
  | succ k ih =>
    intro M l fl w first hk hM hl hw hf hfn
    obtain ⟨M, rfl⟩ : ∃ M', M = M' + 1 := ⟨M - 1, by omega⟩
    obtain ⟨r, g1, g2⟩ := loop_run (fun q (i : Nat) => f113l0 N (f113 N M) q l (w : Int) ((k + 1 : Nat) : Int) (i : Int) (n : Int) 0 [] 0 hs ps cs ss (nts cs ss))
      (fun i => first ≤ i ∧ i ≤ n ∧ ∀ j, first ≤ j → j < i → ∀ s, Ext n (j + 1) k s → canB hs ps (nts cs ss) (l ++ (j : Int) :: s) = false) (fun i => n - i)
      (fun r => (∃ s, Ext n first (k + 1) s ∧ canB hs ps (nts cs ss) (l ++ s) = true ∧ (∀ s', Ext n first (k + 1) s' → canB hs ps (nts cs ss) (l ++ s') = true → lexB s' s = false) ∧ r = .inl (false, (n : Int), 1, l ++ s, if l ++ s = [] then 6 else 0, hs, ps, cs, ss, nts cs ss)) ∨
        ((∀ s, Ext n first (k + 1) s → canB hs ps (nts cs ss) (l ++ s) = false) ∧ r = .inr ((n : Int), 0, [], 0, hs, ps, cs, ss, nts cs ss))) (fun q i hi => by
        obtain ⟨i1, i2, i3⟩ := hi
        by_cases h : i < n
        · have hb1 : Nat.ble (l.length + [(i : Int)].length) boundLen = true := by simp [boundLen]; omega
          have hst : f113l0B N (f113 N M) (f113l0 N (f113 N M) q) l (w : Int) ((k + 1 : Nat) : Int) (i : Int) (n : Int) 0 [] 0 hs ps cs ss (nts cs ss) =
              andThen (f113 N M (false, l ++ [(i : Int)]) ((w ||| 2 ^ i : Nat) : Int) ((i + 1 : Nat) : Int) (k : Int) (n : Int) 0 [] 0 hs ps cs ss (nts cs ss)) fun y3 => (if (!y3.1) = true then some (Sum.inl (false, y3.2.1, y3.2.2.1, y3.2.2.2.1, y3.2.2.2.2.1, y3.2.2.2.2.2.1, y3.2.2.2.2.2.2.1, y3.2.2.2.2.2.2.2.1, y3.2.2.2.2.2.2.2.2.1, y3.2.2.2.2.2.2.2.2.2)) else f113l0 N (f113 N M) q l (w : Int) ((k + 1 : Nat) : Int) ((i + 1 : Nat) : Int) y3.2.1 y3.2.2.1 y3.2.2.2.1 y3.2.2.2.2.1 y3.2.2.2.2.2.1 y3.2.2.2.2.2.2.1 y3.2.2.2.2.2.2.2.1 y3.2.2.2.2.2.2.2.2.1 y3.2.2.2.2.2.2.2.2.2) := by
            unfold f113l0B
            rw [wrap_or hw.1 (show i < 20 by omega), w64_id (z := ((k + 1 : Nat) : Int) - 1) (by omega) (by omega)]
            simp only [show ((i : Int) < (n : Int)) by omega, f108_eq, andThen_some, hb1, Int.natCast_nonneg, decide_true, if_true, w_succ (show i < 4611686018427387904 by omega)]
            rw [show ((k + 1 : Nat) : Int) - 1 = (k : Int) by omega]
          rcases ih M (l ++ [(i : Int)]) false (w ||| 2 ^ i) (i + 1) (by omega) (by omega) (by simp; omega) (msk_snoc hw (by omega)) (by simp) (by omega) with ⟨s, a1, a2, a3, a4⟩ | ⟨a1, a2⟩
          · left
            refine ⟨.inl (false, (n : Int), 1, l ++ (i : Int) :: s, if l ++ (i : Int) :: s = [] then 6 else 0, hs, ps, cs, ss, nts cs ss), ?_, .inl ⟨(i : Int) :: s, ext_cons a1 i1 h, by rw [← a2, List.append_assoc]; rfl, fun s' hs' hc => ?_, rfl⟩⟩
            · show f113l0B N (f113 N M) (f113l0 N (f113 N M) q) l (w : Int) ((k + 1 : Nat) : Int) (i : Int) (n : Int) 0 [] 0 hs ps cs ss (nts cs ss) = _
              rw [hst, a4, andThen_some, List.append_assoc]
              rfl
            · obtain ⟨j, r, rfl, h1, h2, h3⟩ := ext_split hs'
              unfold lexB
              by_cases e : j = i
              · subst e
                rw [if_pos rfl]
                refine a3 r h3 ?_
                rw [← hc, List.append_assoc]; rfl
              · rw [if_neg (by omega)]
                have : ¬ j < i := fun hlt => by
                  have := i3 j h1 hlt r h3
                  rw [hc] at this; cases this
                exact decide_eq_false (by omega)
          · right
            refine ⟨i + 1, ⟨by omega, h, fun j hj1 hj2 s hs' => ?_⟩, by omega, ?_⟩
            · rcases Nat.lt_or_ge j i with h' | h'
              · exact i3 j hj1 h' s hs'
              · have : j = i := by omega
                subst this
                have := a1 s hs'
                rwa [List.append_assoc] at this
            · show f113l0B N (f113 N M) (f113l0 N (f113 N M) q) l (w : Int) ((k + 1 : Nat) : Int) (i : Int) (n : Int) 0 [] 0 hs ps cs ss (nts cs ss) = _
              rw [hst, a2, andThen_some]
              rfl
        · left
          have : i = n := by omega
          subst this
          refine ⟨.inr ((i : Int), 0, [], 0, hs, ps, cs, ss, nts cs ss), ?_, .inr ⟨fun s hs' => ?_, rfl⟩⟩
          · show f113l0B N (f113 N M) (f113l0 N (f113 N M) q) l (w : Int) ((k + 1 : Nat) : Int) (i : Int) (i : Int) 0 [] 0 hs ps cs ss (nts cs ss) = _
            unfold f113l0B
            rw [if_neg (by simp)]
          · obtain ⟨j, r, rfl, h1, h2, h3⟩ := ext_split hs'
            exact i3 j h1 h2 r h3) N first ⟨Nat.le_refl _, hfn, fun j hj1 hj2 => by omega⟩ (by omega)
    have e : f113 N (M + 1) (fl, l) (w : Int) (first : Int) ((k + 1 : Nat) : Int) (n : Int) 0 [] 0 hs ps cs ss (nts cs ss) = f113B N (f113 N M) (fl, l) (w : Int) (first : Int) ((k + 1 : Nat) : Int) (n : Int) 0 [] 0 hs ps cs ss (nts cs ss) := rfl
    rw [e]
    unfold f113B
    rw [if_neg (by simp; omega)]
    simp only
    rw [g1]
    rcases g2 with ⟨s, b1, b2, b3, rfl⟩ | ⟨b1, rfl⟩
    · exact .inl ⟨s, b1, b2, b3, rfl⟩
    · exact .inr ⟨b1, rfl⟩

/-- all sets, the smallest ones first -/
theorem f112_eq (N : Nat) (hN : 1000 ≤ N) (v : Valid hs ps cs ss) (n : Nat) (hn : n ≤ 10) :
    (∃ s, Ext n 0 s.length s ∧ canB hs ps (nts cs ss) s = true ∧ (∀ s', Ext n 0 s'.length s' → canB hs ps (nts cs ss) s' = true → lss s' s = false) ∧
      f112 N 0 (n : Int) [] 0 hs ps cs ss (nts cs ss) = some (1, (n : Int), s, (if s = [] then 6 else 0), hs, ps, cs, ss, nts cs ss)) ∨
    ((∀ s, Ext n 0 s.length s → canB hs ps (nts cs ss) s = false) ∧ f112 N 0 (n : Int) [] 0 hs ps cs ss (nts cs ss) = some (0, (n : Int), [], 0, hs, ps, cs, ss, nts cs ss)) := by
  have hlen : ∀ s : List Int, Ext n 0 s.length s → s.length ≤ n := fun s => by
    have key : ∀ (k : Nat) (s : List Int) (first : Nat), Ext n first k s → first ≤ n → k + first ≤ n := fun k => by
      induction k with
      | zero => intro s first h hf; omega
      | succ k ih =>
        intro s first h hf
        obtain ⟨i, r, rfl, h1, h2, h3⟩ := ext_split h
        have := ih r (i + 1) h3 (by omega)
        omega
    intro h
    have := key _ s 0 h (Nat.zero_le _)
    omega
  obtain ⟨r, g1, g2⟩ := loop_run (fun q (i : Nat) => f112l0 N q ((n + 1 : Nat) : Int) (i : Int) 0 (n : Int) [] 0 hs ps cs ss (nts cs ss))
    (fun i => i ≤ n + 1 ∧ ∀ s, s.length < i → Ext n 0 s.length s → canB hs ps (nts cs ss) s = false) (fun i => n + 1 - i)
    (fun r => (∃ s, Ext n 0 s.length s ∧ canB hs ps (nts cs ss) s = true ∧ (∀ s', Ext n 0 s'.length s' → canB hs ps (nts cs ss) s' = true → lss s' s = false) ∧ r = .inl (1, (n : Int), s, if s = [] then 6 else 0, hs, ps, cs, ss, nts cs ss)) ∨
      ((∀ s, Ext n 0 s.length s → canB hs ps (nts cs ss) s = false) ∧ r = .inr (0, (n : Int), [], 0, hs, ps, cs, ss, nts cs ss))) (fun q i hi => by
      obtain ⟨i1, i2⟩ := hi
      by_cases h : i < n + 1
      · have hst : f112l0B N (f112l0 N q) ((n + 1 : Nat) : Int) (i : Int) 0 (n : Int) [] 0 hs ps cs ss (nts cs ss) = andThen (f113 N N (true, []) 0 0 (i : Int) (n : Int) 0 [] 0 hs ps cs ss (nts cs ss)) fun y1 => (if (!y1.1) = true then some (Sum.inl (y1.2.2.1, y1.2.1, y1.2.2.2.1, y1.2.2.2.2.1, y1.2.2.2.2.2.1, y1.2.2.2.2.2.2.1, y1.2.2.2.2.2.2.2.1, y1.2.2.2.2.2.2.2.2.1, y1.2.2.2.2.2.2.2.2.2)) else f112l0 N q ((n + 1 : Nat) : Int) ((i + 1 : Nat) : Int) y1.2.2.1 y1.2.1 y1.2.2.2.1 y1.2.2.2.2.1 y1.2.2.2.2.2.1 y1.2.2.2.2.2.2.1 y1.2.2.2.2.2.2.2.1 y1.2.2.2.2.2.2.2.2.1 y1.2.2.2.2.2.2.2.2.2) := by
          unfold f112l0B
          simp only [show ((i : Int) < ((n + 1 : Nat) : Int)) by omega, decide_true, if_true, w_succ (show i < 4611686018427387904 by omega)]
        rcases of_eq hs ps cs ss N hN v n hn i N [] true 0 0 (by omega) (by omega) (by simp; omega) msk_nil (by simp) (Nat.zero_le _) with ⟨s, a1, a2, a3, a4⟩ | ⟨a1, a2⟩
        · left
          rw [List.nil_append] at a2 a4
          have hsl := a1.1
          refine ⟨_, ?_, .inl ⟨s, by rw [hsl]; exact a1, a2, fun s' hs' hc => ?_, rfl⟩⟩
          · show f112l0B N (f112l0 N q) ((n + 1 : Nat) : Int) (i : Int) 0 (n : Int) [] 0 hs ps cs ss (nts cs ss) = _
            have a4' : f113 N N (true, []) 0 0 (i : Int) (n : Int) 0 [] 0 hs ps cs ss (nts cs ss) = some (false, (n : Int), 1, s, if s = [] then 6 else 0, hs, ps, cs, ss, nts cs ss) := a4
            rw [hst, a4', andThen_some]
            rfl
          · unfold lss
            by_cases e : s'.length = s.length
            · rw [if_pos e]
              exact a3 s' (by rw [← hsl, ← e]; exact hs') hc
            · rw [if_neg e]
              refine decide_eq_false fun hlt => ?_
              have := i2 s' (by omega) hs'
              rw [hc] at this; cases this
        · right
          refine ⟨i + 1, ⟨h, fun s hl' hs' => ?_⟩, by omega, ?_⟩
          · rcases Nat.lt_or_ge s.length i with h' | h'
            · exact i2 s h' hs'
            · have hsl : s.length = i := by omega
              rw [hsl] at hs'
              exact a1 s hs'
          · show f112l0B N (f112l0 N q) ((n + 1 : Nat) : Int) (i : Int) 0 (n : Int) [] 0 hs ps cs ss (nts cs ss) = _
            have a2' : f113 N N (true, []) 0 0 (i : Int) (n : Int) 0 [] 0 hs ps cs ss (nts cs ss) = some (true, (n : Int), 0, [], 0, hs, ps, cs, ss, nts cs ss) := a2
            rw [hst, a2', andThen_some]
            rfl
      · left
        have : i = n + 1 := by omega
        subst this
        refine ⟨_, ?_, .inr ⟨fun s hs' => i2 s (by have := hlen s hs'; omega) hs', rfl⟩⟩
        show f112l0B N (f112l0 N q) ((n + 1 : Nat) : Int) ((n + 1 : Nat) : Int) 0 (n : Int) [] 0 hs ps cs ss (nts cs ss) = _
        unfold f112l0B
        rw [if_neg (by simp)]) N 0 ⟨Nat.zero_le _, fun s h => by omega⟩ (by omega)
  have g1 : f112l0 N N ((n + 1 : Nat) : Int) 0 0 (n : Int) [] 0 hs ps cs ss (nts cs ss) = some r := g1
  unfold f112
  rw [w_succ (show n < 4611686018427387904 by omega), g1, andThen_some]
  rcases g2 with ⟨s, b1, b2, b3, rfl⟩ | ⟨b1, rfl⟩
  · exact .inl ⟨s, b1, b2, b3, rfl⟩
  · exact .inr ⟨b1, rfl⟩

theorem f38_bad (N : Nat) (hN : 100 ≤ N) (h1 : hs.length < 100) (h2 : ps.length < 100) (h3 : cs.length < 100) (h4 : ss.length < 100) (hc : chk hs ps cs ss ≠ 0) : f38 N hs ps cs ss = some ([], chk hs ps cs ss) := by
  unfold f38
  rw [f18_eq N hs ps cs ss hN h1 h2 h3 h4, andThen_some, if_pos (by simpa using hc)]
theorem f38_eq (N : Nat) (hN : 1000 ≤ N) (v : Valid hs ps cs ss) :
    (∃ s, Ext (nts cs ss).length 0 s.length s ∧ canB hs ps (nts cs ss) s = true ∧ (∀ s', Ext (nts cs ss).length 0 s'.length s' → canB hs ps (nts cs ss) s' = true → lss s' s = false) ∧
      f38 N hs ps cs ss = some (s, if s = [] then 6 else 0)) ∨
    ((∀ s, Ext (nts cs ss).length 0 s.length s → canB hs ps (nts cs ss) s = false) ∧ f38 N hs ps cs ss = some ([], 9)) := by
  have n5 := v.n5
  have p8 := v.p8
  have c6 := v.c6
  have s4 := v.s4
  have hl := nts_len cs ss
  unfold f38
  rw [f18_eq N hs ps cs ss (by omega) (by omega) (by omega) (by omega) (by omega), andThen_some, chk_valid.2 v, if_neg (by decide), f90_eq N hs ps cs ss (by omega) (by omega) (by omega), andThen_some]
  unfold f91
  simp only [andThen_some]
  rcases f112_eq hs ps cs ss N hN v (nts cs ss).length (by omega) with ⟨s, a1, a2, a3, a4⟩ | ⟨a1, a2⟩
  · exact .inl ⟨s, a1, a2, a3, by rw [a4, andThen_some]; rfl⟩
  · exact .inr ⟨a1, by rw [a2, andThen_some]; rfl⟩
end
end Go.Pl

namespace Go.Pl
open Go.Al Go.Proofs

theorem wu64_id {z : Int} (h1 : 0 ≤ z) (h2 : z < 9000000000000000000) : Go.IntKind.wrap .u64 z = z := by
  show Int.emod z 18446744073709551616 = z
  exact Int.emod_eq_of_lt h1 (by omega)
theorem filt_cut (P : Nat → Bool) {i n : Nat} (hi : i ≤ n) (h : ∀ j, i ≤ j → j < n → P j = false) : filt P n = filt P i := by
  induction n with
  | zero => rw [show i = 0 by omega]
  | succ n ih =>
    by_cases e : i = n + 1
    · rw [e]
    · rw [filt_succ, if_neg (by rw [h n (by omega) (by omega)]; decide)]
      exact ih (by omega) fun j h1 h2 => h j h1 (by omega)
/-- the numbers of a set -/
def bits (w : Nat) : List Int := filt (fun i => w.testBit i) 20
theorem bits_mem {w i : Nat} (hw : w < 2 ^ 20) : (i : Int) ∈ bits w ↔ w.testBit i = true := by
  unfold bits filt
  rw [List.mem_map]
  constructor
  · rintro ⟨j, hj, e⟩
    rw [List.mem_filter] at hj
    have : j = i := by omega
    subst this; exact hj.2
  · intro h
    refine ⟨i, ?_, rfl⟩
    rw [List.mem_filter, List.mem_range]
    refine ⟨?_, h⟩
    rcases Nat.lt_or_ge i 20 with h' | h'
    · exact h'
    · rw [Nat.testBit_lt_two_pow (Nat.lt_of_lt_of_le hw (Nat.pow_le_pow_right (by decide) h'))] at h; cases h
theorem filt_sorted (P : Nat → Bool) (n : Nat) : (filt P n).Pairwise (· < ·) := by
  unfold filt
  rw [List.pairwise_map]
  exact (List.pairwise_lt_range.filter P).imp fun h => by omega
theorem sorted_ext : ∀ (a b : List Int), a.Pairwise (· < ·) → b.Pairwise (· < ·) → (∀ x, x ∈ a ↔ x ∈ b) → a = b := by
  intro a
  induction a with
  | nil => intro b _ _ h; cases b with
    | nil => rfl
    | cons y b => exact absurd ((h y).2 (by simp)) (by simp)
  | cons x a ih =>
    intro b ha hb h
    cases b with
    | nil => exact absurd ((h x).1 (by simp)) (by simp)
    | cons y b =>
      rw [List.pairwise_cons] at ha hb
      have e : x = y := by
        rcases List.mem_cons.1 ((h x).1 (by simp)) with e | e
        · exact e
        · rcases List.mem_cons.1 ((h y).2 (by simp)) with e' | e'
          · exact e'.symm
          · have := ha.1 y e'
            have := hb.1 x e
            omega
      subst e
      rw [ih b ha.2 hb.2 fun z => ⟨fun hz => ?_, fun hz => ?_⟩]
      · rcases List.mem_cons.1 ((h z).1 (by simp [hz])) with e | e
        · subst e; have := ha.1 z hz; omega
        · exact e
      · rcases List.mem_cons.1 ((h z).2 (by simp [hz])) with e | e
        · subst e; have := hb.1 z hz; omega
        · exact e
theorem bits_ext {w n : Nat} (hn : n ≤ 20) (hw : w < 2 ^ n) : Ext n 0 (bits w).length (bits w) := by
  have hw' : w < 2 ^ 20 := Nat.lt_of_lt_of_le hw (Nat.pow_le_pow_right (by decide) hn)
  refine ⟨rfl, filt_sorted _ _, fun x hx => ?_⟩
  have h0 := filt_pos _ _ x hx
  obtain ⟨i, rfl⟩ : ∃ i : Nat, x = (i : Int) := ⟨x.toNat, by omega⟩
  have := (bits_mem hw').1 hx
  refine ⟨by omega, ?_⟩
  rcases Nat.lt_or_ge i n with h' | h'
  · omega
  · rw [Nat.testBit_lt_two_pow (Nat.lt_of_lt_of_le hw (Nat.pow_le_pow_right (by decide) h'))] at this; cases this
theorem ext_bits {n : Nat} {s : List Int} (hn : n ≤ 20) (h : Ext n 0 s.length s) : ∃ w, w < 2 ^ n ∧ bits w = s := by
  obtain ⟨_, h1, h2⟩ := h
  have key : ∀ k, k ≤ s.length → ∃ w, Msk w (s.take k) := fun k => by
    induction k with
    | zero => intro _; exact ⟨0, msk_nil⟩
    | succ k ih =>
      intro hk
      obtain ⟨w, hw⟩ := ih (by omega)
      rw [take_get s 0 (by omega)]
      have := h2 _ (getD_mem (d := 0) (show k < s.length by omega))
      obtain ⟨i, hi⟩ : ∃ i : Nat, s.getD k 0 = (i : Int) := ⟨(s.getD k 0).toNat, by omega⟩
      rw [hi] at this ⊢
      exact ⟨_, msk_snoc hw (by omega)⟩
  obtain ⟨w, hw⟩ := key s.length (Nat.le_refl _)
  rw [List.take_length] at hw
  refine ⟨w, Nat.lt_pow_two_of_testBit w fun i hi => ?_, ?_⟩
  · rcases Nat.lt_or_ge i 20 with h' | h'
    · have := hw.2 i h'
      cases hb : w.testBit i with
      | false => rfl
      | true =>
        have := h2 _ (this.1 hb)
        omega
    · exact Nat.testBit_lt_two_pow (Nat.lt_of_lt_of_le hw.1 (Nat.pow_le_pow_right (by decide) h'))
  · refine sorted_ext _ _ (filt_sorted _ _) h1 fun x => ?_
    constructor
    · intro hx
      have h0 := filt_pos _ _ x hx
      obtain ⟨i, rfl⟩ : ∃ i : Nat, x = (i : Int) := ⟨x.toNat, by omega⟩
      have := (bits_mem hw.1).1 hx
      have hi : i < 20 := by
        rcases Nat.lt_or_ge i 20 with h' | h'
        · exact h'
        · rw [Nat.testBit_lt_two_pow (Nat.lt_of_lt_of_le hw.1 (Nat.pow_le_pow_right (by decide) h'))] at this; cases this
      exact (hw.2 i hi).1 this
    · intro hx
      have := h2 x hx
      obtain ⟨i, rfl⟩ : ∃ i : Nat, x = (i : Int) := ⟨x.toNat, by omega⟩
      exact (bits_mem hw.1).2 ((hw.2 i (by omega)).2 hx)

theorem bitAt_nat {w i : Nat} (hi : i ≤ 20) : (Go.IntKind.wrap .i64 (((((BitVec.ofInt (Go.IntKind.bits .i64) ((w / 2 ^ i : Nat) : Int)) &&& (BitVec.ofInt (Go.IntKind.bits .i64) (1 : Int)))).toNat : Nat) : Int) == (1 : Int)) = w.testBit i := by
  have e2 : (BitVec.ofInt (Go.IntKind.bits .i64) ((w / 2 ^ i : Nat) : Int) &&& BitVec.ofInt (Go.IntKind.bits .i64) 1).toNat = w / 2 ^ i % 2 := by
    rw [BitVec.ofInt_natCast, BitVec.toNat_and, BitVec.toNat_ofNat]
    show w / 2 ^ i % 2 ^ 64 &&& 1 = _
    rw [Nat.and_one_is_mod, Nat.mod_mod_of_dvd _ (by decide)]
  rw [e2, w64_id (by omega) (by have := Nat.mod_lt (w / 2 ^ i) (show 0 < 2 by decide); omega), Nat.testBit_eq_decide_div_mod_eq]
  have := Nat.mod_lt (w / 2 ^ i) (show 0 < 2 by decide)
  rcases (show w / 2 ^ i % 2 = 0 ∨ w / 2 ^ i % 2 = 1 by omega) with h | h <;> rw [h] <;> rfl

theorem f94_eq (N : Nat) (w : Nat) (hN : 100 ≤ N) (hw : w < 2 ^ 20) : f94 N (w : Int) = some (bits w) := by
  obtain ⟨r, h1, h2⟩ := loop_run (fun q (i : Nat) => f94l0 N q (w : Int) (filt (fun i => w.testBit i) i) (i : Int)) (fun i => i ≤ 20) (fun i => 20 - i) (fun r => r = bits w) (fun q i hi => by
    have e1 : (2 : Int) ^ (min i (Go.IntKind.bits .i64)) = ((2 ^ i : Nat) : Int) := by
      rw [Nat.min_eq_left (show i ≤ Go.IntKind.bits .i64 by show i ≤ 64; omega), Int.natCast_pow]; rfl
    have hle := filt_len (fun i => w.testBit i) i
    have hb : Nat.ble ((filt (fun i => w.testBit i) i).length + [(i : Int)].length) boundLen = true := by simp [boundLen]; omega
    have hst : f94l0B N (f94l0 N q) (w : Int) (filt (fun i => w.testBit i) i) (i : Int) = if w / 2 ^ i > 0 then f94l0 N q (w : Int) (filt (fun i => w.testBit i) (i + 1)) ((i + 1 : Nat) : Int) else some (filt (fun i => w.testBit i) i) := by
      unfold f94l0B
      rw [wu64_id (z := (i : Int)) (by omega) (by omega)]
      simp only [Int.natCast_nonneg, decide_true, if_true, Int.toNat_natCast, e1, ← Int.ofNat_fdiv, bitAt_nat hi, hb, w_succ (show i < 4611686018427387904 by omega)]
      by_cases c : w / 2 ^ i > 0
      · rw [if_pos (decide_eq_true (by omega)), if_pos c, filt_succ]
        cases w.testBit i <;> rfl
      · rw [if_neg (by rw [decide_eq_false (by omega)]; decide), if_neg c]
    by_cases c : w / 2 ^ i > 0
    · right
      have : i < 20 := by
        rcases Nat.lt_or_ge i 20 with h' | h'
        · exact h'
        · rw [Nat.div_eq_of_lt (Nat.lt_of_lt_of_le hw (Nat.pow_le_pow_right (by decide) h'))] at c; omega
      refine ⟨i + 1, this, by omega, ?_⟩
      show f94l0B N (f94l0 N q) (w : Int) (filt (fun i => w.testBit i) i) (i : Int) = _
      rw [hst, if_pos c]
    · left
      refine ⟨filt (fun i => w.testBit i) i, ?_, ?_⟩
      · show f94l0B N (f94l0 N q) (w : Int) (filt (fun i => w.testBit i) i) (i : Int) = _
        rw [hst, if_neg c]
      · unfold bits
        refine (filt_cut _ hi fun j h1 h2 => ?_).symm
        have hlt : w < 2 ^ i := by
          rcases Nat.lt_or_ge w (2 ^ i) with h | h
          · exact h
          · exact absurd (Nat.div_pos h (Nat.two_pow_pos i)) c
        exact Nat.testBit_lt_two_pow (Nat.lt_of_lt_of_le hlt (Nat.pow_le_pow_right (by decide) h1))) N 0 (Nat.zero_le _) (by omega)
  rw [h2] at h1
  unfold f94
  have h1 : f94l0 N N (w : Int) [] 0 = some (bits w) := h1
  rw [h1]; rfl

theorem f95_eq (N : Nat) (a b : List Int) (hN : 1000 ≤ N) (ha : a.length < 1000) : f95 N a b = some (lss a b) := by
  unfold f95 lss
  by_cases hl : a.length = b.length
  case neg =>
    rw [if_pos (by simp; omega), if_neg hl]
    congr 1
    rw [decide_eq_decide]; omega
  rw [if_neg (by simp; omega), if_pos hl]
  obtain ⟨r, h1, h2⟩ := loop_run (fun q (i : Nat) => f95l0 N q a b (i : Int)) (fun i => i ≤ a.length ∧ lexB (a.drop i) (b.drop i) = lexB a b) (fun i => a.length - i) (fun r => r = .inl (lexB a b) ∨ (r = .inr () ∧ lexB a b = false)) (fun q i hi => by
    obtain ⟨i1, i2⟩ := hi
    by_cases h : i < a.length
    · have hb : i < b.length := by omega
      have ea : a.drop i = a.getD i 0 :: a.drop (i + 1) := by rw [List.drop_eq_getElem_cons h, List.getD_eq_getElem?_getD, List.getElem?_eq_getElem h]; rfl
      have eb : b.drop i = b.getD i 0 :: b.drop (i + 1) := by rw [List.drop_eq_getElem_cons hb, List.getD_eq_getElem?_getD, List.getElem?_eq_getElem hb]; rfl
      rw [ea, eb] at i2
      have hst : f95l0B N (f95l0 N q) a b (i : Int) = if a.getD i 0 = b.getD i 0 then f95l0 N q a b ((i + 1 : Nat) : Int) else some (.inl (decide (a.getD i 0 < b.getD i 0))) := by
        unfold f95l0B
        simp only [show ((i : Int) < (a.length : Int)) by omega, show ((i : Int) < (b.length : Int)) by omega, Int.natCast_nonneg, decide_true, Bool.and_true, if_true, Int.toNat_natCast, w_succ (show i < 4611686018427387904 by omega)]
        by_cases c : a.getD i 0 = b.getD i 0
        · rw [if_neg (by rw [c]; simp), if_pos c]
        · rw [if_pos (by simp only [bne_iff_ne, ne_eq]; exact c), if_neg c]
      unfold lexB at i2
      by_cases c : a.getD i 0 = b.getD i 0
      · right
        rw [if_pos c] at i2
        refine ⟨i + 1, ⟨h, ?_⟩, by omega, ?_⟩
        · rw [i2]; exact (by cases a <;> cases b <;> rfl)
        · show f95l0B N (f95l0 N q) a b (i : Int) = _
          rw [hst, if_pos c]
      · left
        rw [if_neg c] at i2
        refine ⟨.inl (lexB a b), ?_, .inl rfl⟩
        show f95l0B N (f95l0 N q) a b (i : Int) = _
        rw [hst, if_neg c, i2]
        cases a <;> cases b <;> rfl
    · left
      have : i = a.length := by omega
      subst this
      refine ⟨.inr (), ?_, .inr ⟨rfl, ?_⟩⟩
      · show f95l0B N (f95l0 N q) a b (a.length : Int) = _
        unfold f95l0B
        rw [if_neg (by simp)]
      · rw [← i2, List.drop_length]; cases List.drop a.length b <;> rfl) N 0 ⟨Nat.zero_le _, by rw [List.drop_zero, List.drop_zero]⟩ (by omega)
  have h1 : f95l0 N N a b 0 = some r := h1
  rw [h1, andThen_some]
  rcases h2 with rfl | ⟨rfl, h2⟩
  · rfl
  · rw [h2]; rfl

theorem lexB_irr : ∀ a : List Int, lexB a a = false := by
  intro a
  induction a with
  | nil => rfl
  | cons x a ih => unfold lexB; rw [if_pos rfl]; exact ih
theorem lss_irr (a : List Int) : lss a a = false := by unfold lss; rw [if_pos rfl]; exact lexB_irr a

section
variable (hs : List Span) (ps : List Pr) (cs : List Cn) (ss : List Sg)
theorem f41_can (N : Nat) (but : List Int) (hN : 50000 ≤ N) (v : Valid hs ps cs ss) (hbl : but.length < 100) :
    ∃ o, f41 N hs ps cs ss but = some (o, canB hs ps (nts cs ss) but) ∧ o.length = hs.length ∧ (canB hs ps (nts cs ss) but = true → Exact ps o (Truth hs ps (KBut (nts cs ss) but))) := by
  obtain ⟨o, ok, e1, e2, e3, e4⟩ := f41_eq N hs ps cs ss but hN v hbl
  have : ok = canB hs ps (nts cs ss) but := by rw [Bool.eq_iff_iff, e3, canB_iff]
  subst this
  exact ⟨o, e1, e2, e4⟩

theorem f40_eq (N : Nat) (hN : 50000 ≤ N) (v : Valid hs ps cs ss) :
    (∃ s, Ext (nts cs ss).length 0 s.length s ∧ canB hs ps (nts cs ss) s = true ∧ (∀ s', Ext (nts cs ss).length 0 s'.length s' → canB hs ps (nts cs ss) s' = true → lss s' s = false) ∧
      f40 N hs ps cs ss = some (s, true)) ∨
    ((∀ s, Ext (nts cs ss).length 0 s.length s → canB hs ps (nts cs ss) s = false) ∧ f40 N hs ps cs ss = some ([], false)) := by
  have n5 := v.n5
  have p8 := v.p8
  have c6 := v.c6
  have s4 := v.s4
  have hl := nts_len cs ss
  generalize hn : (nts cs ss).length = n at *
  have hn10 : n ≤ 10 := by omega
  have h1024 : 2 ^ n ≤ 1024 := Nat.le_trans (Nat.pow_le_pow_right (by decide) hn10) (by decide)
  have hlen : ∀ w, (bits w).length ≤ 20 := fun w => filt_len _ _
  obtain ⟨r, g1, g2⟩ := loop_run (fun q (s : Nat × Bool × List Int) => f40l0 N q s.2.2 s.2.1 (s.1 : Int) hs ps cs ss)
    (fun s => s.1 ≤ 2 ^ n ∧ ((s.2.1 = false ∧ s.2.2 = [] ∧ ∀ u, u < s.1 → canB hs ps (nts cs ss) (bits u) = false) ∨ (s.2.1 = true ∧ (∃ u, u < s.1 ∧ s.2.2 = bits u) ∧ canB hs ps (nts cs ss) s.2.2 = true ∧ ∀ u, u < s.1 → canB hs ps (nts cs ss) (bits u) = true → lss (bits u) s.2.2 = false)))
    (fun s => 2 ^ n - s.1)
    (fun r => (r = ([], false) ∧ ∀ u, u < 2 ^ n → canB hs ps (nts cs ss) (bits u) = false) ∨ (∃ u, u < 2 ^ n ∧ r = (bits u, true) ∧ canB hs ps (nts cs ss) (bits u) = true ∧ ∀ u', u' < 2 ^ n → canB hs ps (nts cs ss) (bits u') = true → lss (bits u') (bits u) = false)) (by
      rintro q ⟨u, fd, b⟩ ⟨i1, i2⟩
      simp only at i1 i2 ⊢
      have hpw : Go.IntKind.wrap .i64 (1 * (2 ^ (min (Int.toNat (Go.IntKind.wrap .u64 (Go.IntKind.wrap .i64 ((cs.length : Int) + (ss.length : Int))))) (Go.IntKind.bits .i64)))) = ((2 ^ n : Nat) : Int) := by
        rw [w64_id (z := (cs.length : Int) + (ss.length : Int)) (by omega) (by omega), wu64_id (by omega) (by omega), show ((cs.length : Int) + (ss.length : Int)).toNat = n by omega, wrap_pow (by omega)]
      have h0 : decide (0 ≤ Go.IntKind.wrap .u64 (Go.IntKind.wrap .i64 ((cs.length : Int) + (ss.length : Int)))) = true := by
        rw [w64_id (z := (cs.length : Int) + (ss.length : Int)) (by omega) (by omega), wu64_id (by omega) (by omega)]
        exact decide_eq_true (by omega)
      by_cases hu : u < 2 ^ n
      · right
        have hu20 : u < 2 ^ 20 := by omega
        obtain ⟨o, e1, _, _⟩ := f41_can hs ps cs ss N (bits u) hN v (by have := hlen u; omega)
        have hst : f40l0B N (f40l0 N q) b fd (u : Int) hs ps cs ss = if fd = true ∧ lss (bits u) b = false then f40l0 N q b fd ((u + 1 : Nat) : Int) hs ps cs ss else if canB hs ps (nts cs ss) (bits u) = true then f40l0 N q (bits u) true ((u + 1 : Nat) : Int) hs ps cs ss else f40l0 N q b fd ((u + 1 : Nat) : Int) hs ps cs ss := by
          unfold f40l0B
          rw [hpw]
          simp only [h0, show ((u : Int) < ((2 ^ n : Nat) : Int)) by omega, decide_true, if_true, f94_eq N u (show 100 ≤ N by omega) hu20, andThen_some, f95_eq N (bits u) b (show 1000 ≤ N by omega) (show (bits u).length < 1000 by have := hlen u; omega), e1, w_succ (show u < 4611686018427387904 by omega)]
          cases fd <;> cases lss (bits u) b <;> simp
        by_cases hc : fd = true ∧ lss (bits u) b = false
        · rcases i2 with ⟨rfl, _⟩ | ⟨_, a1, a2, a3⟩
          · cases hc.1
          refine ⟨(u + 1, fd, b), ⟨hu, .inr ⟨hc.1, ?_, a2, fun w h1 h2 => ?_⟩⟩, by simp only; omega, ?_⟩
          · obtain ⟨w, h1, h2⟩ := a1
            exact ⟨w, by omega, h2⟩
          · rcases Nat.lt_or_ge w u with h' | h'
            · exact a3 w h' h2
            · have : w = u := by omega
              subst this; exact hc.2
          · show f40l0B N (f40l0 N q) b fd (u : Int) hs ps cs ss = _
            rw [hst, if_pos hc]
        · by_cases hk : canB hs ps (nts cs ss) (bits u) = true
          · refine ⟨(u + 1, true, bits u), ⟨hu, .inr ⟨rfl, ⟨u, by omega, rfl⟩, hk, fun w h1 h2 => ?_⟩⟩, by simp only; omega, ?_⟩
            · rcases Nat.lt_or_ge w u with h' | h'
              · rcases i2 with ⟨_, _, a1⟩ | ⟨h3, _, a2, a3⟩
                · rw [a1 w h'] at h2; cases h2
                · have hlt : lss (bits u) b = true := by
                    cases h4 : lss (bits u) b with
                    | true => rfl
                    | false => exact absurd ⟨h3, h4⟩ hc
                  cases h5 : lss (bits w) (bits u) with
                  | false => rfl
                  | true =>
                    have := a3 w h' h2
                    rw [lss_trans h5 hlt] at this; cases this
              · have : w = u := by omega
                subst this; exact lss_irr _
            · show f40l0B N (f40l0 N q) b fd (u : Int) hs ps cs ss = _
              rw [hst, if_neg hc, if_pos hk]
          · have hk' : canB hs ps (nts cs ss) (bits u) = false := by simpa using hk
            refine ⟨(u + 1, fd, b), ⟨hu, ?_⟩, by simp only; omega, ?_⟩
            · rcases i2 with ⟨h3, h4, a1⟩ | ⟨h3, a1, a2, a3⟩
              · refine .inl ⟨h3, h4, fun w h1 => ?_⟩
                rcases Nat.lt_or_ge w u with h' | h'
                · exact a1 w h'
                · have : w = u := by omega
                  subst this; exact hk'
              · refine .inr ⟨h3, ?_, a2, fun w h1 h2 => ?_⟩
                · obtain ⟨w, h1, h2⟩ := a1
                  exact ⟨w, by omega, h2⟩
                · rcases Nat.lt_or_ge w u with h' | h'
                  · exact a3 w h' h2
                  · have : w = u := by omega
                    subst this; rw [hk'] at h2; cases h2
            · show f40l0B N (f40l0 N q) b fd (u : Int) hs ps cs ss = _
              rw [hst, if_neg hc, if_neg hk]
      · left
        have : u = 2 ^ n := by omega
        refine ⟨(b, fd), ?_, ?_⟩
        · show f40l0B N (f40l0 N q) b fd (u : Int) hs ps cs ss = _
          unfold f40l0B
          rw [hpw]
          simp only [h0, if_true]
          rw [if_neg (by rw [this]; simp)]
        · rw [this] at i2
          rcases i2 with ⟨rfl, rfl, a1⟩ | ⟨rfl, ⟨w, h1, rfl⟩, a2, a3⟩
          · exact .inl ⟨rfl, a1⟩
          · exact .inr ⟨w, h1, rfl, a2, a3⟩) N (0, false, []) ⟨Nat.zero_le _, .inl ⟨rfl, rfl, fun u hu => by simp only at hu; omega⟩⟩ (by simp only; omega)
  have g1 : f40l0 N N [] false 0 hs ps cs ss = some r := g1
  unfold f40
  rw [g1, andThen_some]
  rcases g2 with ⟨rfl, a1⟩ | ⟨u, h1, rfl, a2, a3⟩
  · right
    refine ⟨fun s hs' => ?_, rfl⟩
    obtain ⟨w, hw, rfl⟩ := ext_bits (show n ≤ 20 by omega) hs'
    exact a1 w hw
  · left
    refine ⟨bits u, bits_ext (show n ≤ 20 by omega) h1, a2, fun s' hs' hc => ?_, rfl⟩
    obtain ⟨w, hw, rfl⟩ := ext_bits (show n ≤ 20 by omega) hs'
    exact a3 w hw hc
end
end Go.Pl

namespace Go.Pl
open Go.Proofs
theorem known_ok : f16 50000 = some true := by kernel_rfl
end Go.Pl

namespace Go.Proofs.Ytegckmajjklonaa
open Go.ChangeShapes Go.WideShapes Go.ChangeAt Go.RowKit Go.Al
/-- the plain statement of Lies -/
def Pure13 : Prop := ∀ (x0 : den Kiln) (x1 : den (.list Two8)), GoodD Kiln x0 → GoodD (.list Two8) x1 → ∃ N, f13 N x0.1 x0.2.1 x0.2.2.1 x0.2.2.2 x1 = some true
set_option maxRecDepth 100000 in
theorem lifted13 (pure : Pure13) (os : Os) (started : os.Started) (H : Type) (enc : TypeId × Value → H) :
    ReturnsInHanded {} Try.checked os 13 .any (Rows.furnaceLiesSpec.pre6 enc Try.prog Try.f13 Rows.furnaceLiesRow.domain false) (Rows.furnaceLiesSpec.post enc Try.prog Try.f13 false true false false) := by
  refine returnsInHanded_of_change (C := Try.checked) own started (by kernel_rfl) Try.func13
    (ChangeSpec.witness6 (enc := enc) (C := Try.checked) false ⟨#[], #[.agg #[.slice none 0 0, .slice none 0 0, .slice none 0 0, .slice none 0 0], .slice none 0 0], []⟩ 8 (by kernel_rfl) (by kernel_rfl) (by kernel_rfl) (by kernel_rfl)) ?_
  intro W base args ds gs before hval0 hW hcnd _
  have hval : ∀ (j : Nat) t v, Try.f13.params[j]? = some t → args[j]? = some v → Value.okWide Try.prog W .any base t v := hval0
  have hW' := hW
  obtain ⟨p, q, hA0, hV, rfl, hfz, hnd⟩ := hW
  have hA : DataW.TrodAll enc Try.prog W 0 (fun _ => true) true Try.f13.params.toList args.toList ds p := hA0
  rw [show Try.f13.params.toList = [80, 78] by kernel_rfl] at hA
  obtain ⟨v0, vs0, d0, ds0, p0, q0, hargs, rfl, rfl, h0, r0⟩ := trodAll_cons hA
  obtain ⟨v1, vs1, d1, ds1, p1, q1, rfl, rfl, rfl, h1, r1⟩ := trodAll_cons r0
  obtain ⟨rfl, rfl, rfl⟩ := trodAll_nil r1
  obtain rfl : args = #[v0, v1] := by cases args; simp_all
  obtain ⟨rfl, rfl⟩ := trodVars_none hV
  obtain ⟨x0, g0, c0⟩ := arg_agg (ω := fun _ => 0) (by kernel_rfl) 20 Kiln (by kernel_rfl) (hval 0 80 v0 (by kernel_rfl) rfl) h0
  obtain ⟨x1, g1, c1⟩ := arg_slice (ω := fun _ => 0) (by kernel_rfl) 20 Two8 (by kernel_rfl) (hval 1 78 v1 (by kernel_rfl) rfl) h1
  obtain ⟨N, hN⟩ := pure x0 x1 g0 g1
  have key := law_calls (W := W) (f13ok N) (by kernel_rfl) (ins := [.agg (cellsT Kiln x0), .one (.sl Two8 x1 none false)]) (cargs := [v0, v1]) (mres := [])
    (show andThen (f13 N x0.1 x0.2.1 x0.2.2.1 x0.2.2.2 x1) (fun y => some (AV.a (.one (.bool y)), ([] : Mem))) = _ by rw [hN]; rfl) (.cons c0 (.cons c1 .nil))
  refine key.mono fun e W' ⟨he, bel⟩ => ?_
  subst he
  exact ⟨_, rfl, _, _, _, [], _, [], hW', trodAll_mk1 (shut_bool (by kernel_rfl) _), (trodAll_cons_mk (bel.trod laidOut (by kernel_rfl) (of_decide_eq_true (by kernel_rfl)) h0) (trodAll_cons_mk (bel.trod laidOut (by kernel_rfl) (of_decide_eq_true (by kernel_rfl)) h1) trodAll_mk0)), rfl, bel.frame _, fun h => by cases h⟩
theorem row13 (pure : Pure13) : Rows.FurnaceLiesSaid :=
  OpenClaim.holds_of_wide 13 Try.f13 rfl rfl rfl rfl rfl rfl rfl ⟨rfl, rfl, rfl, rfl, rfl⟩ rfl rfl rfl rfl rfl (by kernel_rfl) Try.func13 (by kernel_rfl)
    (of_decide_eq_true (by kernel_rfl)) (by unfold Func.isWrapper; first | (rw [if_pos (by decide +kernel)]; kernel_rfl) | (rw [if_neg (by decide +kernel)]; exact ⟨rfl, rfl⟩))
    (fun os started H enc _ => lifted13 pure os started H enc)
end Go.Proofs.Ytegckmajjklonaa

namespace Go.Pl
open Go.Al Go.Proofs

theorem getD_setB' (U : List Bool) (a b : Nat) (x : Bool) : (U.set a x).getD b false = if a = b ∧ a < U.length then x else U.getD b false := getD_set U a b x false
theorem filt_set_len (U : List Bool) (p : Nat) (hp : p < U.length) (h : U.getD p false = false) : ∀ n, (filt (fun i => (U.set p true).getD i false) n).length = (filt (fun i => U.getD i false) n).length + if p < n then 1 else 0 := by
  intro n
  induction n with
  | zero => rfl
  | succ n ih =>
    by_cases e : p = n
    · subst e
      have hT : (U.set p true).getD p false = true := by rw [getD_setB', if_pos ⟨rfl, hp⟩]
      rw [filt_succ, filt_succ]
      simp only [hT, h, if_true, Bool.false_eq_true, if_false, List.length_append, ih]
      simp
    · have hE : (U.set p true).getD n false = U.getD n false := by rw [getD_setB', if_neg (by rintro ⟨e', _⟩; exact e e')]
      rw [filt_succ, filt_succ]
      simp only [hE]
      have hi : (if p < n + 1 then 1 else 0 : Nat) = if p < n then 1 else 0 := by
        by_cases c : p < n
        · rw [if_pos c, if_pos (by omega)]
        · rw [if_neg c, if_neg (by omega)]
      rw [hi]
      cases U.getD n false with
      | true =>
        simp only [if_true, List.length_append, ih]
        omega
      | false =>
        simp only [Bool.false_eq_true, if_false, ih]
theorem mem_filtB (P : Nat → Bool) {n a : Nat} : (a : Int) ∈ filt P n ↔ a < n ∧ P a = true := by
  unfold filt
  rw [List.mem_map]
  constructor
  · rintro ⟨j, hj, e⟩
    rw [List.mem_filter, List.mem_range] at hj
    have : j = a := by omega
    subst this; exact hj
  · rintro ⟨h1, h⟩
    exact ⟨a, by rw [List.mem_filter, List.mem_range]; exact ⟨h1, h⟩, rfl⟩

section
variable (hs : List Span) (ps : List Pr)
/-- notes of which some were written wrong -/
structure Bad (cs : List Cn) (ss : List Sg) (cs' : List Cn) (ss' : List Sg) (U : List Bool) (many : Nat) : Prop where
  lc : cs'.length = cs.length
  ls : ss'.length = ss.length
  c : ∀ q ∈ cs', okCn hs.length q
  s : ∀ q ∈ ss', okSg hs.length q
  ul : U.length = 8
  un : ∀ i, i < cs.length + ss.length → U.getD i false = false → nt (nts cs' ss') i = nt (nts cs ss) i
  m : many = (filt (fun i => U.getD i false) (cs.length + ss.length)).length

theorem nts_getL {cs : List Cn} {ss : List Sg} {i : Nat} (hi : i < cs.length) : nt (nts cs ss) i = .inl (cs.getD i ((0 : Int), ((0 : Int), false))) := nt_left hi
theorem set_getC (cs : List Cn) (p j : Nat) (x : Cn) : (cs.set p x).getD j ((0 : Int), ((0 : Int), false)) = if p = j ∧ p < cs.length then x else cs.getD j ((0 : Int), ((0 : Int), false)) := getD_set cs p j x _
theorem set_getS (ss : List Sg) (p j : Nat) (x : Sg) : (ss.set p x).getD j ((0 : Int), (((0 : Int), (0 : Int)), (0 : Int))) = if p = j ∧ p < ss.length then x else ss.getD j ((0 : Int), (((0 : Int), (0 : Int)), (0 : Int))) := getD_set ss p j x _

theorem bad_cone {cs : List Cn} {ss : List Sg} {cs' : List Cn} {ss' : List Sg} {U : List Bool} {many : Nat} (h : Bad hs cs ss cs' ss' U many) (h8 : cs.length + ss.length ≤ 8) {p : Nat} (hp : p < cs.length) (hU : U.getD p false = false) (x : Cn) (hx : okCn hs.length x) :
    Bad hs cs ss (cs'.set p x) ss' (U.set p true) (many + 1) := by
  refine ⟨by rw [List.length_set, h.lc], h.ls, fun q hq => ?_, h.s, by rw [List.length_set, h.ul], fun i hi hU' => ?_, ?_⟩
  · rcases List.mem_or_eq_of_mem_set hq with hq | rfl
    · exact h.c q hq
    · exact hx
  · rw [getD_setB'] at hU'
    by_cases e : p = i
    · rw [if_pos ⟨e, by rw [h.ul]; omega⟩] at hU'; cases hU'
    · rw [if_neg (by rintro ⟨e', _⟩; exact e e')] at hU'
      rw [← h.un i hi hU']
      rcases Nat.lt_or_ge i cs.length with c | c
      · rw [nts_getL (by rw [List.length_set, h.lc]; exact c), nts_getL (by rw [h.lc]; exact c), set_getC, if_neg (by rintro ⟨e', _⟩; exact e e')]
      · obtain ⟨j, rfl⟩ : ∃ j, i = cs.length + j := ⟨i - cs.length, by omega⟩
        have e1 : cs.length + j = (cs'.set p x).length + j := by rw [List.length_set, h.lc]
        have e2 : cs.length + j = cs'.length + j := by rw [h.lc]
        rw [show nt (nts (cs'.set p x) ss') (cs.length + j) = nt (nts (cs'.set p x) ss') ((cs'.set p x).length + j) by rw [← e1], show nt (nts cs' ss') (cs.length + j) = nt (nts cs' ss') (cs'.length + j) by rw [← e2], nt_right (by rw [h.ls]; omega), nt_right (by rw [h.ls]; omega)]
  · rw [filt_set_len U p (by rw [h.ul]; omega) hU, ← h.m, if_pos (by omega)]
theorem bad_sign {cs : List Cn} {ss : List Sg} {cs' : List Cn} {ss' : List Sg} {U : List Bool} {many : Nat} (h : Bad hs cs ss cs' ss' U many) (h8 : cs.length + ss.length ≤ 8) {p : Nat} (hp : p < ss.length) (hU : U.getD (cs.length + p) false = false) (x : Sg) (hx : okSg hs.length x) :
    Bad hs cs ss cs' (ss'.set p x) (U.set (cs.length + p) true) (many + 1) := by
  refine ⟨h.lc, by rw [List.length_set, h.ls], h.c, fun q hq => ?_, by rw [List.length_set, h.ul], fun i hi hU' => ?_, ?_⟩
  · rcases List.mem_or_eq_of_mem_set hq with hq | rfl
    · exact h.s q hq
    · exact hx
  · rw [getD_setB'] at hU'
    by_cases e : cs.length + p = i
    · rw [if_pos ⟨e, by rw [h.ul]; omega⟩] at hU'; cases hU'
    · rw [if_neg (by rintro ⟨e', _⟩; exact e e')] at hU'
      rw [← h.un i hi hU']
      rcases Nat.lt_or_ge i cs.length with c | c
      · rw [nts_getL (by rw [h.lc]; exact c), nts_getL (by rw [h.lc]; exact c)]
      · obtain ⟨j, rfl⟩ : ∃ j, i = cs.length + j := ⟨i - cs.length, by omega⟩
        have e2 : cs.length + j = cs'.length + j := by rw [h.lc]
        rw [e2, nt_right (by rw [List.length_set, h.ls]; omega), nt_right (by rw [h.ls]; omega), set_getS, if_neg (by rintro ⟨e', _⟩; omega)]
  · rw [filt_set_len U (cs.length + p) (by rw [h.ul]; omega) hU, ← h.m, if_pos (by omega)]

variable (cs : List Cn) (ss : List Sg)
theorem f13l0_eq (N : Nat) (hN : 100 ≤ N) (bl : L2) (hb : ∀ v ∈ bl, By2 v) (h8 : cs.length + ss.length ≤ 8) (hc : ∀ q ∈ cs, okCn hs.length q) (hsg : ∀ q ∈ ss, okSg hs.length q) :
    ∃ (many : Nat) (cs' : List Cn) (ss' : List Sg) (U : List Bool), Bad hs cs ss cs' ss' U many ∧ f13l0 N N bl 0 ((cs.length + ss.length : Nat) : Int) 0 hs ps cs ss [false, false, false, false, false, false, false, false] = some ((many : Int), ((cs.length + ss.length : Nat) : Int), hs, ps, cs', ss') := by
  obtain ⟨r, g1, many, cs', ss', U, g2, g3⟩ := loop_run (fun q (s : Nat × Nat × List Cn × List Sg × List Bool) => f13l0 N q bl (s.2.1 : Int) ((cs.length + ss.length : Nat) : Int) (s.1 : Int) hs ps s.2.2.1 s.2.2.2.1 s.2.2.2.2)
    (fun s => s.1 ≤ 3 ∧ s.2.1 ≤ s.1 ∧ Bad hs cs ss s.2.2.1 s.2.2.2.1 s.2.2.2.2 s.2.1) (fun s => 3 - s.1)
    (fun r => ∃ (many : Nat) (cs' : List Cn) (ss' : List Sg) (U : List Bool), Bad hs cs ss cs' ss' U many ∧ r = ((many : Int), ((cs.length + ss.length : Nat) : Int), hs, ps, cs', ss')) (by
      rintro q ⟨i, many, cs', ss', U⟩ ⟨i1, i2, i3⟩
      simp only at i1 i2 i3 ⊢
      by_cases hi : i < bl.length ∧ i < 3 ∧ 0 < cs.length + ss.length
      · right
        obtain ⟨c1, c2, c3⟩ := hi
        have hv := hb _ (getD_mem (d := ((0 : Int), (0 : Int))) c1)
        generalize hz : bl.getD i ((0 : Int), (0 : Int)) = z at hv
        obtain ⟨⟨a1, a2⟩, ⟨a3, a4⟩⟩ := hv
        have t := tm_lt (a := z.1) (b := ((cs.length + ss.length : Nat) : Int)) a1 (by omega)
        have t2 := tm_lt (a := z.2) (b := 3) a3 (by decide)
        have w1 : Go.IntKind.wrap .i64 z.1 = z.1 := w64_id (by omega) (by omega)
        have w2 : Go.IntKind.wrap .i64 z.2 = z.2 := w64_id (by omega) (by omega)
        have w3 : Go.IntKind.wrap .i64 (1 + Int.tmod z.2 3) = 1 + Int.tmod z.2 3 := w64_id (by omega) (by omega)
        have wm : Go.IntKind.wrap .i64 ((many : Int) + 1) = ((many + 1 : Nat) : Int) := w_succ (by omega)
        have wi : Go.IntKind.wrap .i64 ((i : Int) + 1) = ((i + 1 : Nat) : Int) := w_succ (by omega)
        generalize hp : Int.tmod z.1 ((cs.length + ss.length : Nat) : Int) = p at t
        have z1 : ∀ n : Nat, 0 + n * 1 = n := fun n => by omega
        have e1 : decide ((i : Int) < (bl.length : Int)) = true := decide_eq_true (by omega)
        have e2 : decide ((i : Int) < 3) = true := decide_eq_true (by omega)
        have e3 : decide (((cs.length + ss.length : Nat) : Int) > 0) = true := decide_eq_true (by omega)
        have e4 : (((cs.length + ss.length : Nat) : Int) != 0) = true := by rw [bne_iff_ne]; omega
        have e5 : decide (0 ≤ p) = true := decide_eq_true t.1
        have e6 : decide (p < 8) = true := decide_eq_true (by omega)
        have base : ∀ X, f13l0B N (f13l0 N q) bl (many : Int) ((cs.length + ss.length : Nat) : Int) (i : Int) hs ps cs' ss' U = X ↔ (if U.getD p.toNat false = true then f13l0 N q bl (many : Int) ((cs.length + ss.length : Nat) : Int) ((i + 1 : Nat) : Int) hs ps cs' ss' U else
          (if decide (p < (cs'.length : Int)) = true then f13l0 N q bl ((many + 1 : Nat) : Int) ((cs.length + ss.length : Nat) : Int) ((i + 1 : Nat) : Int) hs ps (cs'.set p.toNat ((cs'.getD p.toNat ((0 : Int), ((0 : Int), false))).1, ((cs'.getD p.toNat ((0 : Int), ((0 : Int), false))).2.1, (!(cs'.getD p.toNat ((0 : Int), ((0 : Int), false))).2.2)))) ss' (U.set p.toNat true)
            else (if ((decide (0 ≤ Go.IntKind.wrap .i64 (p - (cs'.length : Int)))) && (decide (Go.IntKind.wrap .i64 (p - (cs'.length : Int)) < (ss'.length : Int)))) = true then f13l0 N q bl ((many + 1 : Nat) : Int) ((cs.length + ss.length : Nat) : Int) ((i + 1 : Nat) : Int) hs ps cs' (ss'.set (Go.IntKind.wrap .i64 (p - (cs'.length : Int))).toNat ((ss'.getD (Go.IntKind.wrap .i64 (p - (cs'.length : Int))).toNat ((0 : Int), (((0 : Int), (0 : Int)), (0 : Int)))).1, (((ss'.getD (Go.IntKind.wrap .i64 (p - (cs'.length : Int))).toNat ((0 : Int), (((0 : Int), (0 : Int)), (0 : Int)))).2.1.1, (ss'.getD (Go.IntKind.wrap .i64 (p - (cs'.length : Int))).toNat ((0 : Int), (((0 : Int), (0 : Int)), (0 : Int)))).2.1.2), 1 + Int.tmod z.2 3))) (U.set p.toNat true) else none))) = X := fun X => by
          unfold f13l0B
          simp only [e1, e2, e3, e4, Int.natCast_nonneg, decide_true, Bool.and_true, if_true, Int.toNat_natCast, hz, w1, w2, hp, e5, e6, z1, wi, wm, w3, show decide ((0 : Int) ≤ 0) = true from rfl, show decide ((0 : Int) ≤ 1) = true from rfl, show decide ((0 : Int) < 2) = true from rfl, show decide ((1 : Int) < 2) = true from rfl, show ((3 : Int) != 0) = true from rfl]
          by_cases c : p < (cs'.length : Int)
          · simp only [decide_eq_true c, Bool.and_self, Bool.and_true, if_true]
          · simp only [decide_eq_false c, Bool.false_eq_true, if_false]
        by_cases hU : U.getD p.toNat false = true
        · exact ⟨(i + 1, many, cs', ss', U), ⟨by simp only; omega, by simp only; omega, i3⟩, by simp only; omega, by show f13l0B N (f13l0 N q) bl (many : Int) _ (i : Int) hs ps cs' ss' U = _; rw [base, if_pos hU]⟩
        · have hU' : U.getD p.toNat false = false := by simpa using hU
          by_cases c : p < (cs'.length : Int)
          · have hpl : p.toNat < cs'.length := by omega
            have ho := i3.c _ (getD_mem (d := ((0 : Int), ((0 : Int), false))) hpl)
            refine ⟨(i + 1, many + 1, _, ss', _), ⟨by simp only; omega, by simp only; omega, bad_cone hs i3 h8 (p := p.toNat) (by rw [← i3.lc]; exact hpl) hU' ((cs'.getD p.toNat ((0 : Int), ((0 : Int), false))).1, ((cs'.getD p.toNat ((0 : Int), ((0 : Int), false))).2.1, (!(cs'.getD p.toNat ((0 : Int), ((0 : Int), false))).2.2))) ⟨ho.1, ho.2.1, ho.2.2.1, ho.2.2.2⟩⟩, by simp only; omega, ?_⟩
            show f13l0B N (f13l0 N q) bl (many : Int) _ (i : Int) hs ps cs' ss' U = _
            rw [base, if_neg hU, if_pos (decide_eq_true c)]
          · have lc := i3.lc
            have ls := i3.ls
            have wk : Go.IntKind.wrap .i64 (p - (cs'.length : Int)) = p - (cs'.length : Int) := w64_id (by omega) (by omega)
            have hpl : (p - (cs'.length : Int)).toNat < ss'.length := by omega
            have ho := i3.s _ (getD_mem (d := ((0 : Int), (((0 : Int), (0 : Int)), (0 : Int)))) hpl)
            have hpe : p.toNat = cs.length + (p - (cs'.length : Int)).toNat := by omega
            have bs := bad_sign hs i3 h8 (p := (p - (cs'.length : Int)).toNat) (by omega) (by rw [← hpe]; exact hU') ((ss'.getD (p - (cs'.length : Int)).toNat ((0 : Int), (((0 : Int), (0 : Int)), (0 : Int)))).1, (((ss'.getD (p - (cs'.length : Int)).toNat ((0 : Int), (((0 : Int), (0 : Int)), (0 : Int)))).2.1.1, (ss'.getD (p - (cs'.length : Int)).toNat ((0 : Int), (((0 : Int), (0 : Int)), (0 : Int)))).2.1.2), 1 + Int.tmod z.2 3)) ⟨ho.1, ho.2.1, ho.2.2.1, by simp only; omega, by simp only; omega⟩
            rw [← hpe] at bs
            refine ⟨(i + 1, many + 1, cs', _, _), ⟨by simp only; omega, by simp only; omega, bs⟩, by simp only; omega, ?_⟩
            show f13l0B N (f13l0 N q) bl (many : Int) _ (i : Int) hs ps cs' ss' U = _
            rw [base, if_neg hU, if_neg (by rw [decide_eq_false c]; decide), wk, if_pos (by rw [decide_eq_true (show 0 ≤ p - (cs'.length : Int) by omega), decide_eq_true (show p - (cs'.length : Int) < (ss'.length : Int) by omega)]; rfl)]
      · left
        refine ⟨_, ?_, many, cs', ss', U, i3, rfl⟩
        show f13l0B N (f13l0 N q) bl (many : Int) _ (i : Int) hs ps cs' ss' U = _
        unfold f13l0B
        by_cases c1 : i < bl.length
        · rw [if_pos (decide_eq_true (by omega))]
          by_cases c2 : i < 3
          · rw [if_pos (decide_eq_true (by omega)), if_neg (by rw [decide_eq_false (by omega)]; decide)]
          · rw [if_neg (by rw [decide_eq_false (by omega)]; decide)]
        · rw [if_neg (by rw [decide_eq_false (by omega)]; decide)]) N (0, 0, cs, ss, [false, false, false, false, false, false, false, false]) ⟨Nat.zero_le _, Nat.le_refl _, rfl, rfl, hc, hsg, rfl, fun _ _ _ => rfl, by
          show 0 = (filt (fun i => List.getD [false, false, false, false, false, false, false, false] i false) (cs.length + ss.length)).length
          have : ∀ n, filt (fun i => List.getD [false, false, false, false, false, false, false, false] i false) n = [] := fun n => by
            induction n with
            | zero => rfl
            | succ n ih =>
              rw [filt_succ, ih]
              have : List.getD [false, false, false, false, false, false, false, false] n false = false := by
                rcases Nat.lt_or_ge n 8 with h | h
                · have : n = 0 ∨ n = 1 ∨ n = 2 ∨ n = 3 ∨ n = 4 ∨ n = 5 ∨ n = 6 ∨ n = 7 := by omega
                  rcases this with rfl | rfl | rfl | rfl | rfl | rfl | rfl | rfl <;> rfl
                · rw [List.getD_eq_getElem?_getD, List.getElem?_eq_none (by simp; omega)]; rfl
              rw [this]; rfl
          rw [this]; rfl⟩ (by simp only; omega)
  subst g3
  exact ⟨many, cs', ss', U, g2, g1⟩

/-- the notes that are kept: those of no list, or one of it -/
def keep (s : List Int) (k : Int) (i : Nat) : Bool := !(decide ((i : Int) ∈ s) && (decide (k < 0) || (s.getD k.toNat 0 != (i : Int))))
theorem f13l2_eq (N : Nat) (hN : 100 ≤ N) (s : List Int) (e k : Int) (hk : -1 ≤ k) (hk' : k < s.length) (hsl : s.length < 20) (h8 : cs.length + ss.length ≤ 8) :
    ∃ (c2 : List Cn) (s2 : List Sg), c2.length ≤ cs.length ∧ s2.length ≤ ss.length ∧ (∀ q ∈ c2, q ∈ cs) ∧ (∀ q ∈ s2, q ∈ ss) ∧ (∀ x, x ∈ nts c2 s2 ↔ ∃ j, j < cs.length + ss.length ∧ keep s k j = true ∧ x = nt (nts cs ss) j) ∧
      f13l2 N N ((cs.length + ss.length : Nat) : Int) s e k 0 hs ps cs ss hs ps [] [] = some (((cs.length + ss.length : Nat) : Int), s, e, k, hs, ps, cs, ss, hs, ps, c2, s2) := by
  obtain ⟨r, g1, c2, s2, g2, g3, g4, g5, g6, g7⟩ := loop_run (fun q (z : Nat × List Cn × List Sg) => f13l2 N q ((cs.length + ss.length : Nat) : Int) s e k (z.1 : Int) hs ps cs ss hs ps z.2.1 z.2.2)
    (fun z => z.1 ≤ cs.length + ss.length ∧ z.2.1.length ≤ z.1 ∧ z.2.1.length ≤ cs.length ∧ z.2.2.length ≤ z.1 - cs.length ∧ (∀ q ∈ z.2.1, q ∈ cs) ∧ (∀ q ∈ z.2.2, q ∈ ss) ∧ (∀ x, x ∈ nts z.2.1 z.2.2 ↔ ∃ j, j < z.1 ∧ keep s k j = true ∧ x = nt (nts cs ss) j)) (fun z => cs.length + ss.length - z.1)
    (fun r => ∃ (c2 : List Cn) (s2 : List Sg), c2.length ≤ cs.length ∧ s2.length ≤ ss.length ∧ (∀ q ∈ c2, q ∈ cs) ∧ (∀ q ∈ s2, q ∈ ss) ∧ (∀ x, x ∈ nts c2 s2 ↔ ∃ j, j < cs.length + ss.length ∧ keep s k j = true ∧ x = nt (nts cs ss) j) ∧ r = (((cs.length + ss.length : Nat) : Int), s, e, k, hs, ps, cs, ss, hs, ps, c2, s2)) (by
      rintro q ⟨i, c2, s2⟩ ⟨i1, i2, i3, i4, i5, i6, i7⟩
      simp only at i1 i2 i3 i4 i5 i6 i7 ⊢
      by_cases hi : i < cs.length + ss.length
      · right
        have e1 : decide ((i : Int) < ((cs.length + ss.length : Nat) : Int)) = true := decide_eq_true (by omega)
        have wi : Go.IntKind.wrap .i64 ((i : Int) + 1) = ((i + 1 : Nat) : Int) := w_succ (by omega)
        have f49' := f49_eq N s (i : Int) (by omega) (by omega)
        have hst : f13l2B N (f13l2 N q) ((cs.length + ss.length : Nat) : Int) s e k (i : Int) hs ps cs ss hs ps c2 s2 = if keep s k i = true then
            (if decide ((i : Int) < (cs.length : Int)) = true then (if Nat.ble (c2.length + [cs.getD i ((0 : Int), ((0 : Int), false))].length) boundLen = true then f13l2 N q ((cs.length + ss.length : Nat) : Int) s e k ((i + 1 : Nat) : Int) hs ps cs ss hs ps (c2 ++ [cs.getD i ((0 : Int), ((0 : Int), false))]) s2 else none)
              else (if ((decide (0 ≤ Go.IntKind.wrap .i64 ((i : Int) - (cs.length : Int)))) && (decide (Go.IntKind.wrap .i64 ((i : Int) - (cs.length : Int)) < (ss.length : Int)))) = true then (if Nat.ble (s2.length + [ss.getD (Go.IntKind.wrap .i64 ((i : Int) - (cs.length : Int))).toNat ((0 : Int), (((0 : Int), (0 : Int)), (0 : Int)))].length) boundLen = true then f13l2 N q ((cs.length + ss.length : Nat) : Int) s e k ((i + 1 : Nat) : Int) hs ps cs ss hs ps c2 (s2 ++ [ss.getD (Go.IntKind.wrap .i64 ((i : Int) - (cs.length : Int))).toNat ((0 : Int), (((0 : Int), (0 : Int)), (0 : Int)))]) else none) else none))
            else f13l2 N q ((cs.length + ss.length : Nat) : Int) s e k ((i + 1 : Nat) : Int) hs ps cs ss hs ps c2 s2 := by
          unfold f13l2B keep
          simp only [e1, Int.natCast_nonneg, decide_true, Bool.true_and, if_true, Int.toNat_natCast, f49', andThen_some, wi]
          by_cases m1 : (i : Int) ∈ s
          · simp only [decide_eq_true m1, if_true, Bool.true_and]
            by_cases m2 : k < 0
            · simp only [decide_eq_true m2, Bool.true_or, Bool.not_true, Bool.false_eq_true, if_false]
              exact if_neg (by decide)
            · simp only [decide_eq_false m2, Bool.false_or, if_true, show decide (0 ≤ k) = true from decide_eq_true (by omega), show decide (k < (s.length : Int)) = true from decide_eq_true (by omega), Bool.and_true]
              by_cases m3 : s.getD k.toNat 0 = (i : Int)
              · have : (s.getD k.toNat 0 != (i : Int)) = false := by rw [m3]; simp
                simp only [this, Bool.not_false, if_true, Bool.false_eq_true, if_false]
                by_cases c : (i : Int) < (cs.length : Int)
                · simp only [decide_eq_true c, if_true]
                · simp only [decide_eq_false c, Bool.false_eq_true, if_false]
              · have : (s.getD k.toNat 0 != (i : Int)) = true := by rw [bne_iff_ne]; exact m3
                simp only [this, Bool.not_true, if_true, Bool.false_eq_true, if_false]
          · simp only [decide_eq_false m1, Bool.false_and, Bool.not_false, Bool.false_eq_true, if_false, if_true]
            by_cases c : (i : Int) < (cs.length : Int)
            · simp only [decide_eq_true c, if_true]
            · simp only [decide_eq_false c, Bool.false_eq_true, if_false]
        by_cases hkp : keep s k i = true
        · by_cases hc : i < cs.length
          · refine ⟨(i + 1, c2 ++ [cs.getD i ((0 : Int), ((0 : Int), false))], s2), ⟨hi, by simp; omega, by simp; omega, by simp only; omega, fun z hz => ?_, i6, fun x => ?_⟩, by simp only; omega, ?_⟩
            · simp only [List.mem_append, List.mem_singleton] at hz
              rcases hz with hz | rfl
              · exact i5 z hz
              · exact getD_mem hc
            · have hm : x ∈ nts (c2 ++ [cs.getD i ((0 : Int), ((0 : Int), false))]) s2 ↔ x ∈ nts c2 s2 ∨ x = .inl (cs.getD i ((0 : Int), ((0 : Int), false))) := by
                unfold nts; simp only [List.map_append, List.mem_append, List.map_cons, List.map_nil, List.mem_singleton]
                constructor
                · rintro ((h | h) | h)
                  · exact .inl (.inl h)
                  · exact .inr h
                  · exact .inl (.inr h)
                · rintro ((h | h) | h)
                  · exact .inl (.inl h)
                  · exact .inr h
                  · exact .inl (.inr h)
              simp only
              rw [hm, i7]
              constructor
              · rintro (⟨j, j1, j2, j3⟩ | rfl)
                · exact ⟨j, by omega, j2, j3⟩
                · exact ⟨i, by omega, hkp, (nts_getL hc).symm⟩
              · rintro ⟨j, j1, j2, j3⟩
                by_cases e : j = i
                · subst e; right; rw [j3, nts_getL hc]
                · left; exact ⟨j, by omega, j2, j3⟩
            · show f13l2B N (f13l2 N q) _ s e k (i : Int) hs ps cs ss hs ps c2 s2 = _
              rw [hst, if_pos hkp, if_pos (decide_eq_true (by omega)), if_pos (by simp [boundLen]; omega)]
          · have wk : Go.IntKind.wrap .i64 ((i : Int) - (cs.length : Int)) = ((i - cs.length : Nat) : Int) := by rw [w64_id (by omega) (by omega)]; omega
            have hjl : i - cs.length < ss.length := by omega
            have hnt : nt (nts cs ss) i = .inr (ss.getD (i - cs.length) ((0 : Int), (((0 : Int), (0 : Int)), (0 : Int)))) := by
              have := nt_right (cs := cs) (ss := ss) hjl
              rw [show cs.length + (i - cs.length) = i by omega] at this
              exact this
            refine ⟨(i + 1, c2, s2 ++ [ss.getD (i - cs.length) ((0 : Int), (((0 : Int), (0 : Int)), (0 : Int)))]), ⟨hi, by simp only; omega, i3, by simp; omega, i5, fun z hz => ?_, fun x => ?_⟩, by simp only; omega, ?_⟩
            · simp only [List.mem_append, List.mem_singleton] at hz
              rcases hz with hz | rfl
              · exact i6 z hz
              · exact getD_mem hjl
            · have hm : x ∈ nts c2 (s2 ++ [ss.getD (i - cs.length) ((0 : Int), (((0 : Int), (0 : Int)), (0 : Int)))]) ↔ x ∈ nts c2 s2 ∨ x = .inr (ss.getD (i - cs.length) ((0 : Int), (((0 : Int), (0 : Int)), (0 : Int)))) := by
                unfold nts; simp only [List.map_append, List.mem_append, List.map_cons, List.map_nil, List.mem_singleton]
                constructor
                · rintro (h | h | h)
                  · exact .inl (.inl h)
                  · exact .inl (.inr h)
                  · exact .inr h
                · rintro ((h | h) | h)
                  · exact .inl h
                  · exact .inr (.inl h)
                  · exact .inr (.inr h)
              simp only
              rw [hm, i7]
              constructor
              · rintro (⟨j, j1, j2, j3⟩ | rfl)
                · exact ⟨j, by omega, j2, j3⟩
                · exact ⟨i, by omega, hkp, hnt.symm⟩
              · rintro ⟨j, j1, j2, j3⟩
                by_cases e : j = i
                · subst e; right; rw [j3, hnt]
                · left; exact ⟨j, by omega, j2, j3⟩
            · show f13l2B N (f13l2 N q) _ s e k (i : Int) hs ps cs ss hs ps c2 s2 = _
              rw [hst, if_pos hkp, if_neg (by rw [decide_eq_false (by omega)]; decide), wk, if_pos (by rw [decide_eq_true (show (0 : Int) ≤ ((i - cs.length : Nat) : Int) by omega), decide_eq_true (show ((i - cs.length : Nat) : Int) < (ss.length : Int) by omega)]; rfl), if_pos (by simp [boundLen]; omega), Int.toNat_natCast]
        · refine ⟨(i + 1, c2, s2), ⟨hi, by simp only; omega, i3, by simp only; omega, i5, i6, fun x => ?_⟩, by simp only; omega, ?_⟩
          · simp only
            rw [i7]
            constructor
            · rintro ⟨j, j1, j2, j3⟩; exact ⟨j, by omega, j2, j3⟩
            · rintro ⟨j, j1, j2, j3⟩
              by_cases e : j = i
              · subst e; exact absurd j2 hkp
              · exact ⟨j, by omega, j2, j3⟩
          · show f13l2B N (f13l2 N q) _ s e k (i : Int) hs ps cs ss hs ps c2 s2 = _
            rw [hst, if_neg hkp]
      · left
        have : i = cs.length + ss.length := by omega
        subst this
        refine ⟨_, ?_, c2, s2, i3, by omega, i5, i6, i7, rfl⟩
        show f13l2B N (f13l2 N q) _ s e k ((cs.length + ss.length : Nat) : Int) hs ps cs ss hs ps c2 s2 = _
        unfold f13l2B
        rw [if_neg (by simp)]) N (0, [], []) ⟨Nat.zero_le _, Nat.le_refl _, Nat.zero_le _, Nat.zero_le _, fun _ h => (List.not_mem_nil h).elim, fun _ h => (List.not_mem_nil h).elim, fun x => ⟨fun h => (List.not_mem_nil h).elim, fun ⟨j, j1, _⟩ => absurd j1 (Nat.not_lt_zero _)⟩⟩ (by simp only; omega)
  subst g7
  exact ⟨c2, s2, g2, g3, g4, g5, g6, g1⟩

theorem keep_neg {s : List Int} {k : Int} (hk : k < 0) (j : Nat) : keep s k j = true ↔ ¬ (j : Int) ∈ s := by
  unfold keep
  rw [decide_eq_true hk, Bool.true_or, Bool.and_true]
  simp
theorem keep_pos {s : List Int} {k : Int} (hk : ¬ k < 0) (j : Nat) : keep s k j = true ↔ ¬ (j : Int) ∈ s.filter (fun x => x != s.getD k.toNat 0) := by
  unfold keep
  rw [decide_eq_false hk, Bool.false_or, List.mem_filter]
  by_cases m : (j : Int) ∈ s
  · simp only [decide_eq_true m, Bool.true_and, m, true_and]
    by_cases e : s.getD k.toNat 0 = (j : Int)
    · rw [e]; simp
    · have e1 : (s.getD k.toNat 0 != (j : Int)) = true := by rw [bne_iff_ne]; exact e
      have e2 : ((j : Int) != s.getD k.toNat 0) = true := by rw [bne_iff_ne]; exact fun h => e h.symm
      rw [e1, e2]; simp
  · simp [decide_eq_false m, m]

/-- what is left tells whether the notes that were left out are those that are wrong -/
theorem rest_eq (N : Nat) (hN : 1000 ≤ N) (v : Valid hs ps cs ss) (L : List Int) (P : Nat → Bool) (hP : ∀ j, P j = true ↔ ¬ (j : Int) ∈ L) (c2 : List Cn) (s2 : List Sg) (l1 : c2.length ≤ cs.length) (l2 : s2.length ≤ ss.length) (hc : ∀ q ∈ c2, q ∈ cs) (hsg : ∀ q ∈ s2, q ∈ ss)
    (hx : ∀ x, x ∈ nts c2 s2 ↔ ∃ j, j < cs.length + ss.length ∧ P j = true ∧ x = nt (nts cs ss) j) :
    ∃ o e, f19 N hs ps c2 s2 = some (o, e) ∧ (e == 0) = canB hs ps (nts cs ss) L := by
  have v2 : Valid hs ps c2 s2 := ⟨v.n1, v.n5, v.h, v.p8, by have := v.c6; omega, by have := v.s4; omega, v.p, fun q hq => v.c q (hc q hq), fun q hq => v.s q (hsg q hq)⟩
  have eT : TruthO hs ps c2 s2 = Truth hs ps (KBut (nts cs ss) L) := Truth.congr fun x => by
    rw [hx]
    unfold KBut
    rw [nts_len]
    constructor
    · rintro ⟨j, j1, j2, j3⟩; exact ⟨j, j1, (hP j).1 j2, j3⟩
    · rintro ⟨j, j1, j2, j3⟩; exact ⟨j, j1, (hP j).2 j2, j3⟩
  by_cases ht : ∃ t, TruthO hs ps c2 s2 t
  · obtain ⟨m, _, _, _, e⟩ := f19_yes N hs ps c2 s2 hN v2 ht
    refine ⟨_, 0, e, ?_⟩
    rw [eT] at ht
    rw [(canB_iff hs ps).2 ht]; rfl
  · refine ⟨_, 9, f19_no N hs ps c2 s2 hN v2 ht, ?_⟩
    rw [eT] at ht
    have : canB hs ps (nts cs ss) L = false := by
      cases h : canB hs ps (nts cs ss) L with
      | false => rfl
      | true => exact absurd ((canB_iff hs ps).1 h) ht
    rw [this]; rfl

theorem f13l1_eq (N : Nat) (hN : 1000 ≤ N) (v : Valid hs ps cs ss) (h8 : cs.length + ss.length ≤ 8) (s : List Int) (hext : Ext (nts cs ss).length 0 s.length s) (hsl : s.length < 20) (hcan : canB hs ps (nts cs ss) s = true)
    (hmin : ∀ s', Ext (nts cs ss).length 0 s'.length s' → canB hs ps (nts cs ss) s' = true → lss s' s = false) (e : Int) :
    f13l1 N N ((cs.length + ss.length : Nat) : Int) s e (-1) hs ps cs ss = some (.inr (((cs.length + ss.length : Nat) : Int), s)) := by
  have n5 := v.n5
  have p8 := v.p8
  by_cases he : e = 0
  case neg =>
    obtain ⟨K, hK⟩ : ∃ K, N = K + 1 := ⟨N - 1, by omega⟩
    have : ∀ K, f13l1 N (K + 1) ((cs.length + ss.length : Nat) : Int) s e (-1) hs ps cs ss = some (.inr (((cs.length + ss.length : Nat) : Int), s)) := fun K => by
      show f13l1B N (f13l1 N K) ((cs.length + ss.length : Nat) : Int) s e (-1) hs ps cs ss = _
      unfold f13l1B
      rw [if_pos (decide_eq_true (by omega)), if_neg (by simpa using he)]
    have := this K
    rw [← hK] at this
    exact this
  subst he
  obtain ⟨r, g1, g2⟩ := loop_run (fun q (k : Nat) => f13l1 N q ((cs.length + ss.length : Nat) : Int) s 0 ((k : Int) - 1) hs ps cs ss) (fun k => k ≤ s.length + 1) (fun k => s.length + 1 - k) (fun r => r = .inr (((cs.length + ss.length : Nat) : Int), s)) (fun q k hk => by
    by_cases h : k < s.length + 1
    · right
      refine ⟨k + 1, h, by omega, ?_⟩
      obtain ⟨c2, s2, l1, l2, hc, hsg, hx, e1⟩ := f13l2_eq hs ps cs ss N (by omega) s 0 ((k : Int) - 1) (by omega) (by omega) hsl h8
      have main : ∃ o e, f19 N hs ps c2 s2 = some (o, e) ∧ (e == 0) = decide ((k : Int) - 1 < 0) := by
        by_cases hk0 : (k : Int) - 1 < 0
        · obtain ⟨o, e, x1, x2⟩ := rest_eq hs ps cs ss N hN v s (keep s ((k : Int) - 1)) (fun j => keep_neg hk0 j) c2 s2 l1 l2 hc hsg hx
          exact ⟨o, e, x1, by rw [x2, hcan, decide_eq_true hk0]⟩
        · obtain ⟨o, e, x1, x2⟩ := rest_eq hs ps cs ss N hN v _ (keep s ((k : Int) - 1)) (fun j => keep_pos hk0 j) c2 s2 l1 l2 hc hsg hx
          refine ⟨o, e, x1, ?_⟩
          rw [x2, decide_eq_false hk0]
          have hkl : ((k : Int) - 1).toNat < s.length := by omega
          have hlt : (s.filter (fun x => x != s.getD ((k : Int) - 1).toNat 0)).length < s.length := by
            rw [List.length_filter_lt_length_iff_exists]
            exact ⟨s.getD ((k : Int) - 1).toNat 0, getD_mem hkl, by simp⟩
          have hex : Ext (nts cs ss).length 0 (s.filter (fun x => x != s.getD ((k : Int) - 1).toNat 0)).length (s.filter (fun x => x != s.getD ((k : Int) - 1).toNat 0)) := ⟨rfl, hext.2.1.filter _, fun x hx => hext.2.2 x (List.mem_filter.1 hx).1⟩
          cases hb : canB hs ps (nts cs ss) (s.filter (fun x => x != s.getD ((k : Int) - 1).toNat 0)) with
          | false => rfl
          | true =>
            have := hmin _ hex hb
            unfold lss at this
            rw [if_neg (by omega)] at this
            have := of_decide_eq_false this
            omega
      obtain ⟨o, e, x1, x2⟩ := main
      have wk : Go.IntKind.wrap .i64 ((k : Int) - 1 + 1) = ((k + 1 : Nat) : Int) - 1 := by rw [w64_id (by omega) (by omega)]; omega
      show f13l1B N (f13l1 N q) ((cs.length + ss.length : Nat) : Int) s 0 ((k : Int) - 1) hs ps cs ss = _
      unfold f13l1B
      rw [if_pos (decide_eq_true (by omega)), if_pos (by decide), f45_eq N hs ps cs ss (by omega) (by omega) (by omega) (by omega)]
      simp only [andThen_some, e1, x1, x2, wk]
      rw [if_neg (by simp)]
    · left
      have : k = s.length + 1 := by omega
      subst this
      refine ⟨_, ?_, rfl⟩
      show f13l1B N (f13l1 N q) ((cs.length + ss.length : Nat) : Int) s 0 (((s.length + 1 : Nat) : Int) - 1) hs ps cs ss = _
      unfold f13l1B
      rw [if_neg (by rw [decide_eq_false (by omega)]; decide)]) N 0 (Nat.zero_le _) (by omega)
  rw [g2] at g1
  exact g1

theorem f13l3_eq (N : Nat) (hN : 1000 ≤ N) (n : Nat) (s : List Int) (hext : Ext n 0 s.length s) (hsl : s.length < 20) : f13l3 N N (n : Int) s 0 = some (.inr ()) :=
  loop_all (fun q i => f13l3 N q (n : Int) s (i : Int)) s.length _ (fun q i hi => by
    show f13l3B N (f13l3 N q) (n : Int) s (i : Int) = _
    have b := hext.2.2 _ (getD_mem (d := (0 : Int)) hi)
    have e1 : decide ((i : Int) < (s.length : Int)) = true := decide_eq_true (by omega)
    unfold f13l3B
    simp only [e1, Int.natCast_nonneg, decide_true, Bool.and_true, if_true, Int.toNat_natCast, show decide (s.getD i 0 < 0) = false from decide_eq_false (by omega), show decide (s.getD i 0 ≥ (n : Int)) = false from decide_eq_false (by omega), w_succ (show i < 4611686018427387904 by omega)]
    by_cases h0 : i = 0
    · subst h0
      rw [if_neg (by decide)]
    · have wk : Go.IntKind.wrap .i64 ((i : Int) - 1) = ((i - 1 : Nat) : Int) := by rw [w64_id (by omega) (by omega)]; omega
      have hlt : s.getD (i - 1) 0 < s.getD i 0 := by
        have := (List.pairwise_iff_getElem.1 hext.2.1) (i - 1) i (by omega) hi (by omega)
        rw [List.getD_eq_getElem?_getD, List.getD_eq_getElem?_getD, List.getElem?_eq_getElem hi, List.getElem?_eq_getElem (show i - 1 < s.length by omega)]
        exact this
      rw [if_pos (decide_eq_true (by omega)), wk]
      simp only [Int.natCast_nonneg, decide_true, Int.toNat_natCast, show decide (((i - 1 : Nat) : Int) < (s.length : Int)) = true from decide_eq_true (by omega), Bool.and_true, if_true]
      rw [if_neg (by rw [decide_eq_false (by omega)]; decide)]) (fun q => by
    show f13l3B N (f13l3 N q) (n : Int) s (s.length : Int) = _
    unfold f13l3B
    rw [if_neg (by simp)]) N (by omega)
end

theorem law13 (pl pr : L3) (cn : L2) (sg : L3) (bl : L2) (h1 : ∀ v ∈ pl, By3 v) (h2 : ∀ v ∈ pr, By3 v) (h3 : ∀ v ∈ cn, By2 v) (h4 : ∀ v ∈ sg, By3 v) (h5 : ∀ v ∈ bl, By2 v) : f13 50000 pl pr cn sg bl = some true := by
  obtain ⟨hs, ps, cs, ss, heats, e0, md⟩ := f44_eq 50000 (by omega) pl pr cn sg h1 h2 h3 h4
  have v := md.v
  have n4 := md.n4
  have p5 := md.p5
  have c5 := md.c5
  have s3 := md.s3
  obtain ⟨many, cs', ss', U, bd, e1⟩ := f13l0_eq hs ps cs ss 50000 (by omega) bl h5 (by omega) v.c v.s
  have lc := bd.lc
  have ls := bd.ls
  have v' : Valid hs ps cs' ss' := ⟨v.n1, v.n5, v.h, v.p8, by omega, by omega, v.p, bd.c, bd.s⟩
  have hln : (nts cs' ss').length = cs.length + ss.length := by rw [nts_len, lc, ls]
  -- without the changed ones there is a truth
  have hL : canB hs ps (nts cs' ss') (filt (fun i => U.getD i false) (cs.length + ss.length)) = true := by
    rw [canB_iff]
    refine ⟨_, md.truth.1, md.truth.2.1, fun x hx => ?_⟩
    obtain ⟨i, hi, hn, rfl⟩ := hx
    rw [hln] at hi
    have hU : U.getD i false = false := by
      cases hu : U.getD i false with
      | false => rfl
      | true => exact absurd ((mem_filtB _).2 ⟨hi, hu⟩) hn
    rw [bd.un i hi hU]
    exact md.truth.2.2 _ (nt_mem (by rw [nts_len]; exact hi))
  have hLe : Ext (nts cs' ss').length 0 (filt (fun i => U.getD i false) (cs.length + ss.length)).length (filt (fun i => U.getD i false) (cs.length + ss.length)) := by
    refine ⟨rfl, filt_sorted _ _, fun x hx => ?_⟩
    have h0 := filt_pos _ _ x hx
    obtain ⟨i, rfl⟩ : ∃ i : Nat, x = (i : Int) := ⟨x.toNat, by omega⟩
    have := (mem_filtB _).1 hx
    rw [hln]; omega
  have e45 := f45_eq 50000 hs ps cs' ss' (by omega) (by omega) (by omega) (by omega)
  have enil : Ext (nts cs' ss').length 0 ([] : List Int).length [] := ext_zero.2 rfl
  have hnil : canB hs ps (nts cs' ss') [] = true ↔ ∃ t, TruthO hs ps cs' ss' t := by rw [canB_iff, Truth.congr (KBut_nil (nts cs' ss'))]
  rcases f38_eq hs ps cs' ss' 50000 (by omega) v' with ⟨s, a1, a2, a3, a4⟩ | ⟨a1, _⟩
  case inr => rw [a1 _ hLe] at hL; cases hL
  have hsl : s.length ≤ many := by
    have := a3 _ hLe hL
    rw [bd.m]
    unfold lss at this
    by_cases e : (filt (fun i => U.getD i false) (cs.length + ss.length)).length = s.length
    · omega
    · rw [if_neg e] at this
      have := of_decide_eq_false this
      omega
  have hm8 : many ≤ 8 := by
    have := filt_len (fun i => U.getD i false) (cs.length + ss.length)
    rw [bd.m]; omega
  have hl1 := fun e => f13l1_eq hs ps cs' ss' 50000 (by omega) v' (by omega) s a1 (by omega) a2 a3 e
  have hl3 := f13l3_eq 50000 (by omega) (nts cs' ss').length s a1 (by omega)
  rw [show cs'.length + ss'.length = cs.length + ss.length by omega] at hl1
  rw [hln] at hl3
  have ff : ([(List.getD ([false, false, false, false, false, false, false, false] : List Bool) 0 false), (List.getD ([false, false, false, false, false, false, false, false] : List Bool) 1 false), (List.getD ([false, false, false, false, false, false, false, false] : List Bool) 2 false), (List.getD ([false, false, false, false, false, false, false, false] : List Bool) 3 false), (List.getD ([false, false, false, false, false, false, false, false] : List Bool) 4 false), (List.getD ([false, false, false, false, false, false, false, false] : List Bool) 5 false), (List.getD ([false, false, false, false, false, false, false, false] : List Bool) 6 false), (List.getD ([false, false, false, false, false, false, false, false] : List Bool) 7 false)] : List Bool) = [false, false, false, false, false, false, false, false] := rfl
  have w1 : Go.IntKind.wrap .i64 ((cs.length : Int) + (ss.length : Int)) = ((cs.length + ss.length : Nat) : Int) := by rw [w64_id (by omega) (by omega)]; omega
  unfold f13
  rw [e0]
  simp only [andThen_some]
  rw [w1, ff, e1]
  simp only [andThen_some]
  rw [e45]
  simp only [andThen_some]
  rw [a4]
  simp only [andThen_some]
  by_cases hs0 : s = []
  · subst hs0
    have ht := hnil.1 a2
    obtain ⟨m, _, _, _, e3⟩ := f19_yes 50000 hs ps cs' ss' (by omega) v' ht
    rw [e3]
    simp only [andThen_some, if_true]
    rw [if_pos (by decide), if_pos (by decide), if_pos (by decide), if_pos (by decide), if_neg (by decide), if_neg (by simp), hl1 6]
    simp only [andThen_some, either_inr]
    rw [hl3]
    simp only [andThen_some, either_inr, known_ok]
  · have hno : ¬ ∃ t, TruthO hs ps cs' ss' t := fun h => by
      have := a3 [] enil (hnil.2 h)
      unfold lss at this
      cases s with
      | nil => exact hs0 rfl
      | cons x s => rw [if_neg (by simp)] at this; simp at this
    have hpos : 0 < s.length := List.length_pos_iff.2 hs0
    rw [f19_no 50000 hs ps cs' ss' (by omega) v' hno]
    simp only [andThen_some, if_neg hs0]
    rw [if_neg (by decide), if_pos (by decide), if_pos (by decide), if_pos (by rw [beq_eq_false_iff_ne]; omega), if_neg (by rw [decide_eq_false (by omega)]; decide), hl1 0]
    simp only [andThen_some, either_inr]
    rw [hl3]
    simp only [andThen_some, either_inr, known_ok]
end Go.Pl
namespace Go.Proofs.Ytegckmajjklonaa
open Go.Pl in
theorem pure13 : Pure13 := fun x y h g => ⟨50000, Go.Pl.law13 _ _ _ _ _ (kiln_good x h).1 (kiln_good x h).2.1 (kiln_good x h).2.2.1 (kiln_good x h).2.2.2 (fun v hv => ⟨by_of (g.2 v hv).1, by_of (g.2 v hv).2⟩)⟩
theorem furnaceLies_holds : Rows.FurnaceLiesSaid := row13 pure13
end Go.Proofs.Ytegckmajjklonaa
