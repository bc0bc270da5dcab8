/- The law. FurnaceTried: as the cone of Trial truly comes out, no more than left degrees are open in all, and no other place and heat tells more; without a needless note Heats are the same, without any other one they are not. No conditions. -/
import Derived.Test.YtegckmajjklonaaMx14L1
set_option linter.unusedVariables false
set_option linter.unusedSimpArgs false
namespace Go.Pl
open Go.Al Go.Proofs
theorem f42l1_eq (N : Nat) (g : Int → Int) (p : Nat) (n : Nat) (m : List Int) (x5 x6 : Int) (hs : List Span) (ps : List Pr) (cs : List Cn) (ss : List Sg) (ns : List Nt) (hN : 5000 ≤ N) (hp : p < n) (hn : n ≤ 5) (lo hi : Int) (hlo : (sp (spn n m) p).1 = lo) (hhi : (sp (spn n m) p).2 = hi) (h1 : 0 ≤ lo) (h2 : lo ≤ hi) (h3 : hi ≤ 1000)
  (hg : ∀ a, 1 ≤ a → a ≤ 1000 → f98 N hs ps cs ss ns p a false = some (g a)) (s : St3) :
  f42l1 N N s.1 s.2.1 s.2.2 p (lo + 1) x5 x6 hs ps cs ss ns (hts n m) = some ((sc g p (hi - lo).toNat (lo + 1) s).1, (sc g p (hi - lo).toNat (lo + 1) s).2.1, (sc g p (hi - lo).toNat (lo + 1) s).2.2, x5, x6, hs, ps, cs, ss, ns, hts n m) := by
 generalize hR : sc g p (hi - lo).toNat (lo + 1) s = R
 have hh := hts_any (m := m) (show p < 5 by omega) hn
 rw [hhi] at hh
 obtain ⟨r, e1, e2⟩ := loop_run (fun q (z : St3 × Int) => f42l1 N q z.1.1 z.1.2.1 z.1.2.2 p z.2 x5 x6 hs ps cs ss ns (hts n m))
  (fun z => lo + 1 ≤ z.2 ∧ z.2 ≤ hi + 1 ∧ sc g p (hi + 1 - z.2).toNat z.2 z.1 = R) (fun z => (hi + 1 - z.2).toNat)
  (fun r => r = (R.1, R.2.1, R.2.2, x5, x6, hs, ps, cs, ss, ns, hts n m)) (by
   rintro q ⟨z, a⟩ ⟨i1, i2, i3⟩
   simp only at i1 i2 i3 ⊢
   by_cases ha : a ≤ hi
   ·right
    refine ⟨(if g a < z.2.2 then ((p : Int), a, g a) else z, a + 1), ⟨by simp only; omega, by simp only; omega, ?_⟩, by simp only; omega, ?_⟩
    ·simp only
     rw [← i3, show (hi + 1 - a).toNat = (hi + 1 - (a + 1)).toNat + 1 by omega]
     rfl
    ·show f42l1B N (f42l1 N q) z.1 z.2.1 z.2.2 p a x5 x6 hs ps cs ss ns (hts n m) = _
     unfold f42l1B
     have e0 : (hts n m).getD ((0 + p * 2) + 1) 0 = hi := by rw [Nat.zero_add]; exact hh.2
     simp only [show ((p : Int) < 5) by omega, Int.natCast_nonneg, decide_true, Bool.and_true, if_true, Int.toNat_natCast, e0, ha, hg a (by omega) (by omega), andThen_some]
     rw [w64_id (z := a + 1) (by omega) (by omega)]
     by_cases c : g a < z.2.2
     ·rw [if_pos (decide_eq_true c), if_pos c]
     ·rw [if_neg (by rw [decide_eq_false c]; decide), if_neg c]
   ·left
    refine ⟨_, ?_, rfl⟩
    have : (hi + 1 - a).toNat = 0 := by omega
    rw [this] at i3
    have i3 : z = R := i3
    show f42l1B N (f42l1 N q) z.1 z.2.1 z.2.2 p a x5 x6 hs ps cs ss ns (hts n m) = _
    unfold f42l1B
    have e0 : (hts n m).getD ((0 + p * 2) + 1) 0 = hi := by rw [Nat.zero_add]; exact hh.2
    simp only [show ((p : Int) < 5) by omega, Int.natCast_nonneg, decide_true, Bool.and_true, if_true, Int.toNat_natCast, e0]
    rw [if_neg (by rw [decide_eq_false ha]; decide), i3]) N (s, lo + 1) ⟨Int.le_refl _, by simp only; omega, by simp only; rw [← hR, show hi + 1 - (lo + 1) = hi - lo by omega]⟩ (by simp only; omega)
 rw [e2] at e1
 exact e1
theorem f43l1_eq (N : Nat) (g : Int → Int) (A : Int → Bool → Int) (h : List Span) (p : Int) (hs : List Span) (ps : List Pr) (cs : List Cn) (ss : List Sg) (hN : 5000 ≤ N)
  (hA : ∀ a b, 1 ≤ a → a ≤ 1000 → f100 N hs ps cs ss h p a b = some (A a b)) (hg : ∀ a, g a = if A a true > A a false then A a true else A a false) (s : St3) (K : Nat) (hK : K = 1000) :
  f43l1 N N h s.1 s.2.1 s.2.2 p 1 hs ps cs ss = some (h, (sc g p K 1 s).1, (sc g p K 1 s).2.1, (sc g p K 1 s).2.2, p, hs, ps, cs, ss) := by
 generalize hR : sc g p K 1 s = R
 obtain ⟨r, e1, e2⟩ := loop_run (fun q (z : St3 × Int) => f43l1 N q h z.1.1 z.1.2.1 z.1.2.2 p z.2 hs ps cs ss)
  (fun z => 1 ≤ z.2 ∧ z.2 ≤ 1001 ∧ sc g p (1001 - z.2).toNat z.2 z.1 = R) (fun z => (1001 - z.2).toNat)
  (fun r => r = (h, R.1, R.2.1, R.2.2, p, hs, ps, cs, ss)) (by
   rintro q ⟨z, a⟩ ⟨i1, i2, i3⟩
   simp only at i1 i2 i3 ⊢
   by_cases ha : a ≤ 1000
   ·right
    refine ⟨(if g a < z.2.2 then (p, a, g a) else z, a + 1), ⟨by simp only; omega, by simp only; omega, ?_⟩, by simp only; omega, ?_⟩
    ·simp only
     rw [← i3, show (1001 - a).toNat = (1001 - (a + 1)).toNat + 1 by omega]
     rfl
    ·show f43l1B N (f43l1 N q) h z.1 z.2.1 z.2.2 p a hs ps cs ss = _
     unfold f43l1B
     simp only [ha, decide_true, if_true, hA a false i1 ha, hA a true i1 ha, andThen_some, ← hg]
     rw [w64_id (z := a + 1) (by omega) (by omega)]
     by_cases c : g a < z.2.2
     ·rw [if_pos (decide_eq_true c), if_pos c]
     ·rw [if_neg (by rw [decide_eq_false c]; decide), if_neg c]
   ·left
    refine ⟨_, ?_, rfl⟩
    have : (1001 - a).toNat = 0 := by omega
    rw [this] at i3
    have i3 : z = R := i3
    show f43l1B N (f43l1 N q) h z.1 z.2.1 z.2.2 p a hs ps cs ss = _
    unfold f43l1B
    rw [if_neg (by rw [decide_eq_false ha]; decide), i3]) N (s, 1) ⟨Int.le_refl _, by simp only; omega, by simp only; rw [← hR, hK]; rfl⟩ (by simp only; omega)
 rw [e2] at e1
 exact e1
section
variable (hs : List Span) (ps : List Pr) (cs : List Cn) (ss : List Sg)
theorem f42_bad (N : Nat) (hN : 100 ≤ N) (h1 : hs.length < 100) (h2 : ps.length < 100) (h3 : cs.length < 100) (h4 : ss.length < 100) (hc : chk hs ps cs ss ≠ 0) : f42 N hs ps cs ss = some (0, 0, 0, chk hs ps cs ss) := by
 unfold f42
 rw [f70_bad N hs ps cs ss hN h1 h2 h3 h4 hc, andThen_some]
 simp only
 rw [if_pos (by simpa using hc)]
theorem f42_no (N : Nat) (hN : 1000 ≤ N) (v : Valid hs ps cs ss) (ht : ¬ ∃ t, TruthO hs ps cs ss t) : f42 N hs ps cs ss = some (0, 0, 0, 9) := by
 obtain ⟨m, ok, e1, e2, e3⟩ := f70_eq N hs ps cs ss hN v
 have : ok = false := by
  cases ok with
  | false => rfl
  | true => exact absurd (e2.1 rfl) ht
 subst this
 unfold f42
 rw [e1, andThen_some]
 rfl
theorem trial_eq (N : Nat) (hN : 50000 ≤ N) (v : Valid hs ps cs ss) (h : List Span) (hl : h.length = hs.length) (he : Exact ps h (TruthO hs ps cs ss)) (ht : ∃ t, TruthO hs ps cs ss t) :
  ∃ R : St3, 0 ≤ R.2.1 ∧ f43 N hs ps cs ss h = some R ∧ f42 N hs ps cs ss = some (if R.2.1 = 0 then (0, 0, 0, 6) else (R.1, R.2.1, R.2.2, 0)) ∧ ∃ K, K = 1000 ∧ R = so (fun p s => sc (wrst hs ps cs ss (p : Int)) (p : Int) K 1 s) (0, 0, width h) hs.length := by
 have n5 := v.n5
 obtain ⟨m, ok, e1, e2, e3⟩ := f70_eq N hs ps cs ss (by omega) v
 have := e2.2 ht
 subst this
 have tg := e3 rfl
 have eh : h = spn hs.length m := exact_tight hl n5 he tg
 have bd : ∀ q, q < hs.length → -1000 ≤ ent m q 5 ∧ ent m q 5 ≤ 1000 ∧ -1000 ≤ ent m 5 q ∧ ent m 5 q ≤ 1000 := fun q hq => by
  have a := tight_bd tg rfl n5 v.h q 5 (.inl hq) (.inr rfl)
  have b := tight_bd tg rfl n5 v.h 5 q (.inr rfl) (.inl hq)
  omega
 have hrg : ∀ p, p < hs.length → 0 ≤ (sp (spn hs.length m) p).1 ∧ (sp (spn hs.length m) p).1 ≤ (sp (spn hs.length m) p).2 ∧ (sp (spn hs.length m) p).2 ≤ 1000 := fun p hp => by
  rw [← eh]
  have l1 := he.lo
  have l2 := he.hi
  have b1 := box_deg v.h l1.1 p hp
  have b2 := box_deg v.h l2.1 p hp
  have b3 := he.box _ l1 p (by omega)
  omega
 obtain ⟨K, hK⟩ : ∃ K : Nat, K = 1000 := ⟨1000, rfl⟩
 let G : Nat → St3 → St3 := fun p s => sc (wrst hs ps cs ss (p : Int)) (p : Int) K 1 s
 have hG : ∀ p s, p < hs.length → s.2.2 ≤ width (spn hs.length m) → G p s = sc (wrst hs ps cs ss (p : Int)) (p : Int) ((sp (spn hs.length m) p).2 - (sp (spn hs.length m) p).1).toNat ((sp (spn hs.length m) p).1 + 1) s := fun p s hp hs' => by
  have r := hrg p hp
  generalize hlo : (sp (spn hs.length m) p).1 = lo at *
  generalize hhi : (sp (spn hs.length m) p).2 = hi at *
  show sc _ (p : Int) K 1 s = _
  rw [show K = lo.toNat + ((hi - lo).toNat + (1000 - hi).toNat) by omega, sc_add, sc_add]
  rw [sc_skip _ _ lo.toNat 1 s fun b h1 h2 => Int.le_trans hs' (wrst_out hs ps cs ss v tg hp (.inl (by rw [hlo]; omega)))]
  rw [show (1 : Int) + (lo.toNat : Int) = lo + 1 by omega]
  refine sc_skip _ _ _ _ _ fun b h1 h2 => Int.le_trans (Int.le_trans (sc_le _ _ _ _ _) hs') (wrst_out hs ps cs ss v tg hp (.inr (by rw [hhi]; omega)))
 have hle : ∀ i, (so G (0, 0, width (spn hs.length m)) i).2.2 ≤ width (spn hs.length m) := fun i => by
  induction i with
  | zero => exact Int.le_refl _
  | succ i ih => exact Int.le_trans (sc_le _ _ _ _ _) ih
 have hpos : ∀ i, 0 ≤ (so G (0, 0, width (spn hs.length m)) i).2.1 := fun i => by
  induction i with
  | zero => exact Int.le_refl _
  | succ i ih => exact sc_pos _ _ _ _ _ (by omega) ih
 refine ⟨so G (0, 0, width (spn hs.length m)) hs.length, hpos _, ?_, ?_, K, hK, by rw [eh]⟩
 ·-- the reference
  generalize hR : so G (0, 0, width (spn hs.length m)) hs.length = R
  obtain ⟨r, g1, g2⟩ := loop_run (fun q (i : Nat) => f43l0 N q h (so G (0, 0, width (spn hs.length m)) i).1 (so G (0, 0, width (spn hs.length m)) i).2.1 (so G (0, 0, width (spn hs.length m)) i).2.2 (i : Int) hs ps cs ss)
   (fun i => i ≤ hs.length) (fun i => hs.length - i) (fun r => r = R) (fun q i hi => by
    by_cases hp : i < hs.length
    ·right
     refine ⟨i + 1, hp, by omega, ?_⟩
     generalize hS : so G (0, 0, width (spn hs.length m)) i = S
     have hS1 : so G (0, 0, width (spn hs.length m)) (i + 1) = sc (wrst hs ps cs ss (i : Int)) (i : Int) K 1 S := by rw [← hS]; rfl
     rw [hS1]
     show f43l0B N (f43l0 N q) h S.1 S.2.1 S.2.2 (i : Int) hs ps cs ss = _
     unfold f43l0B
     rw [if_pos (by rw [hl]; exact decide_eq_true (by omega))]
     rw [f43l1_eq N (wrst hs ps cs ss (i : Int)) (fun a b => aft hs.length (TC hs ps cs ss (i : Int) a b)) h (i : Int) hs ps cs ss (by omega) (fun a b h1 h2 => f100_eq hs ps cs ss N hN v h hl he (i : Int) a b (by omega) (by omega) h1 h2) (fun a => rfl) S K hK, andThen_some]
     simp only [w_succ (show i < 4611686018427387904 by omega)]
    ·left
     have : i = hs.length := by omega
     subst this
     refine ⟨_, ?_, rfl⟩
     rw [hR]
     show f43l0B N (f43l0 N q) h R.1 R.2.1 R.2.2 (hs.length : Int) hs ps cs ss = _
     unfold f43l0B
     rw [if_neg (by rw [hl]; simp)]) N 0 (Nat.zero_le _) (by omega)
  have g1 : f43l0 N N h 0 0 (width (spn hs.length m)) 0 hs ps cs ss = some r := g1
  unfold f43
  rw [f99_eq N h (by omega) (by omega) (deg_bd he.deg), andThen_some, show width h = width (spn hs.length m) by rw [eh], g1, andThen_some, g2]
 ·generalize hR : so G (0, 0, width (spn hs.length m)) hs.length = R
  obtain ⟨r, g1, g2⟩ := loop_run (fun q (i : Nat) => f42l0 N q (so G (0, 0, width (spn hs.length m)) i).1 (so G (0, 0, width (spn hs.length m)) i).2.1 (so G (0, 0, width (spn hs.length m)) i).2.2 (hs.length : Int) (i : Int) hs ps cs ss (nts cs ss) (hts hs.length m))
   (fun i => i ≤ hs.length) (fun i => hs.length - i) (fun r => r = R) (fun q i hi => by
    by_cases hp : i < hs.length
    ·right
     refine ⟨i + 1, hp, by omega, ?_⟩
     have hSl := hle i
     generalize hS : so G (0, 0, width (spn hs.length m)) i = S at *
     have hS1 : so G (0, 0, width (spn hs.length m)) (i + 1) = G i S := by rw [← hS]; rfl
     rw [hS1, hG i S hp hSl]
     have r := hrg i hp
     have e0 := (hts_any (m := m) (show i < 5 by omega) n5).1
     show f42l0B N (f42l0 N q) S.1 S.2.1 S.2.2 (hs.length : Int) (i : Int) hs ps cs ss (nts cs ss) (hts hs.length m) = _
     unfold f42l0B
     have e0 : (hts hs.length m).getD ((0 + i * 2) + 0) 0 = (sp (spn hs.length m) i).1 := by rw [Nat.zero_add]; exact e0
     simp only [show ((i : Int) < (hs.length : Int)) by omega, show ((i : Int) < 5) by omega, Int.natCast_nonneg, decide_true, Bool.and_true, if_true, Int.toNat_natCast, e0]
     rw [w64_id (z := (sp (spn hs.length m) i).1 + 1) (by omega) (by omega)]
     rw [f42l1_eq N (wrst hs ps cs ss (i : Int)) i hs.length m (hs.length : Int) (i : Int) hs ps cs ss (nts cs ss) (by omega) hp n5 _ _ rfl rfl r.1 r.2.1 r.2.2 (fun a h1 h2 => f98_eq hs ps cs ss N (by omega) v (i : Int) a ht (by omega) (by omega) h1 h2 false) S, andThen_some]
     simp only [w_succ (show i < 4611686018427387904 by omega)]
    ·left
     have : i = hs.length := by omega
     refine ⟨_, ?_, rfl⟩
     rw [this, hR]
     show f42l0B N (f42l0 N q) R.1 R.2.1 R.2.2 (hs.length : Int) (hs.length : Int) hs ps cs ss (nts cs ss) (hts hs.length m) = _
     unfold f42l0B
     rw [if_neg (by simp)]) N 0 (Nat.zero_le _) (by omega)
  have g1 : f42l0 N N 0 0 (width (spn hs.length m)) (hs.length : Int) 0 hs ps cs ss (nts cs ss) (hts hs.length m) = some r := g1
  unfold f42
  rw [e1, andThen_some]
  simp only [if_true]
  rw [if_neg (by decide), f71_eq N hs ps cs ss (nts cs ss) m (by omega) n5 (fun q hq => by have := bd q hq; omega), andThen_some, f97_eq N hs.length m (by omega) n5 bd, andThen_some, g1, andThen_some, g2]
  by_cases c : R.2.1 = 0
  ·rw [if_pos (by simpa using c), if_pos c]
  ·rw [if_neg (by simpa using c), if_neg c]
end
theorem sc_spec (g : Int → Int) (p : Int) : ∀ (k : Nat) (a : Int) (s : St3), (∀ b, a ≤ b → b < a + k → (sc g p k a s).2.2 ≤ g b) ∧ (sc g p k a s = s ∨ ∃ b, a ≤ b ∧ b < a + k ∧ sc g p k a s = (p, b, g b) ∧ g b < s.2.2 ∧ ∀ b', a ≤ b' → b' < b → g b < g b') := by
 intro k
 induction k with
 | zero => intro a s; exact ⟨fun b h1 h2 => by omega, .inl rfl⟩
 | succ k ih =>
  intro a s
  obtain ⟨h1, h2⟩ := ih (a + 1) (if g a < s.2.2 then (p, a, g a) else s)
  have hle := sc_le g p k (a + 1) (if g a < s.2.2 then (p, a, g a) else s)
  have e : sc g p (k + 1) a s = sc g p k (a + 1) (if g a < s.2.2 then (p, a, g a) else s) := rfl
  rw [e]
  have ha : (if g a < s.2.2 then ((p, a, g a) : St3) else s).2.2 ≤ g a ∧ (if g a < s.2.2 then ((p, a, g a) : St3) else s).2.2 ≤ s.2.2 := by
   by_cases c : g a < s.2.2
   ·rw [if_pos c]; exact ⟨Int.le_refl _, by simp only; omega⟩
   ·rw [if_neg c]; exact ⟨by omega, Int.le_refl _⟩
  refine ⟨fun b b1 b2 => ?_, ?_⟩
  ·by_cases c : b = a
   ·subst c; exact Int.le_trans hle ha.1
   ·exact h1 b (by omega) (by omega)
  ·rcases h2 with h2 | ⟨b, b1, b2, b3, b4, b5⟩
   ·by_cases c : g a < s.2.2
    ·right
     rw [h2, if_pos c]
     exact ⟨a, Int.le_refl _, by omega, rfl, c, fun b' x1 x2 => by omega⟩
    ·left
     rw [h2, if_neg c]
   ·right
    refine ⟨b, by omega, by omega, b3, by omega, fun b' x1 x2 => ?_⟩
    by_cases c : b' = a
    ·subst c; omega
    ·exact b5 b' (by omega) x2
theorem so_spec (w : Nat → Int → Int) (K : Nat) (s : St3) : ∀ n, (∀ p, p < n → ∀ a : Int, 1 ≤ a → a < 1 + K → (so (fun p s => sc (w p) (p : Int) K 1 s) s n).2.2 ≤ w p a) ∧
  (so (fun p s => sc (w p) (p : Int) K 1 s) s n = s ∨ ∃ (p : Nat) (a : Int), p < n ∧ 1 ≤ a ∧ a < 1 + K ∧ so (fun p s => sc (w p) (p : Int) K 1 s) s n = ((p : Int), a, w p a) ∧ w p a < s.2.2 ∧ ∀ (p' : Nat) (a' : Int), p' < n → 1 ≤ a' → a' < 1 + K → (p' < p ∨ (p' = p ∧ a' < a)) → w p a < w p' a') := by
 intro n
 induction n with
 | zero => exact ⟨fun p hp => absurd hp (Nat.not_lt_zero _), .inl rfl⟩
 | succ n ih =>
  obtain ⟨i1, i2⟩ := ih
  have e : so (fun p s => sc (w p) (p : Int) K 1 s) s (n + 1) = sc (w n) (n : Int) K 1 (so (fun p s => sc (w p) (p : Int) K 1 s) s n) := rfl
  obtain ⟨h1, h2⟩ := sc_spec (w n) (n : Int) K 1 (so (fun p s => sc (w p) (p : Int) K 1 s) s n)
  have hle := sc_le (w n) (n : Int) K 1 (so (fun p s => sc (w p) (p : Int) K 1 s) s n)
  rw [e]
  have sle : (so (fun p s => sc (w p) (p : Int) K 1 s) s n).2.2 ≤ s.2.2 := by
   rcases i2 with i2 | ⟨p, a, _, _, _, i3, i4, _⟩
   ·rw [i2]; exact Int.le_refl _
   ·rw [i3]; simp only; omega
  refine ⟨fun p hp a a1 a2 => ?_, ?_⟩
  ·by_cases c : p = n
   ·subst c; exact h1 a a1 a2
   ·exact Int.le_trans hle (i1 p (by omega) a a1 a2)
  ·rcases h2 with h2 | ⟨b, b1, b2, b3, b4, b5⟩
   ·rw [h2]
    rcases i2 with i2 | ⟨p, a, p1, p2, p3, p4, p5, p6⟩
    ·exact .inl i2
    ·refine .inr ⟨p, a, by omega, p2, p3, p4, p5, fun p' a' x1 x2 x3 x4 => ?_⟩
     exact p6 p' a' (by omega) x2 x3 x4
   ·right
    refine ⟨n, b, by omega, b1, b2, b3, by omega, fun p' a' x1 x2 x3 x4 => ?_⟩
    rcases x4 with x4 | ⟨rfl, x4⟩
    ·have := i1 p' x4 a' x2 x3; omega
    ·exact b5 a' x2 x4
end Go.Pl


namespace Go.Pl
open Go.Al Go.Proofs
def comps : List (List Int) → List Int → List (List Int)
 | [], acc => [acc]
 | c :: cs, acc => c.flatMap fun p => if p = -1 ∨ ¬ p ∈ acc then comps cs (acc ++ [p]) else []
def putN (l : List Int) : Nat := l.countP fun p => decide (0 ≤ p)
def better (b : Option (List Int)) (x : List Int) : Option (List Int) := match b with
 | none => some x
 | some y => if putN y < putN x then some x else some y
def pick (b : Option (List Int)) (l : List (List Int)) : Option (List Int) := l.foldl better b
theorem pick_append (b : Option (List Int)) (l l' : List (List Int)) : pick b (l ++ l') = pick (pick b l) l' := List.foldl_append ..
theorem putN_snoc (l : List Int) (p : Int) : putN (l ++ [p]) = putN l + if 0 ≤ p then 1 else 0 := by
 unfold putN
 rw [List.countP_append]
 by_cases h : 0 ≤ p <;> simp [h]
theorem putN_le (l : List Int) : putN l ≤ l.length := List.countP_le_length
theorem comps_put (cs : List (List Int)) : ∀ acc, ∀ x ∈ comps cs acc, putN x ≤ putN acc + cs.length ∧ x.length = acc.length + cs.length := by
 induction cs with
 | nil => intro acc x hx; simp [comps] at hx; subst hx; simp
 | cons c cs ih =>
  intro acc x hx
  unfold comps at hx
  rw [List.mem_flatMap] at hx
  obtain ⟨p, hp, hx⟩ := hx
  split at hx
  ·have := ih _ x hx
   rw [putN_snoc] at this
   simp only [List.length_append, List.length_cons, List.length_nil] at this ⊢
   split at this <;> omega
  ·simp at hx
theorem pick_low (y : List Int) (l : List (List Int)) (h : ∀ x ∈ l, putN x ≤ putN y) : pick (some y) l = some y := by
 induction l with
 | nil => rfl
 | cons x l ih =>
  show pick (better (some y) x) l = some y
  have h1 := h x (by simp)
  have : better (some y) x = some y := by unfold better; simp only; rw [if_neg (by omega)]
  rw [this]
  exact ih fun z hz => h z (by simp [hz])
theorem flat_len {α β : Type} (l : List α) (f : α → List β) (B : Nat) (h : ∀ x ∈ l, (f x).length ≤ B) : (l.flatMap f).length ≤ l.length * B := by
 induction l with
 | nil => simp
 | cons x l ih =>
  rw [List.flatMap_cons, List.length_append, List.length_cons, Nat.add_mul, Nat.one_mul]
  have h1 := h x (by simp)
  have h2 := ih fun y hy => h y (by simp [hy])
  omega
theorem comps_len (cs : List (List Int)) (h : ∀ c ∈ cs, c.length ≤ 6) : ∀ acc, (comps cs acc).length ≤ 6 ^ cs.length := by
 induction cs with
 | nil => intro acc; simp [comps]
 | cons c cs ih =>
  intro acc
  unfold comps
  have hc := h c (by simp)
  have := flat_len c (fun p => if p = -1 ∨ ¬ p ∈ acc then comps cs (acc ++ [p]) else []) (6 ^ cs.length) fun p _ => by
   by_cases hp : p = -1 ∨ ¬ p ∈ acc
   ·rw [if_pos hp]; exact ih (fun c hc => h c (by simp [hc])) _
   ·rw [if_neg hp]; simp
  rw [List.length_cons, Nat.pow_succ]
  have h2 := Nat.mul_le_mul_right (6 ^ cs.length) hc
  rw [Nat.mul_comm 6 (6 ^ cs.length)] at h2
  exact Nat.le_trans this h2
theorem comps_some (cs : List (List Int)) (h : ∀ c ∈ cs, ∃ r, c = -1 :: r) : ∀ acc, ∃ x l, comps cs acc = x :: l := by
 induction cs with
 | nil => intro acc; exact ⟨acc, [], rfl⟩
 | cons c cs ih =>
  intro acc
  obtain ⟨r, rfl⟩ := h c (by simp)
  obtain ⟨x, l, e⟩ := ih (fun c hc => h c (by simp [hc])) (acc ++ [-1])
  refine ⟨x, l ++ r.flatMap (fun p => if p = -1 ∨ ¬ p ∈ acc then comps cs (acc ++ [p]) else []), ?_⟩
  show ((-1 :: r).flatMap fun p => if p = -1 ∨ ¬ p ∈ acc then comps cs (acc ++ [p]) else []) = _
  rw [List.flatMap_cons, if_pos (.inl rfl), e, List.cons_append]
theorem f108_eq (N : Nat) (l : List Int) : f108 N l = some l := by
 unfold f108
 simp [cut]
theorem f119_eq (N : Nat) (l : List Int) (x : Int) (hN : l.length < N) (hl : l.length < 1000000) : ∃ r, f119 N l x = some r ∧ decide (r ≥ 0) = decide (x ∈ l) := by
 unfold f119
 rcases searchL l (0 : Int) (fun n => x == n) (fun q i => f119l0 N q l x (l.length : Int) (i : Int)) (fun i => .inl (i : Int)) (.inr ()) (fun q i hi => by
  show f119l0B N (f119l0 N q) l x (l.length : Int) (i : Int) = _
  unfold f119l0B
  simp only [show ((i : Int) < (l.length : Int)) by omega, Int.natCast_nonneg, decide_true, Bool.and_true, if_true, Int.toNat_natCast, w_succ (show i < 4611686018427387904 by omega)]) (fun q => by
  show f119l0B N (f119l0 N q) l x (l.length : Int) (l.length : Int) = _
  unfold f119l0B
  rw [if_neg (by simp)]) N hN with ⟨i, hi', ha, hr⟩ | ⟨ha, hr⟩
 ·have hr : f119l0 N N l x (l.length : Int) 0 = some (.inl (i : Int)) := hr
  have : x ∈ l := by
   obtain ⟨y, hy, e⟩ := List.any_eq_true.1 ha
   have : x = y := by simpa using e
   exact this ▸ hy
  exact ⟨(i : Int), by rw [hr]; rfl, by rw [decide_eq_true this]; simp⟩
 ·have hr : f119l0 N N l x (l.length : Int) 0 = some (.inr ()) := hr
  have : ¬ x ∈ l := fun h => by
   have := List.any_eq_false.1 ha x h
   simp at this
  exact ⟨-1, by rw [hr]; rfl, by rw [decide_eq_false this]; rfl⟩
theorem f109_eq (N : Nat) (l : List Int) (x : Int) (hN : l.length < N) (hl : l.length < 1000000) : f109 N l x = some (decide (x ∈ l)) := by
 obtain ⟨r, h1, h2⟩ := f119_eq N l x hN hl
 unfold f109
 rw [h1, andThen_some, h2]
def repB (b : Option (List Int)) : Bool × List Int := match b with | none => (true, []) | some y => (false, y)
def repN (b : Option (List Int)) : Int := match b with | none => 0 | some y => (putN y : Int)
theorem take_flat {β : Type} (c : List Int) (f : Int → List β) {i : Nat} (hi : i < c.length) : (c.take (i + 1)).flatMap f = (c.take i).flatMap f ++ f (c.getD i 0) := by
 rw [take_get c 0 hi, List.flatMap_append]; simp
theorem on_eq (N : Nat) (can : List (List Int)) (hN : 100 ≤ N) (h0 : 0 < can.length) (h5 : can.length ≤ 5) (hc : ∀ c ∈ can, c.length ≤ 6 ∧ ∀ p ∈ c, p = -1 ∨ 0 ≤ p) :
  ∀ k M acc fl b, acc.length + k = can.length → k < M → (acc.length = can.length → fl = false) →
   f85 N M (fl, acc) (putN acc : Int) can (repB b) (repN b) = some (can, repB (pick b (comps (can.drop acc.length) acc)), repN (pick b (comps (can.drop acc.length) acc))) := by
 intro k
 induction k with
 | zero =>
  intro M acc fl b hk hM hfl
  obtain ⟨M, rfl⟩ : ∃ M', M = M' + 1 := ⟨M - 1, by omega⟩
  have hk : acc.length = can.length := by omega
  rw [hk, List.drop_length]
  show f85B N (f85 N M) (fl, acc) (putN acc : Int) can (repB b) (repN b) = _
  have hp := putN_le acc
  have hleaf : (f93 N (fl, acc)) = some (false, acc) := by
   unfold f93
   rw [hfl hk]
   simp only [Bool.false_eq_true, if_false, List.nil_append]
   rw [if_pos (by simp [boundLen]; omega)]
  have e1 : Go.IntKind.wrap .i64 (Go.IntKind.wrap .i64 ((putN acc : Int) + (can.length : Int)) - (acc.length : Int)) = (putN acc : Int) := by
   rw [w64_id (z := (putN acc : Int) + (can.length : Int)) (by omega) (by omega), w64_id (by omega) (by omega)]; omega
  rw [hk] at e1
  unfold f85B
  simp only [hk, e1, beq_self_eq_true, if_true, hleaf, andThen_some]
  show _ = some (can, repB (better b acc), repN (better b acc))
  cases b with
  | none =>
   by_cases c : decide ((putN acc : Int) ≤ repN none) = true
   ·rw [if_pos c]; rfl
   ·rw [if_neg c]; rfl
  | some y =>
   have e2 : decide ((putN acc : Int) ≤ repN (some y)) = decide (¬ putN y < putN acc) := by
    rw [decide_eq_decide]; show (putN acc : Int) ≤ (putN y : Int) ↔ _; omega
   rw [e2]
   unfold better
   simp only
   by_cases c : putN y < putN acc
   ·rw [if_neg (by simp [c]), if_pos c]; rfl
   ·rw [if_pos (by simp [c]), if_neg c]; rfl
 | succ k ih =>
  intro M acc fl b hk hM hfl
  obtain ⟨M, rfl⟩ : ∃ M', M = M' + 1 := ⟨M - 1, by omega⟩
  have hlt : acc.length < can.length := by omega
  have hp := putN_le acc
  generalize hcc : can.getD acc.length [] = c
  have hcm : c ∈ can := hcc ▸ getD_mem hlt
  obtain ⟨c6, cp⟩ := hc c hcm
  have hd : can.drop acc.length = c :: can.drop (acc.length + 1) := by
   rw [List.drop_eq_getElem_cons hlt, ← hcc, List.getD_eq_getElem?_getD, List.getElem?_eq_getElem hlt]; rfl
  have e1 : Go.IntKind.wrap .i64 (Go.IntKind.wrap .i64 ((putN acc : Int) + (can.length : Int)) - (acc.length : Int)) = (putN acc : Int) + (can.length : Int) - (acc.length : Int) := by
   rw [w64_id (z := (putN acc : Int) + (can.length : Int)) (by omega) (by omega), w64_id (by omega) (by omega)]
  -- the loop
  have hloop : f85l0 N (f85 N M) N acc (putN acc : Int) c (c.length : Int) 0 can (repB b) (repN b) = some (can, repB (pick b (comps (can.drop acc.length) acc)), repN (pick b (comps (can.drop acc.length) acc))) := by
   rw [hd]
   show _ = some (can, repB (pick b (c.flatMap fun p => if p = -1 ∨ ¬ p ∈ acc then comps (can.drop (acc.length + 1)) (acc ++ [p]) else [])), repN (pick b (c.flatMap fun p => if p = -1 ∨ ¬ p ∈ acc then comps (can.drop (acc.length + 1)) (acc ++ [p]) else [])))
   generalize hf : (fun p => if p = -1 ∨ ¬ p ∈ acc then comps (can.drop (acc.length + 1)) (acc ++ [p]) else []) = f
   obtain ⟨r, g1, g2⟩ := loop_run (fun q (i : Nat) => f85l0 N (f85 N M) q acc (putN acc : Int) c (c.length : Int) (i : Int) can (repB (pick b ((c.take i).flatMap f))) (repN (pick b ((c.take i).flatMap f)))) (fun i => i ≤ c.length) (fun i => c.length - i)
    (fun r => r = (can, repB (pick b (c.flatMap f)), repN (pick b (c.flatMap f)))) (fun q i hi => by
     by_cases h : i < c.length
     ·right
      refine ⟨i + 1, h, by omega, ?_⟩
      generalize hb' : pick b ((c.take i).flatMap f) = b'
      rw [take_flat c f h, pick_append, hb']
      have hpm : c.getD i 0 ∈ c := getD_mem h
      generalize hpp : c.getD i 0 = p at *
      have hrc : (p = -1 ∨ ¬ p ∈ acc) → f85 N M (false, acc ++ [p]) ((putN acc : Int) + if 0 ≤ p then 1 else 0) can (repB b') (repN b') = some (can, repB (pick b' (f p)), repN (pick b' (f p))) := fun hh => by
       have := ih M (acc ++ [p]) false b' (by simp; omega) (by omega) (fun _ => rfl)
       rw [putN_snoc] at this
       rw [← hf]
       simp only
       rw [if_pos hh]
       rw [List.length_append] at this
       simp only [List.length_cons, List.length_nil] at this
       rw [← this]
       congr 1
       split <;> simp
      show f85l0B N (f85 N M) (f85l0 N (f85 N M) q) acc (putN acc : Int) c (c.length : Int) (i : Int) can (repB b') (repN b') = _
      unfold f85l0B
      have hb1 : Nat.ble (acc.length + [p].length) boundLen = true := by simp [boundLen]; omega
      simp only [show ((i : Int) < (c.length : Int)) by omega, Int.natCast_nonneg, decide_true, Bool.and_true, if_true, Int.toNat_natCast, w_succ (show i < 4611686018427387904 by omega), hpp, f108_eq, andThen_some, f109_eq N acc p (show acc.length < N by omega) (show acc.length < 1000000 by omega), hb1]
      by_cases e : p = -1
      ·have := hrc (.inl e)
       rw [if_neg (show ¬ 0 ≤ p by omega), Int.add_zero] at this
       rw [if_pos (by simp [e])]
       rw [show ((repB b').1, (repB b').2) = repB b' from rfl, this]
       rfl
      ·have h0 : 0 ≤ p := by rcases cp p hpm with h | h <;> omega
       rw [if_neg (by simpa using e)]
       by_cases hm : p ∈ acc
       ·rw [if_neg (by simp [hm])]
        have : f p = [] := by rw [← hf]; simp only; rw [if_neg (by simp [e, hm])]
        rw [this]
        rfl
       ·rw [if_pos (by simp [hm])]
        have := hrc (.inr hm)
        rw [if_pos h0] at this
        rw [w64_id (by omega) (by omega), show ((repB b').1, (repB b').2) = repB b' from rfl, this]
        rfl
     ·left
      have : i = c.length := by omega
      subst this
      refine ⟨_, ?_, rfl⟩
      rw [List.take_length]
      show f85l0B N (f85 N M) (f85l0 N (f85 N M) q) acc (putN acc : Int) c (c.length : Int) (c.length : Int) can (repB (pick b (c.flatMap f))) (repN (pick b (c.flatMap f))) = _
      unfold f85l0B
      rw [if_neg (by simp)]) N 0 (Nat.zero_le _) (by simp; omega)
   rw [g2] at g1
   exact g1
  show f85B N (f85 N M) (fl, acc) (putN acc : Int) can (repB b) (repN b) = _
  unfold f85B
  simp only [e1, Int.natCast_nonneg, decide_true, Bool.true_and, Int.toNat_natCast, hcc]
  have hne : ((acc.length : Int) == (can.length : Int)) = false := by simp; omega
  have hlt' : decide ((acc.length : Int) < (can.length : Int)) = true := by simp; omega
  simp only [hne, hlt', Bool.false_eq_true, if_false, if_true]
  rw [show ((repB b).1, (repB b).2) = repB b from rfl, hloop]
  simp only [andThen_some]
  by_cases cnd : decide ((putN acc : Int) + (can.length : Int) - (acc.length : Int) ≤ repN b) = true
  ·rw [if_pos cnd]
   cases b with
   | none => rfl
   | some y =>
    have h1 := of_decide_eq_true cnd
    have h1 : (putN acc : Int) + (can.length : Int) - (acc.length : Int) ≤ (putN y : Int) := h1
    have : pick (some y) (comps (can.drop acc.length) acc) = some y := pick_low y _ fun x hx => by
     have := (comps_put _ _ x hx).1
     rw [List.length_drop] at this
     omega
    rw [this]
    rfl
  ·rw [if_neg cnd]
theorem f87_eq (N : Nat) (l : List Int) (hN : l.length < N) (hl : l.length < 1000000) : f87 N l = some (putN l : Int) := by
 obtain ⟨r, h1, h2⟩ := loop_run (fun q (i : Nat) => f87l0 N q l (putN (l.take i) : Int) (i : Int)) (fun i => i ≤ l.length) (fun i => l.length - i) (fun r => r = (putN l : Int)) (fun q i hi => by
  by_cases h : i < l.length
  ·right
   refine ⟨i + 1, h, by omega, ?_⟩
   show f87l0B N (f87l0 N q) l (putN (l.take i) : Int) (i : Int) = _
   have := putN_le (l.take i)
   rw [List.length_take] at this
   unfold f87l0B
   simp only [show ((i : Int) < (l.length : Int)) by omega, Int.natCast_nonneg, decide_true, Bool.and_true, if_true, Int.toNat_natCast, w_succ (show i < 4611686018427387904 by omega)]
   rw [take_get l 0 h, putN_snoc, w64_id (z := (putN (l.take i) : Int) + 1) (by omega) (by omega)]
   by_cases c : 0 ≤ l.getD i 0
   ·rw [if_pos (by simpa using c), if_pos c]; rfl
   ·rw [if_neg (by simpa using c), if_neg c]; rfl
  ·left
   have : i = l.length := by omega
   subst this
   refine ⟨_, ?_, rfl⟩
   rw [List.take_length]
   show f87l0B N (f87l0 N q) l (putN l : Int) (l.length : Int) = _
   unfold f87l0B
   rw [if_neg (by simp)]) N 0 (Nat.zero_le _) (by simpa using hN)
 rw [h2] at h1
 unfold f87
 have h1 : f87l0 N N l 0 0 = some (putN l : Int) := h1
 rw [h1]; rfl
def canOf (h : List Span) (n : Nat) (w : Span) : List Int := [-1] ++ filt (fun p => goodS w (sp h p)) n
theorem canOf_len (h : List Span) (n : Nat) (w : Span) : (canOf h n w).length ≤ n + 1 := by
 have := filt_len (fun p => goodS w (sp h p)) n
 simp [canOf]; omega
theorem filt_pos (P : Nat → Bool) (n : Nat) : ∀ p ∈ filt P n, 0 ≤ p := fun p hp => by
 unfold filt at hp
 rw [List.mem_map] at hp
 obtain ⟨i, _, rfl⟩ := hp
 omega
theorem canOf_ok (h : List Span) (n : Nat) (w : Span) : ∀ p ∈ canOf h n w, p = -1 ∨ 0 ≤ p := fun p hp => by
 unfold canOf at hp
 rw [List.mem_append] at hp
 rcases hp with hp | hp
 ·left; simpa using hp
 ·right; exact filt_pos _ _ p hp
theorem f86_eq (N : Nat) (h l : List Span) (hN : 5000 ≤ N) (hn : h.length ≤ 5) (hl : l.length ≤ 5) (hw : ∀ w ∈ l, okWr w) (hd : ∀ p, p < h.length → -1 ≤ (sp h p).1 ∧ (sp h p).1 ≤ (sp h p).2 ∧ (sp h p).2 ≤ 1000) :
  ∀ k M acc, acc.length + k = l.length → k < M → f86 N M h l acc = some (comps ((l.map (canOf h h.length)).drop acc.length) acc) := by
 have hcan : ∀ c ∈ l.map (canOf h h.length), c.length ≤ 6 := fun c hc => by
  rw [List.mem_map] at hc
  obtain ⟨w, _, rfl⟩ := hc
  have := canOf_len h h.length w
  omega
 intro k
 induction k with
 | zero =>
  intro M acc hk hM
  obtain ⟨M, rfl⟩ : ∃ M', M = M' + 1 := ⟨M - 1, by omega⟩
  show f86B N (f86 N M) h l acc = _
  unfold f86B
  rw [if_pos (by simp; omega), List.drop_eq_nil_of_le (by simp; omega)]
  rfl
 | succ k ih =>
  intro M acc hk hM
  obtain ⟨M, rfl⟩ : ∃ M', M = M' + 1 := ⟨M - 1, by omega⟩
  have hlt : acc.length < l.length := by omega
  generalize hcs : (l.map (canOf h h.length)).drop (acc.length + 1) = cs
  generalize hww : l.getD acc.length (0, 0) = w
  have hwm : w ∈ l := hww ▸ getD_mem hlt
  have hd' : (l.map (canOf h h.length)).drop acc.length = canOf h h.length w :: cs := by
   rw [List.drop_eq_getElem_cons (by simpa using hlt), hcs, ← hww, List.getD_eq_getElem?_getD, List.getElem?_eq_getElem hlt, List.getElem_map]; rfl
  have hcs5 : cs.length ≤ 4 := by rw [← hcs, List.length_drop, List.length_map]; omega
  have hcs6 : ∀ c ∈ cs, c.length ≤ 6 := fun c hc => hcan c (by rw [← hcs] at hc; exact List.mem_of_mem_drop hc)
  have hlen : ∀ acc', (comps cs acc').length ≤ 1296 := fun acc' => by
   refine Nat.le_trans (comps_len cs hcs6 acc') ?_
   exact Nat.le_trans (Nat.pow_le_pow_right (by omega) hcs5) (by decide)
  rw [hd']
  show f86B N (f86 N M) h l acc = some ((canOf h h.length w).flatMap fun p => if p = -1 ∨ ¬ p ∈ acc then comps cs (acc ++ [p]) else [])
  generalize hf : (fun p => if p = -1 ∨ ¬ p ∈ acc then comps cs (acc ++ [p]) else []) = f
  have hfl : ∀ p, (f p).length ≤ 1296 := fun p => by
   rw [← hf]; simp only; split
   ·exact hlen _
   ·simp
  have hrc : ∀ p, (p = -1 ∨ ¬ p ∈ acc) → f86 N M h l (acc ++ [p]) = some (f p) := fun p hp => by
   have := ih M (acc ++ [p]) (by simp; omega) (by omega)
   rw [List.length_append] at this
   simp only [List.length_cons, List.length_nil, hcs] at this
   rw [this, ← hf]; simp only; rw [if_pos hp]
  have hb0 : Nat.ble (([] : List Int).length + acc.length) boundLen = true := by simp [boundLen]; omega
  have hb1 : ∀ p : Int, Nat.ble (acc.length + [p].length) boundLen = true := fun p => by simp [boundLen]; omega
  have hout : ∀ i, i ≤ h.length → ((canOf h i w).flatMap f).length ≤ 7776 := fun i hi => by
   have h1 := flat_len (canOf h i w) f 1296 fun p _ => hfl p
   have h2 := canOf_len h i w
   have h3 : (canOf h i w).length * 1296 ≤ 6 * 1296 := Nat.mul_le_mul_right _ (by omega)
   omega
  obtain ⟨r, g1, g2⟩ := loop_run (fun q (i : Nat) => f86l0 N (f86 N M) q h l acc ((canOf h i w).flatMap f) (i : Int)) (fun i => i ≤ h.length) (fun i => h.length - i) (fun r => r = (canOf h h.length w).flatMap f) (fun q i hi => by
   by_cases hi' : i < h.length
   ·right
    refine ⟨i + 1, hi', by omega, ?_⟩
    show f86l0B N (f86 N M) (f86l0 N (f86 N M) q) h l acc ((canOf h i w).flatMap f) (i : Int) = _
    have d := hd i hi'
    have e30 := f30_eq N w (sp h i) hN (hw w hwm) d.1 d.2.1 d.2.2
    unfold sp at e30
    unfold f86l0B
    have hge : decide ((i : Int) ≥ 0) = true := by simp
    have hlt' : decide ((acc.length : Int) < (l.length : Int)) = true := by simp; omega
    simp only [show ((i : Int) < (h.length : Int)) by omega, hge, hlt', Int.natCast_nonneg, decide_true, Bool.and_true, if_true, Int.toNat_natCast, w_succ (show i < 4611686018427387904 by omega), hww, e30, andThen_some, f110_eq N acc (i : Int) (show acc.length < N by omega) (show acc.length < 1000000 by omega), List.nil_append, hb0, hb1]
    have hs : canOf h (i + 1) w = if goodS w (sp h i) = true then canOf h i w ++ [(i : Int)] else canOf h i w := by
     unfold canOf
     rw [filt_succ]
     split <;> simp
    have hgs : goodS w (h.getD i (0, 0)) = goodS w (sp h i) := rfl
    rw [hs, hgs]
    by_cases c : goodS w (sp h i) = true
    ·rw [if_pos (by rw [c]; rfl), if_pos c, List.flatMap_append]
     by_cases hm : (i : Int) ∈ acc
     ·rw [if_pos (by simpa using hm)]
      have : f (i : Int) = [] := by rw [← hf]; simp only; rw [if_neg (by simp [hm])]
      simp [this]
     ·rw [if_neg (by simpa using hm), hrc _ (.inr hm)]
      have hb2 : Nat.ble (((canOf h i w).flatMap f).length + (f (i : Int)).length) boundLen = true := by
       have h1 := hout i (by omega)
       have h2 := hfl (i : Int)
       rw [Nat.ble_eq]; unfold boundLen; omega
      simp only [andThen_some, hb2, if_true]
      simp
    ·rw [if_neg (by simpa using c), if_neg c]
   ·left
    have : i = h.length := by omega
    subst this
    refine ⟨_, ?_, rfl⟩
    show f86l0B N (f86 N M) (f86l0 N (f86 N M) q) h l acc _ (h.length : Int) = _
    unfold f86l0B
    rw [if_neg (by simp)]) (N - 1) 0 (Nat.zero_le _) (by simp; omega)
  rw [g2] at g1
  -- the first one
  have first : f86l0 N (f86 N M) N h l acc [] (-1) = f86l0 N (f86 N M) (N - 1) h l acc ((canOf h 0 w).flatMap f) ((0 : Nat) : Int) := by
   obtain ⟨K, hK⟩ : ∃ K, N = K + 1 := ⟨N - 1, by omega⟩
   have e : f86l0 N (f86 N M) N h l acc [] (-1) = f86l0B N (f86 N M) (f86l0 N (f86 N M) (N - 1)) h l acc [] (-1) := by
    conv => lhs; arg 3; rw [hK]
    rw [show N - 1 = K by omega]
    rfl
   rw [e]
   unfold f86l0B
   simp only [show ((-1 : Int) < (h.length : Int)) by omega, decide_true, if_true, show ¬ ((-1 : Int) ≥ 0) by omega, decide_false, Bool.false_eq_true, if_false, List.nil_append, hb0, hb1, hrc (-1) (.inl rfl), andThen_some]
   have hb2 : Nat.ble (([] : List (List Int)).length + (f (-1)).length) boundLen = true := by
    have h2 := hfl (-1)
    rw [Nat.ble_eq]; unfold boundLen; simp; omega
   rw [if_pos hb2, w64_id (by omega) (by omega)]
   simp [canOf, filt]
  unfold f86B
  rw [if_neg (by simp; omega), first, g1]
  rfl
theorem f35_eq (N : Nat) (h l : List Span) (hN : 50000 ≤ N) (hn : h.length ≤ 5) (hl : l.length ≤ 5) (hw : ∀ w ∈ l, okWr w) (hd : ∀ p, p < h.length → -1 ≤ (sp h p).1 ∧ (sp h p).1 ≤ (sp h p).2 ∧ (sp h p).2 ≤ 1000) :
  ∃ y, pick none (comps (l.map (canOf h h.length)) []) = some y ∧ f35 N h l = some y := by
 have e1 := f86_eq N h l (by omega) hn hl hw hd l.length N [] (by simp) (by omega)
 rw [List.length_nil, List.drop_zero] at e1
 have hcan : ∀ c ∈ l.map (canOf h h.length), c.length ≤ 6 := fun c hc => by
  rw [List.mem_map] at hc
  obtain ⟨w, _, rfl⟩ := hc
  have := canOf_len h h.length w
  omega
 have hlen : (comps (l.map (canOf h h.length)) []).length ≤ 7776 := by
  refine Nat.le_trans (comps_len _ hcan []) ?_
  rw [List.length_map]
  exact Nat.le_trans (Nat.pow_le_pow_right (by omega) hl) (by decide)
 have hall : ∀ x ∈ comps (l.map (canOf h h.length)) [], x.length ≤ 5 := fun x hx => by
  have := (comps_put _ _ x hx).2
  rw [List.length_map] at this
  simp at this; omega
 obtain ⟨x, r, e2⟩ := comps_some (l.map (canOf h h.length)) (fun c hc => by
  rw [List.mem_map] at hc
  obtain ⟨w, _, rfl⟩ := hc
  exact ⟨_, rfl⟩) []
 rw [e2] at e1 hlen hall ⊢
 obtain ⟨y, g1, g2⟩ := loop_run (fun q (s : Nat × List Int) => f35l0 N q (x :: r) s.2 (s.1 : Int)) (fun s => 1 ≤ s.1 ∧ s.1 ≤ (x :: r).length ∧ s.2.length ≤ 5 ∧ some s.2 = pick none ((x :: r).take s.1)) (fun s => (x :: r).length - s.1) (fun y => some y = pick none (x :: r)) (by
  rintro q ⟨i, b⟩ ⟨i0, i1, i2, i3⟩
  simp only at i0 i1 i2 i3 ⊢
  by_cases hi : i < (x :: r).length
  ·right
   have hz := hall _ (getD_mem (d := []) hi)
   generalize hzz : (x :: r).getD i [] = z at *
   refine ⟨(i + 1, if putN b < putN z then z else b), ⟨by simp only; omega, hi, by simp only; split <;> omega, ?_⟩, by simp only; omega, ?_⟩
   ·simp only
    rw [take_get (x :: r) [] hi, pick_append, ← i3, hzz]
    show _ = better (some b) z
    unfold better
    simp only
    split <;> rfl
   ·show f35l0B N (f35l0 N q) (x :: r) b (i : Int) = _
    unfold f35l0B
    simp only [show ((i : Int) < ((x :: r).length : Int)) by omega, Int.natCast_nonneg, decide_true, Bool.and_true, if_true, Int.toNat_natCast, w_succ (show i < 4611686018427387904 by omega), hzz, f87_eq N z (show z.length < N by omega) (show z.length < 1000000 by omega), f87_eq N b (show b.length < N by omega) (show b.length < 1000000 by omega), andThen_some]
    by_cases c : putN b < putN z
    ·rw [if_pos (by simpa using c), if_pos c]
    ·rw [if_neg (by simpa using c), if_neg c]
  ·left
   have : i = (x :: r).length := by omega
   subst this
   refine ⟨b, ?_, by rw [i3, List.take_length]⟩
   show f35l0B N (f35l0 N q) (x :: r) b ((x :: r).length : Int) = _
   unfold f35l0B
   rw [if_neg (by simp)]) N (1, x) ⟨by simp, by simp, hall x (by simp), rfl⟩ (by simp only; omega)
 refine ⟨y, g2.symm, ?_⟩
 unfold f35
 rw [e1, andThen_some, if_pos (by simp)]
 have g1 : f35l0 N N (x :: r) ((x :: r).getD (Int.toNat 0) []) 1 = some y := g1
 rw [g1]
 rfl
end Go.Pl


namespace Go.Pl
open Go.Al Go.Proofs
theorem bitOff_nat {w i : Nat} (hi : i < 20) : bitOff (w : Int) i = !w.testBit i := by
 unfold bitOff
 have e1 : (2 : Int) ^ (min i (Go.IntKind.bits .i64)) = ((2 ^ i : Nat) : Int) := by
  rw [Nat.min_eq_left (show i ≤ Go.IntKind.bits .i64 by show i ≤ 64; omega), Int.natCast_pow]; rfl
 rw [e1, ← Int.ofNat_fdiv]
 have e2 : (BitVec.ofInt (Go.IntKind.bits .i64) ((w / 2 ^ i : Nat) : Int) &&& BitVec.ofInt (Go.IntKind.bits .i64) 1).toNat = w / 2 ^ i % 2 := by
  rw [BitVec.ofInt_natCast, BitVec.toNat_and, BitVec.toNat_ofNat]
  show w / 2 ^ i % 2 ^ 64 &&& 1 = _
  rw [Nat.and_one_is_mod, Nat.mod_mod_of_dvd _ (by decide)]
 rw [e2, w64_id (by omega) (by have := Nat.mod_lt (w / 2 ^ i) (show 0 < 2 by decide); omega), Nat.testBit_eq_decide_div_mod_eq]
 have := Nat.mod_lt (w / 2 ^ i) (show 0 < 2 by decide)
 rcases (show w / 2 ^ i % 2 = 0 ∨ w / 2 ^ i % 2 = 1 by omega) with h | h <;> rw [h] <;> rfl
theorem wrap_pow {i : Nat} (hi : i < 20) : Go.IntKind.wrap .i64 (1 * (2 ^ (min i (Go.IntKind.bits .i64)))) = ((2 ^ i : Nat) : Int) := by
 have e1 : (2 : Int) ^ (min i (Go.IntKind.bits .i64)) = ((2 ^ i : Nat) : Int) := by
  rw [Nat.min_eq_left (show i ≤ Go.IntKind.bits .i64 by show i ≤ 64; omega), Int.natCast_pow]; rfl
 have : (2 : Nat) ^ i < 2 ^ 20 := Nat.pow_lt_pow_right (by decide) hi
 rw [e1, Int.one_mul]
 generalize 2 ^ i = p at *
 rw [w64_id (by omega) (by omega)]
theorem wrap_or {w i : Nat} (hw : w < 2 ^ 20) (hi : i < 20) : Go.IntKind.wrap .i64 (((((BitVec.ofInt (Go.IntKind.bits .i64) (w : Int)) ||| (BitVec.ofInt (Go.IntKind.bits .i64) (Go.IntKind.wrap .i64 (1 * (2 ^ (min (Int.toNat (i : Int)) (Go.IntKind.bits .i64)))))))).toNat : Nat) : Int) = ((w ||| 2 ^ i : Nat) : Int) := by
 rw [Int.toNat_natCast, wrap_pow hi, BitVec.ofInt_natCast, BitVec.ofInt_natCast, BitVec.toNat_or, BitVec.toNat_ofNat, BitVec.toNat_ofNat]
 have h2 : (2 : Nat) ^ i < 2 ^ 20 := Nat.pow_lt_pow_right (by decide) hi
 have h3 : w ||| 2 ^ i < 2 ^ 20 := Nat.or_lt_two_pow hw h2
 show Go.IntKind.wrap .i64 ((w % 2 ^ 64 ||| 2 ^ i % 2 ^ 64 : Nat) : Int) = _
 generalize 2 ^ i = p at *
 rw [Nat.mod_eq_of_lt (by omega), Nat.mod_eq_of_lt (by omega), w64_id (by omega) (by omega)]
def Msk (w : Nat) (l : List Int) : Prop := w < 2 ^ 20 ∧ ∀ i, i < 20 → (w.testBit i = true ↔ (i : Int) ∈ l)
theorem msk_nil : Msk 0 [] := ⟨by decide, fun i _ => by simp⟩
theorem msk_snoc {w i : Nat} {l : List Int} (h : Msk w l) (hi : i < 20) : Msk (w ||| 2 ^ i) (l ++ [(i : Int)]) := by
 refine ⟨Nat.or_lt_two_pow h.1 (Nat.pow_lt_pow_right (by decide) hi), fun j hj => ?_⟩
 rw [Nat.testBit_or, Nat.testBit_two_pow, List.mem_append, ← h.2 j hj]
 simp only [Bool.or_eq_true, decide_eq_true_eq, List.mem_singleton]
 constructor
 ·rintro (h | h)
  ·exact .inl h
  ·right; omega
 ·rintro (h | h)
  ·exact .inl h
  ·right; omega
def lexB : List Int → List Int → Bool
 | x :: a, y :: b => if x = y then lexB a b else decide (x < y)
 | _, _ => false
def lss (a b : List Int) : Bool := if a.length = b.length then lexB a b else decide (a.length < b.length)
theorem lexB_total : ∀ (a b : List Int), a.length = b.length → lexB a b = false → lexB b a = false → a = b := by
 intro a
 induction a with
 | nil => intro b h _ _; exact (List.eq_nil_of_length_eq_zero h.symm).symm
 | cons x a ih =>
  intro b hl h1 h2
  cases b with
  | nil => cases hl
  | cons y b =>
   unfold lexB at h1 h2
   by_cases e : x = y
   ·subst e
    rw [if_pos rfl] at h1 h2
    rw [ih b (by simpa using hl) h1 h2]
   ·rw [if_neg e] at h1
    rw [if_neg (fun h => e h.symm)] at h2
    have h1 := of_decide_eq_false h1
    have h2 := of_decide_eq_false h2
    omega
theorem lss_total {a b : List Int} (h1 : lss a b = false) (h2 : lss b a = false) : a = b := by
 unfold lss at h1 h2
 by_cases e : a.length = b.length
 ·rw [if_pos e] at h1
  rw [if_pos e.symm] at h2
  exact lexB_total a b e h1 h2
 ·rw [if_neg e] at h1
  rw [if_neg (fun h => e h.symm)] at h2
  have h1 := of_decide_eq_false h1
  have h2 := of_decide_eq_false h2
  omega
theorem lexB_trans : ∀ (a b c : List Int), a.length = b.length → b.length = c.length → lexB a b = true → lexB b c = true → lexB a c = true := by
 intro a
 induction a with
 | nil => intro b c h1 h2 h; cases b <;> simp [lexB] at h
 | cons x a ih =>
  intro b c h1 h2 h3 h4
  cases b with
  | nil => cases h1
  | cons y b =>
   cases c with
   | nil => cases h2
   | cons z c =>
    unfold lexB at h3 h4 ⊢
    by_cases e : x = y
    ·subst e
     rw [if_pos rfl] at h3
     by_cases e2 : x = z
     ·subst e2
      rw [if_pos rfl] at h4 ⊢
      exact ih b c (by simpa using h1) (by simpa using h2) h3 h4
     ·rw [if_neg e2] at h4 ⊢; exact h4
    ·rw [if_neg e] at h3
     by_cases e2 : y = z
     ·subst e2
      rw [if_neg e]; exact h3
     ·rw [if_neg e2] at h4
      have h3 := of_decide_eq_true h3
      have h4 := of_decide_eq_true h4
      rw [if_neg (by omega)]
      exact decide_eq_true (by omega)
theorem lss_trans {a b c : List Int} (h1 : lss a b = true) (h2 : lss b c = true) : lss a c = true := by
 unfold lss at h1 h2 ⊢
 by_cases e1 : a.length = b.length
 ·rw [if_pos e1] at h1
  by_cases e2 : b.length = c.length
  ·rw [if_pos e2] at h2
   rw [if_pos (by omega)]
   exact lexB_trans a b c e1 e2 h1 h2
  ·rw [if_neg e2] at h2
   rw [if_neg (by omega)]
   have h2 := of_decide_eq_true h2
   exact decide_eq_true (by omega)
 ·rw [if_neg e1] at h1
  have h1 := of_decide_eq_true h1
  by_cases e2 : b.length = c.length
  ·rw [if_neg (by omega)]
   exact decide_eq_true (by omega)
  ·rw [if_neg e2] at h2
   have h2 := of_decide_eq_true h2
   rw [if_neg (by omega)]
   exact decide_eq_true (by omega)
def Ext (n first k : Nat) (s : List Int) : Prop := s.length = k ∧ s.Pairwise (· < ·) ∧ ∀ x ∈ s, (first : Int) ≤ x ∧ x < n
theorem ext_zero {n first : Nat} {s : List Int} : Ext n first 0 s ↔ s = [] := by
 constructor
 ·rintro ⟨h, _⟩; exact List.eq_nil_of_length_eq_zero h
 ·rintro rfl; exact ⟨rfl, .nil, by simp⟩
theorem ext_cons {n first k i : Nat} {s : List Int} (h : Ext n (i + 1) k s) (h1 : first ≤ i) (h2 : i < n) : Ext n first (k + 1) ((i : Int) :: s) := by
 obtain ⟨a, b, c⟩ := h
 refine ⟨by simp [a], ?_, fun x hx => ?_⟩
 ·rw [List.pairwise_cons]
  exact ⟨fun y hy => by have := c y hy; omega, b⟩
 ·rw [List.mem_cons] at hx
  rcases hx with rfl | hx
  ·omega
  ·have := c x hx; omega
theorem ext_split {n first k : Nat} {s : List Int} (h : Ext n first (k + 1) s) : ∃ (i : Nat) (r : List Int), s = (i : Int) :: r ∧ first ≤ i ∧ i < n ∧ Ext n (i + 1) k r := by
 obtain ⟨a, b, c⟩ := h
 cases s with
 | nil => cases a
 | cons x r =>
  rw [List.pairwise_cons] at b
  have hx := c x (by simp)
  refine ⟨x.toNat, r, by rw [Int.toNat_of_nonneg (by omega)], by omega, by omega, by simpa using a, b.2, fun y hy => ?_⟩
  have h1 := b.1 y hy
  have h2 := c y (by simp [hy])
  omega
section
variable (hs : List Span) (ps : List Pr) (cs : List Cn) (ss : List Sg)
noncomputable def canB (ns : List Nt) (l : List Int) : Bool := @decide (∃ t, Truth hs ps (KBut ns l) t) (Classical.propDecidable _)
theorem canB_iff {ns : List Nt} {l : List Int} : canB hs ps ns l = true ↔ ∃ t, Truth hs ps (KBut ns l) t := by unfold canB; exact @decide_eq_true_iff _ (Classical.propDecidable _)
theorem gaps_mask (N : Nat) (hN : 1000 ≤ N) (v : Valid hs ps cs ss) {w : Nat} {l : List Int} (hw : ∀ i, i < 20 → (w.testBit i = true ↔ (i : Int) ∈ l)) :
  ∃ m, f92 N hs ps cs ss (nts cs ss) w [] = some (m, canB hs ps (nts cs ss) l) ∧ (canB hs ps (nts cs ss) l = true → Tight hs.length m (Truth hs ps (KBut (nts cs ss) l))) := by
 have p8 := v.p8
 have c6 := v.c6
 have s4 := v.s4
 have hl := nts_len cs ss
 obtain ⟨m, ok, e1, e2, e3⟩ := gaps_spec N w hs ps cs ss (nts cs ss) [] hN v.n1 v.n5 v.h v.p (by omega) (nts_ok v) (by omega) (fun x hx => by cases hx) (Nat.zero_le _)
 rw [Truth.congr (K' := KBut (nts cs ss) l) fun x => by
  constructor
  ·rintro (⟨i, hi, hb, rfl⟩ | h)
   ·refine ⟨i, hi, fun hm => ?_, rfl⟩
    rw [bitOff_nat (by omega), (hw i (by omega)).2 hm] at hb
    cases hb
   ·cases h
  ·rintro ⟨i, hi, hb, rfl⟩
   refine .inl ⟨i, hi, ?_, rfl⟩
   rw [bitOff_nat (by omega)]
   have : ¬ w.testBit i = true := fun h => hb ((hw i (by omega)).1 h)
   simpa using this] at e2 e3
 have : ok = canB hs ps (nts cs ss) l := by
  rw [Bool.eq_iff_iff, e2, canB_iff]
 subst this
 exact ⟨m, e1, e3⟩
theorem y0_eq (N : Nat) (hN : 1000 ≤ N) (v : Valid hs ps cs ss) {w : Nat} {l : List Int} (hw : Msk w l) (hl : l.length < 100) (fl : Bool) (hf : fl = true ↔ l = []) :
  y0 N (fl, l) w 0 [] 0 hs ps cs ss (nts cs ss) = some (if canB hs ps (nts cs ss) l = true then (false, 1, l, if l = [] then 6 else 0, hs, ps, cs, ss, nts cs ss) else (true, 0, [], 0, hs, ps, cs, ss, nts cs ss)) := by
 obtain ⟨m, e1, _⟩ := gaps_mask hs ps cs ss N hN v hw.2
 unfold y0
 rw [if_pos (by decide), if_pos (by decide), e1, andThen_some]
 simp only
 cases hc : canB hs ps (nts cs ss) l with
 | false => rfl
 | true =>
  cases fl with
  | true =>
   have := hf.1 rfl
   subst this
   rfl
  | false =>
   have hne : l ≠ [] := fun h => by simpa using hf.2 h
   have hleaf : (f93 N (false, l)) = some (false, l) := by
    unfold f93
    simp only [Bool.false_eq_true, if_false, List.nil_append]
    rw [if_pos (by simp [boundLen]; omega)]
   simp only [Bool.not_true, Bool.false_eq_true, if_false, if_true, hleaf, andThen_some, if_neg hne]
theorem of_eq (N : Nat) (hN : 1000 ≤ N) (v : Valid hs ps cs ss) (n : Nat) (hn : n ≤ 10) :
  ∀ k M l fl w first, k ≤ 10 → k < M → l.length + k ≤ 10 → Msk w l → (fl = true ↔ l = []) → first ≤ n →
   (∃ s, Ext n first k s ∧ canB hs ps (nts cs ss) (l ++ s) = true ∧ (∀ s', Ext n first k s' → canB hs ps (nts cs ss) (l ++ s') = true → lexB s' s = false) ∧
    f113 N M (fl, l) (w : Int) (first : Int) (k : Int) (n : Int) 0 [] 0 hs ps cs ss (nts cs ss) = some (false, (n : Int), 1, l ++ s, if l ++ s = [] then 6 else 0, hs, ps, cs, ss, nts cs ss)) ∨
   ((∀ s, Ext n first k s → canB hs ps (nts cs ss) (l ++ s) = false) ∧
    f113 N M (fl, l) (w : Int) (first : Int) (k : Int) (n : Int) 0 [] 0 hs ps cs ss (nts cs ss) = some (true, (n : Int), 0, [], 0, hs, ps, cs, ss, nts cs ss)) := by
 intro k
 induction k with
 | zero =>
  intro M l fl w first _ hM hl hw hf hfn
  obtain ⟨M, rfl⟩ : ∃ M', M = M' + 1 := ⟨M - 1, by omega⟩
  have e : f113 N (M + 1) (fl, l) (w : Int) (first : Int) ((0 : Nat) : Int) (n : Int) 0 [] 0 hs ps cs ss (nts cs ss) = some (if canB hs ps (nts cs ss) l = true then (false, (n : Int), 1, l, if l = [] then 6 else 0, hs, ps, cs, ss, nts cs ss) else (true, (n : Int), 0, [], 0, hs, ps, cs, ss, nts cs ss)) := by
   show f113B N (f113 N M) (fl, l) (w : Int) (first : Int) ((0 : Nat) : Int) (n : Int) 0 [] 0 hs ps cs ss (nts cs ss) = _
   unfold f113B
   rw [if_pos (by simp)]
   simp only
   rw [y0_eq hs ps cs ss N hN v hw (by omega) fl hf, andThen_some]
   split <;> rfl
  rw [e]
  cases hc : canB hs ps (nts cs ss) l with
  | true =>
   left
   refine ⟨[], ext_zero.2 rfl, by rw [List.append_nil]; exact hc, fun s' hs' _ => ?_, by rw [List.append_nil]; rfl⟩
   rw [ext_zero.1 hs']; rfl
  | false =>
   right
   refine ⟨fun s hs' => ?_, rfl⟩
   rw [ext_zero.1 hs', List.append_nil]; exact hc
 | succ k ih =>
  intro M l fl w first hk hM hl hw hf hfn
  obtain ⟨M, rfl⟩ : ∃ M', M = M' + 1 := ⟨M - 1, by omega⟩
  obtain ⟨r, g1, g2⟩ := loop_run (fun q (i : Nat) => f113l0 N (f113 N M) q l (w : Int) ((k + 1 : Nat) : Int) (i : Int) (n : Int) 0 [] 0 hs ps cs ss (nts cs ss))
   (fun i => first ≤ i ∧ i ≤ n ∧ ∀ j, first ≤ j → j < i → ∀ s, Ext n (j + 1) k s → canB hs ps (nts cs ss) (l ++ (j : Int) :: s) = false) (fun i => n - i)
   (fun r => (∃ s, Ext n first (k + 1) s ∧ canB hs ps (nts cs ss) (l ++ s) = true ∧ (∀ s', Ext n first (k + 1) s' → canB hs ps (nts cs ss) (l ++ s') = true → lexB s' s = false) ∧ r = .inl (false, (n : Int), 1, l ++ s, if l ++ s = [] then 6 else 0, hs, ps, cs, ss, nts cs ss)) ∨
    ((∀ s, Ext n first (k + 1) s → canB hs ps (nts cs ss) (l ++ s) = false) ∧ r = .inr ((n : Int), 0, [], 0, hs, ps, cs, ss, nts cs ss))) (fun q i hi => by
    obtain ⟨i1, i2, i3⟩ := hi
    by_cases h : i < n
    ·have hb1 : Nat.ble (l.length + [(i : Int)].length) boundLen = true := by simp [boundLen]; omega
     have hst : f113l0B N (f113 N M) (f113l0 N (f113 N M) q) l (w : Int) ((k + 1 : Nat) : Int) (i : Int) (n : Int) 0 [] 0 hs ps cs ss (nts cs ss) =
       andThen (f113 N M (false, l ++ [(i : Int)]) ((w ||| 2 ^ i : Nat) : Int) ((i + 1 : Nat) : Int) (k : Int) (n : Int) 0 [] 0 hs ps cs ss (nts cs ss)) fun y3 => (if (!y3.1) = true then some (Sum.inl (false, y3.2.1, y3.2.2.1, y3.2.2.2.1, y3.2.2.2.2.1, y3.2.2.2.2.2.1, y3.2.2.2.2.2.2.1, y3.2.2.2.2.2.2.2.1, y3.2.2.2.2.2.2.2.2.1, y3.2.2.2.2.2.2.2.2.2)) else f113l0 N (f113 N M) q l (w : Int) ((k + 1 : Nat) : Int) ((i + 1 : Nat) : Int) y3.2.1 y3.2.2.1 y3.2.2.2.1 y3.2.2.2.2.1 y3.2.2.2.2.2.1 y3.2.2.2.2.2.2.1 y3.2.2.2.2.2.2.2.1 y3.2.2.2.2.2.2.2.2.1 y3.2.2.2.2.2.2.2.2.2) := by
      unfold f113l0B
      rw [wrap_or hw.1 (show i < 20 by omega), w64_id (z := ((k + 1 : Nat) : Int) - 1) (by omega) (by omega)]
      simp only [show ((i : Int) < (n : Int)) by omega, f108_eq, andThen_some, hb1, Int.natCast_nonneg, decide_true, if_true, w_succ (show i < 4611686018427387904 by omega)]
      rw [show ((k + 1 : Nat) : Int) - 1 = (k : Int) by omega]
     rcases ih M (l ++ [(i : Int)]) false (w ||| 2 ^ i) (i + 1) (by omega) (by omega) (by simp; omega) (msk_snoc hw (by omega)) (by simp) (by omega) with ⟨s, a1, a2, a3, a4⟩ | ⟨a1, a2⟩
     ·left
      refine ⟨.inl (false, (n : Int), 1, l ++ (i : Int) :: s, if l ++ (i : Int) :: s = [] then 6 else 0, hs, ps, cs, ss, nts cs ss), ?_, .inl ⟨(i : Int) :: s, ext_cons a1 i1 h, by rw [← a2, List.append_assoc]; rfl, fun s' hs' hc => ?_, rfl⟩⟩
      ·show f113l0B N (f113 N M) (f113l0 N (f113 N M) q) l (w : Int) ((k + 1 : Nat) : Int) (i : Int) (n : Int) 0 [] 0 hs ps cs ss (nts cs ss) = _
       rw [hst, a4, andThen_some, List.append_assoc]
       rfl
      ·obtain ⟨j, r, rfl, h1, h2, h3⟩ := ext_split hs'
       unfold lexB
       by_cases e : j = i
       ·subst e
        rw [if_pos rfl]
        refine a3 r h3 ?_
        rw [← hc, List.append_assoc]; rfl
       ·rw [if_neg (by omega)]
        have : ¬ j < i := fun hlt => by
         have := i3 j h1 hlt r h3
         rw [hc] at this; cases this
        exact decide_eq_false (by omega)
     ·right
      refine ⟨i + 1, ⟨by omega, h, fun j hj1 hj2 s hs' => ?_⟩, by omega, ?_⟩
      ·rcases Nat.lt_or_ge j i with h' | h'
       ·exact i3 j hj1 h' s hs'
       ·have : j = i := by omega
        subst this
        have := a1 s hs'
        rwa [List.append_assoc] at this
      ·show f113l0B N (f113 N M) (f113l0 N (f113 N M) q) l (w : Int) ((k + 1 : Nat) : Int) (i : Int) (n : Int) 0 [] 0 hs ps cs ss (nts cs ss) = _
       rw [hst, a2, andThen_some]
       rfl
    ·left
     have : i = n := by omega
     subst this
     refine ⟨.inr ((i : Int), 0, [], 0, hs, ps, cs, ss, nts cs ss), ?_, .inr ⟨fun s hs' => ?_, rfl⟩⟩
     ·show f113l0B N (f113 N M) (f113l0 N (f113 N M) q) l (w : Int) ((k + 1 : Nat) : Int) (i : Int) (i : Int) 0 [] 0 hs ps cs ss (nts cs ss) = _
      unfold f113l0B
      rw [if_neg (by simp)]
     ·obtain ⟨j, r, rfl, h1, h2, h3⟩ := ext_split hs'
      exact i3 j h1 h2 r h3) N first ⟨Nat.le_refl _, hfn, fun j hj1 hj2 => by omega⟩ (by omega)
  have e : f113 N (M + 1) (fl, l) (w : Int) (first : Int) ((k + 1 : Nat) : Int) (n : Int) 0 [] 0 hs ps cs ss (nts cs ss) = f113B N (f113 N M) (fl, l) (w : Int) (first : Int) ((k + 1 : Nat) : Int) (n : Int) 0 [] 0 hs ps cs ss (nts cs ss) := rfl
  rw [e]
  unfold f113B
  rw [if_neg (by simp; omega)]
  simp only
  rw [g1]
  rcases g2 with ⟨s, b1, b2, b3, rfl⟩ | ⟨b1, rfl⟩
  ·exact .inl ⟨s, b1, b2, b3, rfl⟩
  ·exact .inr ⟨b1, rfl⟩
theorem f112_eq (N : Nat) (hN : 1000 ≤ N) (v : Valid hs ps cs ss) (n : Nat) (hn : n ≤ 10) :
  (∃ s, Ext n 0 s.length s ∧ canB hs ps (nts cs ss) s = true ∧ (∀ s', Ext n 0 s'.length s' → canB hs ps (nts cs ss) s' = true → lss s' s = false) ∧
   f112 N 0 (n : Int) [] 0 hs ps cs ss (nts cs ss) = some (1, (n : Int), s, (if s = [] then 6 else 0), hs, ps, cs, ss, nts cs ss)) ∨
  ((∀ s, Ext n 0 s.length s → canB hs ps (nts cs ss) s = false) ∧ f112 N 0 (n : Int) [] 0 hs ps cs ss (nts cs ss) = some (0, (n : Int), [], 0, hs, ps, cs, ss, nts cs ss)) := by
 have hlen : ∀ s : List Int, Ext n 0 s.length s → s.length ≤ n := fun s => by
  have key : ∀ (k : Nat) (s : List Int) (first : Nat), Ext n first k s → first ≤ n → k + first ≤ n := fun k => by
   induction k with
   | zero => intro s first h hf; omega
   | succ k ih =>
    intro s first h hf
    obtain ⟨i, r, rfl, h1, h2, h3⟩ := ext_split h
    have := ih r (i + 1) h3 (by omega)
    omega
  intro h
  have := key _ s 0 h (Nat.zero_le _)
  omega
 obtain ⟨r, g1, g2⟩ := loop_run (fun q (i : Nat) => f112l0 N q ((n + 1 : Nat) : Int) (i : Int) 0 (n : Int) [] 0 hs ps cs ss (nts cs ss))
  (fun i => i ≤ n + 1 ∧ ∀ s, s.length < i → Ext n 0 s.length s → canB hs ps (nts cs ss) s = false) (fun i => n + 1 - i)
  (fun r => (∃ s, Ext n 0 s.length s ∧ canB hs ps (nts cs ss) s = true ∧ (∀ s', Ext n 0 s'.length s' → canB hs ps (nts cs ss) s' = true → lss s' s = false) ∧ r = .inl (1, (n : Int), s, if s = [] then 6 else 0, hs, ps, cs, ss, nts cs ss)) ∨
   ((∀ s, Ext n 0 s.length s → canB hs ps (nts cs ss) s = false) ∧ r = .inr (0, (n : Int), [], 0, hs, ps, cs, ss, nts cs ss))) (fun q i hi => by
   obtain ⟨i1, i2⟩ := hi
   by_cases h : i < n + 1
   ·have hst : f112l0B N (f112l0 N q) ((n + 1 : Nat) : Int) (i : Int) 0 (n : Int) [] 0 hs ps cs ss (nts cs ss) = andThen (f113 N N (true, []) 0 0 (i : Int) (n : Int) 0 [] 0 hs ps cs ss (nts cs ss)) fun y1 => (if (!y1.1) = true then some (Sum.inl (y1.2.2.1, y1.2.1, y1.2.2.2.1, y1.2.2.2.2.1, y1.2.2.2.2.2.1, y1.2.2.2.2.2.2.1, y1.2.2.2.2.2.2.2.1, y1.2.2.2.2.2.2.2.2.1, y1.2.2.2.2.2.2.2.2.2)) else f112l0 N q ((n + 1 : Nat) : Int) ((i + 1 : Nat) : Int) y1.2.2.1 y1.2.1 y1.2.2.2.1 y1.2.2.2.2.1 y1.2.2.2.2.2.1 y1.2.2.2.2.2.2.1 y1.2.2.2.2.2.2.2.1 y1.2.2.2.2.2.2.2.2.1 y1.2.2.2.2.2.2.2.2.2) := by
     unfold f112l0B
     simp only [show ((i : Int) < ((n + 1 : Nat) : Int)) by omega, decide_true, if_true, w_succ (show i < 4611686018427387904 by omega)]
    rcases of_eq hs ps cs ss N hN v n hn i N [] true 0 0 (by omega) (by omega) (by simp; omega) msk_nil (by simp) (Nat.zero_le _) with ⟨s, a1, a2, a3, a4⟩ | ⟨a1, a2⟩
    ·left
     rw [List.nil_append] at a2 a4
     have hsl := a1.1
     refine ⟨_, ?_, .inl ⟨s, by rw [hsl]; exact a1, a2, fun s' hs' hc => ?_, rfl⟩⟩
     ·show f112l0B N (f112l0 N q) ((n + 1 : Nat) : Int) (i : Int) 0 (n : Int) [] 0 hs ps cs ss (nts cs ss) = _
      have a4' : f113 N N (true, []) 0 0 (i : Int) (n : Int) 0 [] 0 hs ps cs ss (nts cs ss) = some (false, (n : Int), 1, s, if s = [] then 6 else 0, hs, ps, cs, ss, nts cs ss) := a4
      rw [hst, a4', andThen_some]
      rfl
     ·unfold lss
      by_cases e : s'.length = s.length
      ·rw [if_pos e]
       exact a3 s' (by rw [← hsl, ← e]; exact hs') hc
      ·rw [if_neg e]
       refine decide_eq_false fun hlt => ?_
       have := i2 s' (by omega) hs'
       rw [hc] at this; cases this
    ·right
     refine ⟨i + 1, ⟨h, fun s hl' hs' => ?_⟩, by omega, ?_⟩
     ·rcases Nat.lt_or_ge s.length i with h' | h'
      ·exact i2 s h' hs'
      ·have hsl : s.length = i := by omega
       rw [hsl] at hs'
       exact a1 s hs'
     ·show f112l0B N (f112l0 N q) ((n + 1 : Nat) : Int) (i : Int) 0 (n : Int) [] 0 hs ps cs ss (nts cs ss) = _
      have a2' : f113 N N (true, []) 0 0 (i : Int) (n : Int) 0 [] 0 hs ps cs ss (nts cs ss) = some (true, (n : Int), 0, [], 0, hs, ps, cs, ss, nts cs ss) := a2
      rw [hst, a2', andThen_some]
      rfl
   ·left
    have : i = n + 1 := by omega
    subst this
    refine ⟨_, ?_, .inr ⟨fun s hs' => i2 s (by have := hlen s hs'; omega) hs', rfl⟩⟩
    show f112l0B N (f112l0 N q) ((n + 1 : Nat) : Int) ((n + 1 : Nat) : Int) 0 (n : Int) [] 0 hs ps cs ss (nts cs ss) = _
    unfold f112l0B
    rw [if_neg (by simp)]) N 0 ⟨Nat.zero_le _, fun s h => by omega⟩ (by omega)
 have g1 : f112l0 N N ((n + 1 : Nat) : Int) 0 0 (n : Int) [] 0 hs ps cs ss (nts cs ss) = some r := g1
 unfold f112
 rw [w_succ (show n < 4611686018427387904 by omega), g1, andThen_some]
 rcases g2 with ⟨s, b1, b2, b3, rfl⟩ | ⟨b1, rfl⟩
 ·exact .inl ⟨s, b1, b2, b3, rfl⟩
 ·exact .inr ⟨b1, rfl⟩
theorem f38_bad (N : Nat) (hN : 100 ≤ N) (h1 : hs.length < 100) (h2 : ps.length < 100) (h3 : cs.length < 100) (h4 : ss.length < 100) (hc : chk hs ps cs ss ≠ 0) : f38 N hs ps cs ss = some ([], chk hs ps cs ss) := by
 unfold f38
 rw [f18_eq N hs ps cs ss hN h1 h2 h3 h4, andThen_some, if_pos (by simpa using hc)]
theorem f38_eq (N : Nat) (hN : 1000 ≤ N) (v : Valid hs ps cs ss) :
  (∃ s, Ext (nts cs ss).length 0 s.length s ∧ canB hs ps (nts cs ss) s = true ∧ (∀ s', Ext (nts cs ss).length 0 s'.length s' → canB hs ps (nts cs ss) s' = true → lss s' s = false) ∧
   f38 N hs ps cs ss = some (s, if s = [] then 6 else 0)) ∨
  ((∀ s, Ext (nts cs ss).length 0 s.length s → canB hs ps (nts cs ss) s = false) ∧ f38 N hs ps cs ss = some ([], 9)) := by
 have n5 := v.n5
 have p8 := v.p8
 have c6 := v.c6
 have s4 := v.s4
 have hl := nts_len cs ss
 unfold f38
 rw [f18_eq N hs ps cs ss (by omega) (by omega) (by omega) (by omega) (by omega), andThen_some, chk_valid.2 v, if_neg (by decide), f90_eq N hs ps cs ss (by omega) (by omega) (by omega), andThen_some]
 unfold f91
 simp only [andThen_some]
 rcases f112_eq hs ps cs ss N hN v (nts cs ss).length (by omega) with ⟨s, a1, a2, a3, a4⟩ | ⟨a1, a2⟩
 ·exact .inl ⟨s, a1, a2, a3, by rw [a4, andThen_some]; rfl⟩
 ·exact .inr ⟨a1, by rw [a2, andThen_some]; rfl⟩
end
end Go.Pl


namespace Go.Pl
open Go.Al Go.Proofs
theorem wu64_id {z : Int} (h1 : 0 ≤ z) (h2 : z < 9000000000000000000) : Go.IntKind.wrap .u64 z = z := by
 show Int.emod z 18446744073709551616 = z
 exact Int.emod_eq_of_lt h1 (by omega)
theorem filt_cut (P : Nat → Bool) {i n : Nat} (hi : i ≤ n) (h : ∀ j, i ≤ j → j < n → P j = false) : filt P n = filt P i := by
 induction n with
 | zero => rw [show i = 0 by omega]
 | succ n ih =>
  by_cases e : i = n + 1
  ·rw [e]
  ·rw [filt_succ, if_neg (by rw [h n (by omega) (by omega)]; decide)]
   exact ih (by omega) fun j h1 h2 => h j h1 (by omega)
def bits (w : Nat) : List Int := filt (fun i => w.testBit i) 20
theorem bits_mem {w i : Nat} (hw : w < 2 ^ 20) : (i : Int) ∈ bits w ↔ w.testBit i = true := by
 unfold bits filt
 rw [List.mem_map]
 constructor
 ·rintro ⟨j, hj, e⟩
  rw [List.mem_filter] at hj
  have : j = i := by omega
  subst this; exact hj.2
 ·intro h
  refine ⟨i, ?_, rfl⟩
  rw [List.mem_filter, List.mem_range]
  refine ⟨?_, h⟩
  rcases Nat.lt_or_ge i 20 with h' | h'
  ·exact h'
  ·rw [Nat.testBit_lt_two_pow (Nat.lt_of_lt_of_le hw (Nat.pow_le_pow_right (by decide) h'))] at h; cases h
theorem filt_sorted (P : Nat → Bool) (n : Nat) : (filt P n).Pairwise (· < ·) := by
 unfold filt
 rw [List.pairwise_map]
 exact (List.pairwise_lt_range.filter P).imp fun h => by omega
theorem sorted_ext : ∀ (a b : List Int), a.Pairwise (· < ·) → b.Pairwise (· < ·) → (∀ x, x ∈ a ↔ x ∈ b) → a = b := by
 intro a
 induction a with
 | nil => intro b _ _ h; cases b with
  | nil => rfl
  | cons y b => exact absurd ((h y).2 (by simp)) (by simp)
 | cons x a ih =>
  intro b ha hb h
  cases b with
  | nil => exact absurd ((h x).1 (by simp)) (by simp)
  | cons y b =>
   rw [List.pairwise_cons] at ha hb
   have e : x = y := by
    rcases List.mem_cons.1 ((h x).1 (by simp)) with e | e
    ·exact e
    ·rcases List.mem_cons.1 ((h y).2 (by simp)) with e' | e'
     ·exact e'.symm
     ·have := ha.1 y e'
      have := hb.1 x e
      omega
   subst e
   rw [ih b ha.2 hb.2 fun z => ⟨fun hz => ?_, fun hz => ?_⟩]
   ·rcases List.mem_cons.1 ((h z).1 (by simp [hz])) with e | e
    ·subst e; have := ha.1 z hz; omega
    ·exact e
   ·rcases List.mem_cons.1 ((h z).2 (by simp [hz])) with e | e
    ·subst e; have := hb.1 z hz; omega
    ·exact e
theorem bits_ext {w n : Nat} (hn : n ≤ 20) (hw : w < 2 ^ n) : Ext n 0 (bits w).length (bits w) := by
 have hw' : w < 2 ^ 20 := Nat.lt_of_lt_of_le hw (Nat.pow_le_pow_right (by decide) hn)
 refine ⟨rfl, filt_sorted _ _, fun x hx => ?_⟩
 have h0 := filt_pos _ _ x hx
 obtain ⟨i, rfl⟩ : ∃ i : Nat, x = (i : Int) := ⟨x.toNat, by omega⟩
 have := (bits_mem hw').1 hx
 refine ⟨by omega, ?_⟩
 rcases Nat.lt_or_ge i n with h' | h'
 ·omega
 ·rw [Nat.testBit_lt_two_pow (Nat.lt_of_lt_of_le hw (Nat.pow_le_pow_right (by decide) h'))] at this; cases this
theorem ext_bits {n : Nat} {s : List Int} (hn : n ≤ 20) (h : Ext n 0 s.length s) : ∃ w, w < 2 ^ n ∧ bits w = s := by
 obtain ⟨_, h1, h2⟩ := h
 have key : ∀ k, k ≤ s.length → ∃ w, Msk w (s.take k) := fun k => by
  induction k with
  | zero => intro _; exact ⟨0, msk_nil⟩
  | succ k ih =>
   intro hk
   obtain ⟨w, hw⟩ := ih (by omega)
   rw [take_get s 0 (by omega)]
   have := h2 _ (getD_mem (d := 0) (show k < s.length by omega))
   obtain ⟨i, hi⟩ : ∃ i : Nat, s.getD k 0 = (i : Int) := ⟨(s.getD k 0).toNat, by omega⟩
   rw [hi] at this ⊢
   exact ⟨_, msk_snoc hw (by omega)⟩
 obtain ⟨w, hw⟩ := key s.length (Nat.le_refl _)
 rw [List.take_length] at hw
 refine ⟨w, Nat.lt_pow_two_of_testBit w fun i hi => ?_, ?_⟩
 ·rcases Nat.lt_or_ge i 20 with h' | h'
  ·have := hw.2 i h'
   cases hb : w.testBit i with
   | false => rfl
   | true =>
    have := h2 _ (this.1 hb)
    omega
  ·exact Nat.testBit_lt_two_pow (Nat.lt_of_lt_of_le hw.1 (Nat.pow_le_pow_right (by decide) h'))
 ·refine sorted_ext _ _ (filt_sorted _ _) h1 fun x => ?_
  constructor
  ·intro hx
   have h0 := filt_pos _ _ x hx
   obtain ⟨i, rfl⟩ : ∃ i : Nat, x = (i : Int) := ⟨x.toNat, by omega⟩
   have := (bits_mem hw.1).1 hx
   have hi : i < 20 := by
    rcases Nat.lt_or_ge i 20 with h' | h'
    ·exact h'
    ·rw [Nat.testBit_lt_two_pow (Nat.lt_of_lt_of_le hw.1 (Nat.pow_le_pow_right (by decide) h'))] at this; cases this
   exact (hw.2 i hi).1 this
  ·intro hx
   have := h2 x hx
   obtain ⟨i, rfl⟩ : ∃ i : Nat, x = (i : Int) := ⟨x.toNat, by omega⟩
   exact (bits_mem hw.1).2 ((hw.2 i (by omega)).2 hx)
theorem bitAt_nat {w i : Nat} (hi : i ≤ 20) : (Go.IntKind.wrap .i64 (((((BitVec.ofInt (Go.IntKind.bits .i64) ((w / 2 ^ i : Nat) : Int)) &&& (BitVec.ofInt (Go.IntKind.bits .i64) (1 : Int)))).toNat : Nat) : Int) == (1 : Int)) = w.testBit i := by
 have e2 : (BitVec.ofInt (Go.IntKind.bits .i64) ((w / 2 ^ i : Nat) : Int) &&& BitVec.ofInt (Go.IntKind.bits .i64) 1).toNat = w / 2 ^ i % 2 := by
  rw [BitVec.ofInt_natCast, BitVec.toNat_and, BitVec.toNat_ofNat]
  show w / 2 ^ i % 2 ^ 64 &&& 1 = _
  rw [Nat.and_one_is_mod, Nat.mod_mod_of_dvd _ (by decide)]
 rw [e2, w64_id (by omega) (by have := Nat.mod_lt (w / 2 ^ i) (show 0 < 2 by decide); omega), Nat.testBit_eq_decide_div_mod_eq]
 have := Nat.mod_lt (w / 2 ^ i) (show 0 < 2 by decide)
 rcases (show w / 2 ^ i % 2 = 0 ∨ w / 2 ^ i % 2 = 1 by omega) with h | h <;> rw [h] <;> rfl
theorem f94_eq (N : Nat) (w : Nat) (hN : 100 ≤ N) (hw : w < 2 ^ 20) : f94 N (w : Int) = some (bits w) := by
 obtain ⟨r, h1, h2⟩ := loop_run (fun q (i : Nat) => f94l0 N q (w : Int) (filt (fun i => w.testBit i) i) (i : Int)) (fun i => i ≤ 20) (fun i => 20 - i) (fun r => r = bits w) (fun q i hi => by
  have e1 : (2 : Int) ^ (min i (Go.IntKind.bits .i64)) = ((2 ^ i : Nat) : Int) := by
   rw [Nat.min_eq_left (show i ≤ Go.IntKind.bits .i64 by show i ≤ 64; omega), Int.natCast_pow]; rfl
  have hle := filt_len (fun i => w.testBit i) i
  have hb : Nat.ble ((filt (fun i => w.testBit i) i).length + [(i : Int)].length) boundLen = true := by simp [boundLen]; omega
  have hst : f94l0B N (f94l0 N q) (w : Int) (filt (fun i => w.testBit i) i) (i : Int) = if w / 2 ^ i > 0 then f94l0 N q (w : Int) (filt (fun i => w.testBit i) (i + 1)) ((i + 1 : Nat) : Int) else some (filt (fun i => w.testBit i) i) := by
   unfold f94l0B
   rw [wu64_id (z := (i : Int)) (by omega) (by omega)]
   simp only [Int.natCast_nonneg, decide_true, if_true, Int.toNat_natCast, e1, ← Int.ofNat_fdiv, bitAt_nat hi, hb, w_succ (show i < 4611686018427387904 by omega)]
   by_cases c : w / 2 ^ i > 0
   ·rw [if_pos (decide_eq_true (by omega)), if_pos c, filt_succ]
    cases w.testBit i <;> rfl
   ·rw [if_neg (by rw [decide_eq_false (by omega)]; decide), if_neg c]
  by_cases c : w / 2 ^ i > 0
  ·right
   have : i < 20 := by
    rcases Nat.lt_or_ge i 20 with h' | h'
    ·exact h'
    ·rw [Nat.div_eq_of_lt (Nat.lt_of_lt_of_le hw (Nat.pow_le_pow_right (by decide) h'))] at c; omega
   refine ⟨i + 1, this, by omega, ?_⟩
   show f94l0B N (f94l0 N q) (w : Int) (filt (fun i => w.testBit i) i) (i : Int) = _
   rw [hst, if_pos c]
  ·left
   refine ⟨filt (fun i => w.testBit i) i, ?_, ?_⟩
   ·show f94l0B N (f94l0 N q) (w : Int) (filt (fun i => w.testBit i) i) (i : Int) = _
    rw [hst, if_neg c]
   ·unfold bits
    refine (filt_cut _ hi fun j h1 h2 => ?_).symm
    have hlt : w < 2 ^ i := by
     rcases Nat.lt_or_ge w (2 ^ i) with h | h
     ·exact h
     ·exact absurd (Nat.div_pos h (Nat.two_pow_pos i)) c
    exact Nat.testBit_lt_two_pow (Nat.lt_of_lt_of_le hlt (Nat.pow_le_pow_right (by decide) h1))) N 0 (Nat.zero_le _) (by omega)
 rw [h2] at h1
 unfold f94
 have h1 : f94l0 N N (w : Int) [] 0 = some (bits w) := h1
 rw [h1]; rfl
theorem f95_eq (N : Nat) (a b : List Int) (hN : 1000 ≤ N) (ha : a.length < 1000) : f95 N a b = some (lss a b) := by
 unfold f95 lss
 by_cases hl : a.length = b.length
 case neg =>
  rw [if_pos (by simp; omega), if_neg hl]
  congr 1
  rw [decide_eq_decide]; omega
 rw [if_neg (by simp; omega), if_pos hl]
 obtain ⟨r, h1, h2⟩ := loop_run (fun q (i : Nat) => f95l0 N q a b (i : Int)) (fun i => i ≤ a.length ∧ lexB (a.drop i) (b.drop i) = lexB a b) (fun i => a.length - i) (fun r => r = .inl (lexB a b) ∨ (r = .inr () ∧ lexB a b = false)) (fun q i hi => by
  obtain ⟨i1, i2⟩ := hi
  by_cases h : i < a.length
  ·have hb : i < b.length := by omega
   have ea : a.drop i = a.getD i 0 :: a.drop (i + 1) := by rw [List.drop_eq_getElem_cons h, List.getD_eq_getElem?_getD, List.getElem?_eq_getElem h]; rfl
   have eb : b.drop i = b.getD i 0 :: b.drop (i + 1) := by rw [List.drop_eq_getElem_cons hb, List.getD_eq_getElem?_getD, List.getElem?_eq_getElem hb]; rfl
   rw [ea, eb] at i2
   have hst : f95l0B N (f95l0 N q) a b (i : Int) = if a.getD i 0 = b.getD i 0 then f95l0 N q a b ((i + 1 : Nat) : Int) else some (.inl (decide (a.getD i 0 < b.getD i 0))) := by
    unfold f95l0B
    simp only [show ((i : Int) < (a.length : Int)) by omega, show ((i : Int) < (b.length : Int)) by omega, Int.natCast_nonneg, decide_true, Bool.and_true, if_true, Int.toNat_natCast, w_succ (show i < 4611686018427387904 by omega)]
    by_cases c : a.getD i 0 = b.getD i 0
    ·rw [if_neg (by rw [c]; simp), if_pos c]
    ·rw [if_pos (by simp only [bne_iff_ne, ne_eq]; exact c), if_neg c]
   unfold lexB at i2
   by_cases c : a.getD i 0 = b.getD i 0
   ·right
    rw [if_pos c] at i2
    refine ⟨i + 1, ⟨h, ?_⟩, by omega, ?_⟩
    ·rw [i2]; exact (by cases a <;> cases b <;> rfl)
    ·show f95l0B N (f95l0 N q) a b (i : Int) = _
     rw [hst, if_pos c]
   ·left
    rw [if_neg c] at i2
    refine ⟨.inl (lexB a b), ?_, .inl rfl⟩
    show f95l0B N (f95l0 N q) a b (i : Int) = _
    rw [hst, if_neg c, i2]
    cases a <;> cases b <;> rfl
  ·left
   have : i = a.length := by omega
   subst this
   refine ⟨.inr (), ?_, .inr ⟨rfl, ?_⟩⟩
   ·show f95l0B N (f95l0 N q) a b (a.length : Int) = _
    unfold f95l0B
    rw [if_neg (by simp)]
   ·rw [← i2, List.drop_length]; cases List.drop a.length b <;> rfl) N 0 ⟨Nat.zero_le _, by rw [List.drop_zero, List.drop_zero]⟩ (by omega)
 have h1 : f95l0 N N a b 0 = some r := h1
 rw [h1, andThen_some]
 rcases h2 with rfl | ⟨rfl, h2⟩
 ·rfl
 ·rw [h2]; rfl
theorem lexB_irr : ∀ a : List Int, lexB a a = false := by
 intro a
 induction a with
 | nil => rfl
 | cons x a ih => unfold lexB; rw [if_pos rfl]; exact ih
theorem lss_irr (a : List Int) : lss a a = false := by unfold lss; rw [if_pos rfl]; exact lexB_irr a
section
variable (hs : List Span) (ps : List Pr) (cs : List Cn) (ss : List Sg)
theorem f41_can (N : Nat) (but : List Int) (hN : 50000 ≤ N) (v : Valid hs ps cs ss) (hbl : but.length < 100) :
  ∃ o, f41 N hs ps cs ss but = some (o, canB hs ps (nts cs ss) but) ∧ o.length = hs.length ∧ (canB hs ps (nts cs ss) but = true → Exact ps o (Truth hs ps (KBut (nts cs ss) but))) := by
 obtain ⟨o, ok, e1, e2, e3, e4⟩ := f41_eq N hs ps cs ss but hN v hbl
 have : ok = canB hs ps (nts cs ss) but := by rw [Bool.eq_iff_iff, e3, canB_iff]
 subst this
 exact ⟨o, e1, e2, e4⟩
theorem f40_eq (N : Nat) (hN : 50000 ≤ N) (v : Valid hs ps cs ss) :
  (∃ s, Ext (nts cs ss).length 0 s.length s ∧ canB hs ps (nts cs ss) s = true ∧ (∀ s', Ext (nts cs ss).length 0 s'.length s' → canB hs ps (nts cs ss) s' = true → lss s' s = false) ∧
   f40 N hs ps cs ss = some (s, true)) ∨
  ((∀ s, Ext (nts cs ss).length 0 s.length s → canB hs ps (nts cs ss) s = false) ∧ f40 N hs ps cs ss = some ([], false)) := by
 have n5 := v.n5
 have p8 := v.p8
 have c6 := v.c6
 have s4 := v.s4
 have hl := nts_len cs ss
 generalize hn : (nts cs ss).length = n at *
 have hn10 : n ≤ 10 := by omega
 have h1024 : 2 ^ n ≤ 1024 := Nat.le_trans (Nat.pow_le_pow_right (by decide) hn10) (by decide)
 have hlen : ∀ w, (bits w).length ≤ 20 := fun w => filt_len _ _
 obtain ⟨r, g1, g2⟩ := loop_run (fun q (s : Nat × Bool × List Int) => f40l0 N q s.2.2 s.2.1 (s.1 : Int) hs ps cs ss)
  (fun s => s.1 ≤ 2 ^ n ∧ ((s.2.1 = false ∧ s.2.2 = [] ∧ ∀ u, u < s.1 → canB hs ps (nts cs ss) (bits u) = false) ∨ (s.2.1 = true ∧ (∃ u, u < s.1 ∧ s.2.2 = bits u) ∧ canB hs ps (nts cs ss) s.2.2 = true ∧ ∀ u, u < s.1 → canB hs ps (nts cs ss) (bits u) = true → lss (bits u) s.2.2 = false)))
  (fun s => 2 ^ n - s.1)
  (fun r => (r = ([], false) ∧ ∀ u, u < 2 ^ n → canB hs ps (nts cs ss) (bits u) = false) ∨ (∃ u, u < 2 ^ n ∧ r = (bits u, true) ∧ canB hs ps (nts cs ss) (bits u) = true ∧ ∀ u', u' < 2 ^ n → canB hs ps (nts cs ss) (bits u') = true → lss (bits u') (bits u) = false)) (by
   rintro q ⟨u, fd, b⟩ ⟨i1, i2⟩
   simp only at i1 i2 ⊢
   have hpw : Go.IntKind.wrap .i64 (1 * (2 ^ (min (Int.toNat (Go.IntKind.wrap .u64 (Go.IntKind.wrap .i64 ((cs.length : Int) + (ss.length : Int))))) (Go.IntKind.bits .i64)))) = ((2 ^ n : Nat) : Int) := by
    rw [w64_id (z := (cs.length : Int) + (ss.length : Int)) (by omega) (by omega), wu64_id (by omega) (by omega), show ((cs.length : Int) + (ss.length : Int)).toNat = n by omega, wrap_pow (by omega)]
   have h0 : decide (0 ≤ Go.IntKind.wrap .u64 (Go.IntKind.wrap .i64 ((cs.length : Int) + (ss.length : Int)))) = true := by
    rw [w64_id (z := (cs.length : Int) + (ss.length : Int)) (by omega) (by omega), wu64_id (by omega) (by omega)]
    exact decide_eq_true (by omega)
   by_cases hu : u < 2 ^ n
   ·right
    have hu20 : u < 2 ^ 20 := by omega
    obtain ⟨o, e1, _, _⟩ := f41_can hs ps cs ss N (bits u) hN v (by have := hlen u; omega)
    have hst : f40l0B N (f40l0 N q) b fd (u : Int) hs ps cs ss = if fd = true ∧ lss (bits u) b = false then f40l0 N q b fd ((u + 1 : Nat) : Int) hs ps cs ss else if canB hs ps (nts cs ss) (bits u) = true then f40l0 N q (bits u) true ((u + 1 : Nat) : Int) hs ps cs ss else f40l0 N q b fd ((u + 1 : Nat) : Int) hs ps cs ss := by
     unfold f40l0B
     rw [hpw]
     simp only [h0, show ((u : Int) < ((2 ^ n : Nat) : Int)) by omega, decide_true, if_true, f94_eq N u (show 100 ≤ N by omega) hu20, andThen_some, f95_eq N (bits u) b (show 1000 ≤ N by omega) (show (bits u).length < 1000 by have := hlen u; omega), e1, w_succ (show u < 4611686018427387904 by omega)]
     cases fd <;> cases lss (bits u) b <;> simp
    by_cases hc : fd = true ∧ lss (bits u) b = false
    ·rcases i2 with ⟨rfl, _⟩ | ⟨_, a1, a2, a3⟩
     ·cases hc.1
     refine ⟨(u + 1, fd, b), ⟨hu, .inr ⟨hc.1, ?_, a2, fun w h1 h2 => ?_⟩⟩, by simp only; omega, ?_⟩
     ·obtain ⟨w, h1, h2⟩ := a1
      exact ⟨w, by omega, h2⟩
     ·rcases Nat.lt_or_ge w u with h' | h'
      ·exact a3 w h' h2
      ·have : w = u := by omega
       subst this; exact hc.2
     ·show f40l0B N (f40l0 N q) b fd (u : Int) hs ps cs ss = _
      rw [hst, if_pos hc]
    ·by_cases hk : canB hs ps (nts cs ss) (bits u) = true
     ·refine ⟨(u + 1, true, bits u), ⟨hu, .inr ⟨rfl, ⟨u, by omega, rfl⟩, hk, fun w h1 h2 => ?_⟩⟩, by simp only; omega, ?_⟩
      ·rcases Nat.lt_or_ge w u with h' | h'
       ·rcases i2 with ⟨_, _, a1⟩ | ⟨h3, _, a2, a3⟩
        ·rw [a1 w h'] at h2; cases h2
        ·have hlt : lss (bits u) b = true := by
          cases h4 : lss (bits u) b with
          | true => rfl
          | false => exact absurd ⟨h3, h4⟩ hc
         cases h5 : lss (bits w) (bits u) with
         | false => rfl
         | true =>
          have := a3 w h' h2
          rw [lss_trans h5 hlt] at this; cases this
       ·have : w = u := by omega
        subst this; exact lss_irr _
      ·show f40l0B N (f40l0 N q) b fd (u : Int) hs ps cs ss = _
       rw [hst, if_neg hc, if_pos hk]
     ·have hk' : canB hs ps (nts cs ss) (bits u) = false := by simpa using hk
      refine ⟨(u + 1, fd, b), ⟨hu, ?_⟩, by simp only; omega, ?_⟩
      ·rcases i2 with ⟨h3, h4, a1⟩ | ⟨h3, a1, a2, a3⟩
       ·refine .inl ⟨h3, h4, fun w h1 => ?_⟩
        rcases Nat.lt_or_ge w u with h' | h'
        ·exact a1 w h'
        ·have : w = u := by omega
         subst this; exact hk'
       ·refine .inr ⟨h3, ?_, a2, fun w h1 h2 => ?_⟩
        ·obtain ⟨w, h1, h2⟩ := a1
         exact ⟨w, by omega, h2⟩
        ·rcases Nat.lt_or_ge w u with h' | h'
         ·exact a3 w h' h2
         ·have : w = u := by omega
          subst this; rw [hk'] at h2; cases h2
      ·show f40l0B N (f40l0 N q) b fd (u : Int) hs ps cs ss = _
       rw [hst, if_neg hc, if_neg hk]
   ·left
    have : u = 2 ^ n := by omega
    refine ⟨(b, fd), ?_, ?_⟩
    ·show f40l0B N (f40l0 N q) b fd (u : Int) hs ps cs ss = _
     unfold f40l0B
     rw [hpw]
     simp only [h0, if_true]
     rw [if_neg (by rw [this]; simp)]
    ·rw [this] at i2
     rcases i2 with ⟨rfl, rfl, a1⟩ | ⟨rfl, ⟨w, h1, rfl⟩, a2, a3⟩
     ·exact .inl ⟨rfl, a1⟩
     ·exact .inr ⟨w, h1, rfl, a2, a3⟩) N (0, false, []) ⟨Nat.zero_le _, .inl ⟨rfl, rfl, fun u hu => by simp only at hu; omega⟩⟩ (by simp only; omega)
 have g1 : f40l0 N N [] false 0 hs ps cs ss = some r := g1
 unfold f40
 rw [g1, andThen_some]
 rcases g2 with ⟨rfl, a1⟩ | ⟨u, h1, rfl, a2, a3⟩
 ·right
  refine ⟨fun s hs' => ?_, rfl⟩
  obtain ⟨w, hw, rfl⟩ := ext_bits (show n ≤ 20 by omega) hs'
  exact a1 w hw
 ·left
  refine ⟨bits u, bits_ext (show n ≤ 20 by omega) h1, a2, fun s' hs' hc => ?_, rfl⟩
  obtain ⟨w, hw, rfl⟩ := ext_bits (show n ≤ 20 by omega) hs'
  exact a3 w hw hc
end
end Go.Pl


namespace Go.Pl
open Go.Al Go.Proofs
theorem hts_spn {n : Nat} {m m' : List Int} (hn : n ≤ 5) : hts n m = hts n m' ↔ spn n m = spn n m' := by
 constructor
 ·intro h
  refine span_ext (by simp) fun p hp => ?_
  rw [spn_len] at hp
  rw [sp_spn hp, sp_spn hp]
  have a := hts_get (m := m) hp hn
  have b := hts_get (m := m') hp hn
  rw [h] at a
  rw [a.1] at b
  rw [a.2] at b
  rw [b.1, b.2]
 ·intro h
  have g : ∀ p, p < n → -ent m p 5 = -ent m' p 5 ∧ ent m 5 p = ent m' 5 p := fun p hp => by
   have := congrArg (fun l => sp l p) h
   simp only [sp_spn hp] at this
   exact Prod.mk.inj this
  have c : ∀ p, cz n p (-ent m p 5) = cz n p (-ent m' p 5) ∧ cz n p (ent m 5 p) = cz n p (ent m' 5 p) := fun p => by
   unfold cz
   by_cases hp : p < n
   ·rw [if_pos hp, if_pos hp, if_pos hp, if_pos hp]; exact g p hp
   ·rw [if_neg hp, if_neg hp, if_neg hp, if_neg hp]; exact ⟨rfl, rfl⟩
  unfold hts
  rw [(c 0).1, (c 0).2, (c 1).1, (c 1).2, (c 2).1, (c 2).2, (c 3).1, (c 3).2, (c 4).1, (c 4).2]
section
variable (hs : List Span) (ps : List Pr) (cs : List Cn) (ss : List Sg)
theorem f39_bad (N : Nat) (hN : 100 ≤ N) (h1 : hs.length < 100) (h2 : ps.length < 100) (h3 : cs.length < 100) (h4 : ss.length < 100) (hc : chk hs ps cs ss ≠ 0) : f39 N hs ps cs ss = some ([], chk hs ps cs ss) := by
 unfold f39
 rw [f70_bad N hs ps cs ss hN h1 h2 h3 h4 hc, andThen_some]
 simp only
 rw [if_pos (by simpa using hc)]
theorem f39_no (N : Nat) (hN : 1000 ≤ N) (v : Valid hs ps cs ss) (ht : ¬ ∃ t, TruthO hs ps cs ss t) : f39 N hs ps cs ss = some ([], 9) := by
 obtain ⟨m, ok, e1, e2, e3⟩ := f70_eq N hs ps cs ss hN v
 have : ok = false := by
  cases ok with
  | false => rfl
  | true => exact absurd (e2.1 rfl) ht
 subst this
 unfold f39
 rw [e1, andThen_some]
 rfl
theorem can_less {t : Nat → Int} (ht : TruthO hs ps cs ss t) (l : List Int) : canB hs ps (nts cs ss) l = true := by
 rw [canB_iff]
 refine ⟨t, ht.1, ht.2.1, fun x hx => ?_⟩
 obtain ⟨i, hi, _, rfl⟩ := hx
 exact ht.2.2 _ (nt_mem hi)
theorem f39_yes (N : Nat) (hN : 50000 ≤ N) (v : Valid hs ps cs ss) (ht : ∃ t, TruthO hs ps cs ss t) :
  ∃ Q : Nat → Bool, (∀ o, f41 N hs ps cs ss [] = some (o, true) → ∀ i : Nat, i < (nts cs ss).length → ∃ o', f41 N hs ps cs ss [(i : Int)] = some (o', true) ∧ f24 N o' o = some (Q i)) ∧ (∀ (i : Nat) m mi, Tight hs.length m (TruthO hs ps cs ss) → Tight hs.length mi (Truth hs ps (KBut (nts cs ss) [(i : Int)])) → Q i = decide (spn hs.length mi = spn hs.length m)) ∧
   f39 N hs ps cs ss = some (filt Q (nts cs ss).length, 0) := by
 have n5 := v.n5
 have p8 := v.p8
 have c6 := v.c6
 have s4 := v.s4
 have hl := nts_len cs ss
 obtain ⟨m, ok, e1, e2, e3⟩ := f70_eq N hs ps cs ss (by omega) v
 have := e2.2 ht
 subst this
 have tg := e3 rfl
 obtain ⟨t, ht⟩ := ht
 have hbd : ∀ {K : Nt → Prop} {m : List Int}, Tight hs.length m (Truth hs ps K) → ∀ p, p < hs.length → -10000 ≤ ent m p 5 ∧ ent m p 5 ≤ 10000 := fun tg p hp => by
  have := tight_bd tg rfl n5 v.h p 5 (.inl hp) (.inr rfl)
  omega
 have hmask : ∀ i, i < (nts cs ss).length → ∃ mi, f92 N hs ps cs ss (nts cs ss) ((2 ^ i : Nat) : Int) [] = some (mi, true) ∧ Tight hs.length mi (Truth hs ps (KBut (nts cs ss) [(i : Int)])) := fun i hi => by
  obtain ⟨mi, a1, a2⟩ := gaps_mask hs ps cs ss N (by omega) v (w := 2 ^ i) (l := [(i : Int)]) (fun j hj => by
   rw [Nat.testBit_two_pow, decide_eq_true_iff, List.mem_singleton]; omega)
  rw [can_less hs ps cs ss ht] at a1 a2
  exact ⟨mi, a1, a2 rfl⟩
 let Q : Nat → Bool := fun i => @decide (∃ mi, Tight hs.length mi (Truth hs ps (KBut (nts cs ss) [(i : Int)])) ∧ spn hs.length mi = spn hs.length m) (Classical.propDecidable _)
 have hQ : ∀ (i : Nat) mi, Tight hs.length mi (Truth hs ps (KBut (nts cs ss) [(i : Int)])) → Q i = decide (spn hs.length mi = spn hs.length m) := fun i mi h1 => by
  rw [Bool.eq_iff_iff]
  show @decide _ (Classical.propDecidable _) = true ↔ _
  rw [@decide_eq_true_iff _ (Classical.propDecidable _), decide_eq_true_iff]
  constructor
  ·rintro ⟨mj, h2, h3⟩
   rw [← h3]
   refine span_ext (by simp) fun p hp => ?_
   rw [spn_len] at hp
   rw [sp_spn hp, sp_spn hp]
   have key : ∀ a b, (a < hs.length ∨ a = 5) → (b < hs.length ∨ b = 5) → ent mi a b = ent mj a b := fun a b ha hb => by
    obtain ⟨t1, g1, g2⟩ := h1.att a b ha hb
    obtain ⟨t2, g3, g4⟩ := h2.att a b ha hb
    have := h1.up t2 g3 a b ha hb
    have := h2.up t1 g1 a b ha hb
    omega
   rw [key p 5 (.inl hp) (.inr rfl), key 5 p (.inr rfl) (.inl hp)]
  ·intro h; exact ⟨mi, h1, h⟩
 refine ⟨Q, fun o ho i hi => ?_, fun i m2 mi t2 ti => by rw [hQ i mi ti, show spn hs.length m = spn hs.length m2 from span_ext (by simp) fun p hp => by
  rw [spn_len] at hp
  rw [sp_spn hp, sp_spn hp]
  have key : ∀ a b, (a < hs.length ∨ a = 5) → (b < hs.length ∨ b = 5) → ent m a b = ent m2 a b := fun a b ha hb => by
   obtain ⟨t1, g1, g2⟩ := tg.att a b ha hb
   obtain ⟨t3, g3, g4⟩ := t2.att a b ha hb
   have := tg.up t3 g3 a b ha hb
   have := t2.up t1 g1 a b ha hb
   omega
  rw [key p 5 (.inl hp) (.inr rfl), key 5 p (.inr rfl) (.inl hp)]], ?_⟩
 ·obtain ⟨o0, b1, b2, b3⟩ := f41_can hs ps cs ss N [] hN v (by simp)
  rw [ho] at b1
  obtain ⟨rfl, hb⟩ : o = o0 ∧ true = canB hs ps (nts cs ss) [] := by
   have := Option.some.inj b1
   exact Prod.mk.inj this
  obtain ⟨o', c1, c2, c3⟩ := f41_can hs ps cs ss N [(i : Int)] hN v (by simp)
  rw [can_less hs ps cs ss ht] at c1 c3
  refine ⟨o', c1, ?_⟩
  obtain ⟨mi, a1, a2⟩ := hmask i hi
  have x1 := exact_tight b2 n5 (b3 hb.symm) (by rw [Truth.congr (KBut_nil (nts cs ss))]; exact tg)
  have x2 := exact_tight c2 n5 (c3 rfl) a2
  rw [f24_eq N o' o (by omega) (by omega), hQ i mi a2, x1, x2]
 ·obtain ⟨r, g1, g2⟩ := loop_run (fun q (i : Nat) => f39l0 N q (filt Q i) ((nts cs ss).length : Int) (i : Int) hs ps cs ss (nts cs ss) m) (fun i => i ≤ (nts cs ss).length) (fun i => (nts cs ss).length - i) (fun r => r = filt Q (nts cs ss).length) (fun q i hi => by
   by_cases h : i < (nts cs ss).length
   ·right
    refine ⟨i + 1, h, by omega, ?_⟩
    show f39l0B N (f39l0 N q) (filt Q i) ((nts cs ss).length : Int) (i : Int) hs ps cs ss (nts cs ss) m = _
    obtain ⟨mi, a1, a2⟩ := hmask i h
    have hle := filt_len Q i
    unfold f39l0B
    rw [Int.toNat_natCast, wrap_pow (show i < 20 by omega)]
    simp only [show ((i : Int) < ((nts cs ss).length : Int)) by omega, Int.natCast_nonneg, decide_true, if_true, a1, andThen_some, f71_eq N hs ps cs ss (nts cs ss) mi (show 100 ≤ N by omega) n5 (hbd a2), f71_eq N hs ps cs ss (nts cs ss) m (show 100 ≤ N by omega) n5 (hbd tg), w_succ (show i < 4611686018427387904 by omega)]
    have e : (hts hs.length mi == hts hs.length m) = Q i := by
     rw [hQ i mi a2, Bool.eq_iff_iff, decide_eq_true_iff, ← hts_spn n5]
     simp
    rw [e, filt_succ]
    by_cases c : Q i = true
    ·rw [if_pos c, if_pos (by simp [boundLen]; omega), if_pos c]
    ·rw [if_neg c, if_neg c]
   ·left
    have : i = (nts cs ss).length := by omega
    refine ⟨_, ?_, rfl⟩
    show f39l0B N (f39l0 N q) (filt Q i) ((nts cs ss).length : Int) (i : Int) hs ps cs ss (nts cs ss) m = _
    unfold f39l0B
    rw [if_neg (by simp; omega), this]) N 0 (Nat.zero_le _) (by omega)
  have g1 : f39l0 N N [] ((nts cs ss).length : Int) 0 hs ps cs ss (nts cs ss) m = some r := g1
  unfold f39
  rw [e1, andThen_some]
  simp only [if_true]
  rw [if_neg (by decide), g1, andThen_some, g2]
end
end Go.Pl


namespace Go.Pl
open Go.Proofs
theorem known_ok : f16 50000 = some true := by kernel_rfl
end Go.Pl


namespace Go.Proofs.Ytegckmajjklonaa
open Go.ChangeShapes Go.WideShapes Go.ChangeAt Go.RowKit Go.Al
def Pure14 : Prop := ∀ (x0 : den Kiln) (x1 : den Two8), GoodD Kiln x0 → GoodD Two8 x1 → ∃ N, f14 N x0.1 x0.2.1 x0.2.2.1 x0.2.2.2 x1.1 x1.2 = some true
set_option maxRecDepth 100000 in
theorem lifted14 (pure : Pure14) (os : Os) (started : os.Started) (H : Type) (enc : TypeId × Value → H) :
  ReturnsInHanded {} Try.checked os 14 .any (Rows.furnaceTriedSpec.pre6 enc Try.prog Try.f14 Rows.furnaceTriedRow.domain false) (Rows.furnaceTriedSpec.post enc Try.prog Try.f14 false true false false) := by
 refine returnsInHanded_of_change (C := Try.checked) own started (by kernel_rfl) Try.func14
  (ChangeSpec.witness6 (enc := enc) (C := Try.checked) false ⟨#[], #[.agg #[.slice none 0 0, .slice none 0 0, .slice none 0 0, .slice none 0 0], .agg #[.int .u8 0, .int .u8 0]], []⟩ 8 (by kernel_rfl) (by kernel_rfl) (by kernel_rfl) (by kernel_rfl)) ?_
 intro W base args ds gs before hval0 hW hcnd _
 have hval : ∀ (j : Nat) t v, Try.f14.params[j]? = some t → args[j]? = some v → Value.okWide Try.prog W .any base t v := hval0
 have hW' := hW
 obtain ⟨p, q, hA0, hV, rfl, hfz, hnd⟩ := hW
 have hA : DataW.TrodAll enc Try.prog W 0 (fun _ => true) true Try.f14.params.toList args.toList ds p := hA0
 rw [show Try.f14.params.toList = [80, 89] by kernel_rfl] at hA
 obtain ⟨v0, vs0, d0, ds0, p0, q0, hargs, rfl, rfl, h0, r0⟩ := trodAll_cons hA
 obtain ⟨v1, vs1, d1, ds1, p1, q1, rfl, rfl, rfl, h1, r1⟩ := trodAll_cons r0
 obtain ⟨rfl, rfl, rfl⟩ := trodAll_nil r1
 obtain rfl : args = #[v0, v1] := by cases args; simp_all
 obtain ⟨rfl, rfl⟩ := trodVars_none hV
 obtain ⟨x0, g0, c0⟩ := arg_agg (ω := fun _ => 0) (by kernel_rfl) 20 Kiln (by kernel_rfl) (hval 0 80 v0 (by kernel_rfl) rfl) h0
 obtain ⟨x1, g1, c1⟩ := arg_agg (ω := fun _ => 0) (by kernel_rfl) 20 Two8 (by kernel_rfl) (hval 1 89 v1 (by kernel_rfl) rfl) h1
 obtain ⟨N, hN⟩ := pure x0 x1 g0 g1
 have key := law_calls (W := W) (f14ok N) (by kernel_rfl) (ins := [.agg (cellsT Kiln x0), .agg (cellsT Two8 x1)]) (cargs := [v0, v1]) (mres := [])
  (show andThen (f14 N x0.1 x0.2.1 x0.2.2.1 x0.2.2.2 x1.1 x1.2) (fun y => some (AV.a (.one (.bool y)), ([] : Mem))) = _ by rw [hN]; rfl) (.cons c0 (.cons c1 .nil))
 refine key.mono fun e W' ⟨he, bel⟩ => ?_
 subst he
 exact ⟨_, rfl, _, _, _, [], _, [], hW', trodAll_mk1 (shut_bool (by kernel_rfl) _), (trodAll_cons_mk (bel.trod laidOut (by kernel_rfl) (of_decide_eq_true (by kernel_rfl)) h0) (trodAll_cons_mk (bel.trod laidOut (by kernel_rfl) (of_decide_eq_true (by kernel_rfl)) h1) trodAll_mk0)), rfl, bel.frame _, fun h => by cases h⟩
theorem row14 (pure : Pure14) : Rows.FurnaceTriedSaid :=
 OpenClaim.holds_of_wide 14 Try.f14 rfl rfl rfl rfl rfl rfl rfl ⟨rfl, rfl, rfl, rfl, rfl⟩ rfl rfl rfl rfl rfl (by kernel_rfl) Try.func14 (by kernel_rfl)
  (of_decide_eq_true (by kernel_rfl)) (by unfold Func.isWrapper; first | (rw [if_pos (by decide +kernel)]; kernel_rfl) | (rw [if_neg (by decide +kernel)]; exact ⟨rfl, rfl⟩))
  (fun os started H enc _ => lifted14 pure os started H enc)
end Go.Proofs.Ytegckmajjklonaa


namespace Go.Pl
open Go.Al Go.Proofs
theorem f56_eq (N : Nat) (o : List Span) (hN : 100 ≤ N) (hn : o.length ≤ 5) (hb : Bd o) : f56 N o = some (width o) := by
 generalize hF : (fun p => (sp o p).2 - (sp o p).1) = F
 have hz : ∀ i, o.length ≤ i → sp o i = (0, 0) := fun i h => by
  unfold sp
  rw [List.getD_eq_getElem?_getD, List.getElem?_eq_none h]; rfl
 have hFb : ∀ p, p < 5 → -4000 ≤ F p ∧ F p ≤ 4000 := fun p _ => by
  rw [← hF]
  by_cases h : p < o.length
  ·have := hb p h; simp only; omega
  ·simp only; rw [hz p (by omega)]; simp
 obtain ⟨r, h1, h2⟩ := loop_run (fun q (i : Nat) => f56l0 N q o (sumTo F i) (i : Int)) (fun i => i ≤ o.length) (fun i => o.length - i) (fun r => r = sumTo F o.length) (fun q i hi => by
  by_cases h : i < o.length
  ·right
   refine ⟨i + 1, h, by omega, ?_⟩
   show f56l0B N (f56l0 N q) o (sumTo F i) (i : Int) = _
   have b1 := sumTo_bd F hFb i (by omega)
   have b2 := hFb i (by omega)
   have d := hb i h
   unfold f56l0B
   simp only [show ((i : Int) < (o.length : Int)) by omega, Int.natCast_nonneg, decide_true, Bool.and_true, if_true, Int.toNat_natCast, w_succ (show i < 4611686018427387904 by omega)]
   have e : (o.getD i (0, 0)).2 - (o.getD i (0, 0)).1 = F i := by rw [← hF]; rfl
   rw [e, w64_id (z := F i) (by omega) (by omega), w64_id (by omega) (by omega)]
   rfl
  ·left
   have : i = o.length := by omega
   subst this
   refine ⟨_, ?_, rfl⟩
   show f56l0B N (f56l0 N q) o (sumTo F o.length) (o.length : Int) = _
   unfold f56l0B
   rw [if_neg (by simp)]) N 0 (Nat.zero_le _) (by omega)
 rw [h2] at h1
 have h1 : f56l0 N N o 0 0 = some (sumTo F o.length) := h1
 unfold f56
 rw [h1]
 unfold width
 rw [hF]; rfl
section
variable (hs : List Span) (ps : List Pr) (cs : List Cn) (ss : List Sg)
theorem spn_bd {n : Nat} {m : List Int} (hb : ∀ q, q < n → -1000 ≤ ent m q 5 ∧ ent m q 5 ≤ 1000 ∧ -1000 ≤ ent m 5 q ∧ ent m 5 q ≤ 1000) : Bd (spn n m) := fun p hp => by
 rw [spn_len] at hp
 have := hb p hp
 rw [sp_spn hp]
 simp only
 omega
theorem cone_truth (p a : Int) (b : Bool) : TruthO hs ps (cs ++ [(p, (a, b))]) ss = TC hs ps cs ss p a b := by
 funext t
 refine propext ?_
 have hm : ∀ x, x ∈ nts (cs ++ [(p, (a, b))]) ss ↔ x ∈ nts cs ss ∨ x = .inl (p, (a, b)) := fun x => by
  unfold nts; simp only [List.map_append, List.mem_append, List.map_cons, List.map_nil, List.mem_singleton]
  constructor
  ·rintro ((h | h) | h)
   ·exact .inl (.inl h)
   ·exact .inr h
   ·exact .inl (.inr h)
  ·rintro ((h | h) | h)
   ·exact .inl (.inl h)
   ·exact .inr h
   ·exact .inl (.inr h)
 constructor
 ·rintro ⟨h1, h2, h3⟩
  exact ⟨⟨h1, h2, fun x hx => h3 x ((hm x).2 (.inl hx))⟩, h3 _ ((hm _).2 (.inr rfl))⟩
 ·rintro ⟨⟨h1, h2, h3⟩, h4⟩
  refine ⟨h1, h2, fun x hx => ?_⟩
  rcases (hm x).1 hx with h | rfl
  ·exact h3 x h
  ·exact h4
theorem f57_step (N : Nat) (hN : 1000 ≤ N) (v : Valid hs ps cs ss) (hc5 : cs.length ≤ 5) (p a : Int) (k : Int) (b : Bool) (hb : (k == 1) = b) (hk : k = 0 ∨ k = 1) (h1 : 0 ≤ p) (h2 : p < hs.length) (h3 : 1 ≤ a) (h4 : a ≤ 1000) (x : Int) (hx : -1 ≤ x)
  (go : Int → Int → Int → Int → List Span → List Pr → List Cn → List Sg → Option ((Int × List Span × List Pr × List Cn × List Sg) ⊕ (Int × List Span × List Pr × List Cn × List Sg))) :
  f57l0B N go p a x k hs ps cs ss = go p a (if aft hs.length (TC hs ps cs ss p a b) > x then aft hs.length (TC hs ps cs ss p a b) else x) (k + 1) hs ps cs ss := by
 have n5 := v.n5
 have p8 := v.p8
 have s4 := v.s4
 have v2 : Valid hs ps (cs ++ [(p, (a, b))]) ss := ⟨v.n1, v.n5, v.h, v.p8, by simp; omega, v.s4, v.p, fun q hq => by
  rw [List.mem_append, List.mem_singleton] at hq
  rcases hq with hq | rfl
  ·exact v.c q hq
  ·exact ⟨h1, h2, h3, h4⟩, v.s⟩
 have wk : Go.IntKind.wrap .i64 (k + 1) = k + 1 := w64_id (by omega) (by omega)
 unfold f57l0B
 rw [if_pos (decide_eq_true (by omega)), f45_eq N hs ps cs ss (by omega) (by omega) (by omega) (by omega), andThen_some]
 simp only [hb]
 rw [if_pos (by simp [boundLen]; omega), wk]
 by_cases ht : ∃ t, TC hs ps cs ss p a b t
 ·obtain ⟨m, _, tg, _, e⟩ := f19_yes N hs ps (cs ++ [(p, (a, b))]) ss hN v2 (by rw [cone_truth]; exact ht)
  rw [cone_truth] at tg
  have bd := tc_bd hs ps cs ss v tg
  rw [e, andThen_some]
  simp only
  rw [if_neg (by decide), if_pos (by decide), f56_eq N (spn hs.length m) (by omega) (by rw [spn_len]; omega) (spn_bd bd), andThen_some, aft_tight tg]
 ·rw [f19_no N hs ps (cs ++ [(p, (a, b))]) ss hN v2 (by rw [cone_truth]; exact ht), andThen_some]
  simp only
  rw [if_pos (by decide), if_neg (by decide), if_neg (by decide), aft_none ht, if_neg (by omega)]
theorem aft_ge {n : Nat} (hn : n ≤ 5) (T : (Nat → Int) → Prop) : -1 ≤ aft n T := by
 unfold aft
 by_cases h : ∃ m, Tight n m T
 ·rw [dif_pos h]
  have := width_pos hn h.choose_spec
  omega
 ·rw [dif_neg h]; exact Int.le_refl _
theorem f57_eq (N : Nat) (hN : 1000 ≤ N) (v : Valid hs ps cs ss) (hc5 : cs.length ≤ 5) (p a : Int) (h1 : 0 ≤ p) (h2 : p < hs.length) (h3 : 1 ≤ a) (h4 : a ≤ 1000) : f57 N p a hs ps cs ss = some (wrst hs ps cs ss p a, hs, ps, cs, ss) := by
 have g1 := aft_ge v.n5 (TC hs ps cs ss p a false)
 have g2 := aft_ge v.n5 (TC hs ps cs ss p a true)
 have run : ∀ K, f57l0 N (K + 3) p a (-1) 0 hs ps cs ss = some (.inr (wrst hs ps cs ss p a, hs, ps, cs, ss)) := fun K => by
  show f57l0B N (f57l0 N (K + 2)) p a (-1) 0 hs ps cs ss = _
  rw [f57_step hs ps cs ss N hN v hc5 p a 0 false rfl (.inl rfl) h1 h2 h3 h4 (-1) (by decide)]
  show f57l0B N (f57l0 N (K + 1)) p a _ 1 hs ps cs ss = _
  rw [f57_step hs ps cs ss N hN v hc5 p a 1 true rfl (.inr rfl) h1 h2 h3 h4 _ (by split <;> omega)]
  show f57l0B N (f57l0 N K) p a _ 2 hs ps cs ss = _
  unfold f57l0B
  rw [if_neg (by decide)]
  have e : (if aft hs.length (TC hs ps cs ss p a false) > -1 then aft hs.length (TC hs ps cs ss p a false) else -1) = aft hs.length (TC hs ps cs ss p a false) := by split <;> omega
  rw [e]
  rfl
 obtain ⟨K, hK⟩ : ∃ K, N = K + 3 := ⟨N - 3, by omega⟩
 have := run K
 rw [← hK] at this
 unfold f57
 rw [this]
 rfl
theorem wrst_pos (v : Valid hs ps cs ss) (p a : Int) (h1 : 0 ≤ p) (h2 : p < hs.length) (h3 : 1 ≤ a) (h4 : a ≤ 1000) (ht : ∃ t, TruthO hs ps cs ss t) : 0 ≤ wrst hs ps cs ss p a := by
 have n5 := v.n5
 have key : ∀ b, (∃ t, TC hs ps cs ss p a b t) → 0 ≤ aft hs.length (TC hs ps cs ss p a b) := fun b hb => by
  obtain ⟨m, ok, _, e2, e3⟩ := gaps_cone hs ps cs ss 1000 (by omega) v p a b ⟨h1, h2, h3, h4⟩
  have tg := e3 (e2.2 hb)
  rw [aft_tight tg]
  exact width_pos n5 tg
 obtain ⟨t, ht⟩ := ht
 unfold wrst
 by_cases c : a ≤ t p.toNat
 ·have := key true ⟨t, ht, by unfold NoteT; exact c⟩
  split <;> omega
 ·have := key false ⟨t, ht, by unfold NoteT; simp only [Bool.false_eq_true, if_false]; omega⟩
  split <;> omega
theorem mem_without {α : Type} (l : List α) (d : α) {i : Nat} (hi : i < l.length) (x : α) : x ∈ l.take i ++ l.drop (i + 1) ↔ ∃ j, j < l.length ∧ j ≠ i ∧ x = l.getD j d := by
 rw [List.mem_append]
 constructor
 ·rintro (h | h)
  ·obtain ⟨j, hj, e⟩ := List.getElem_of_mem h
   rw [List.length_take] at hj
   refine ⟨j, by omega, by omega, ?_⟩
   rw [List.getD_eq_getElem?_getD, List.getElem?_eq_getElem (show j < l.length by omega), ← e, List.getElem_take]; rfl
  ·obtain ⟨j, hj, e⟩ := List.getElem_of_mem h
   rw [List.length_drop] at hj
   refine ⟨i + 1 + j, by omega, by omega, ?_⟩
   rw [List.getD_eq_getElem?_getD, List.getElem?_eq_getElem (show i + 1 + j < l.length by omega), ← e, List.getElem_drop]; rfl
 ·rintro ⟨j, hj, hne, rfl⟩
  rw [List.getD_eq_getElem?_getD, List.getElem?_eq_getElem hj]
  rcases Nat.lt_or_ge j i with c | c
  ·left
   rw [List.mem_take_iff_getElem]
   exact ⟨j, by omega, rfl⟩
  ·right
   rw [List.mem_drop_iff_getElem]
   refine ⟨j - (i + 1), by omega, ?_⟩
   simp only [show i + 1 + (j - (i + 1)) = j by omega]; rfl
theorem less_cone {i : Nat} (hi : i < cs.length) : TruthO hs ps (cs.take i ++ cs.drop (i + 1)) ss = Truth hs ps (KBut (nts cs ss) [(i : Int)]) := Truth.congr fun x => by
 unfold KBut
 show x ∈ (cs.take i ++ cs.drop (i + 1)).map Sum.inl ++ ss.map Sum.inr ↔ _
 rw [List.mem_append, List.mem_map, List.mem_map]
 constructor
 ·rintro (⟨c, hc, rfl⟩ | ⟨c, hc, rfl⟩)
  ·obtain ⟨j, j1, j2, rfl⟩ := (mem_without cs ((0 : Int), ((0 : Int), false)) hi c).1 hc
   exact ⟨j, by rw [nts_len]; omega, by simp; omega, (nt_left j1).symm⟩
  ·obtain ⟨j, j1, rfl⟩ := getD_of_mem ((0 : Int), (((0 : Int), (0 : Int)), (0 : Int))) hc
   exact ⟨cs.length + j, by rw [nts_len]; omega, by simp; omega, (nt_right j1).symm⟩
 ·rintro ⟨j, j1, j2, rfl⟩
  rw [nts_len] at j1
  rcases Nat.lt_or_ge j cs.length with c | c
  ·left
   rw [nt_left c]
   exact ⟨_, (mem_without cs ((0 : Int), ((0 : Int), false)) hi _).2 ⟨j, c, fun e => j2 (by rw [e]; simp), rfl⟩, rfl⟩
  ·right
   obtain ⟨k, rfl⟩ : ∃ k, j = cs.length + k := ⟨j - cs.length, by omega⟩
   rw [nt_right (show k < ss.length by omega)]
   exact ⟨_, getD_mem (by omega), rfl⟩
theorem less_sign {i : Nat} (hi : i < ss.length) : TruthO hs ps cs (ss.take i ++ ss.drop (i + 1)) = Truth hs ps (KBut (nts cs ss) [((cs.length + i : Nat) : Int)]) := Truth.congr fun x => by
 unfold KBut
 show x ∈ cs.map Sum.inl ++ (ss.take i ++ ss.drop (i + 1)).map Sum.inr ↔ _
 rw [List.mem_append, List.mem_map, List.mem_map]
 constructor
 ·rintro (⟨c, hc, rfl⟩ | ⟨c, hc, rfl⟩)
  ·obtain ⟨j, j1, rfl⟩ := getD_of_mem ((0 : Int), ((0 : Int), false)) hc
   exact ⟨j, by rw [nts_len]; omega, by simp; omega, (nt_left j1).symm⟩
  ·obtain ⟨j, j1, j2, rfl⟩ := (mem_without ss ((0 : Int), (((0 : Int), (0 : Int)), (0 : Int))) hi c).1 hc
   exact ⟨cs.length + j, by rw [nts_len]; omega, by simp; omega, (nt_right j1).symm⟩
 ·rintro ⟨j, j1, j2, rfl⟩
  rw [nts_len] at j1
  rcases Nat.lt_or_ge j cs.length with c | c
  ·left
   rw [nt_left c]
   exact ⟨_, getD_mem c, rfl⟩
  ·right
   obtain ⟨k, rfl⟩ : ∃ k, j = cs.length + k := ⟨j - cs.length, by omega⟩
   rw [nt_right (show k < ss.length by omega)]
   exact ⟨_, (mem_without ss ((0 : Int), (((0 : Int), (0 : Int)), (0 : Int))) hi _).2 ⟨k, by omega, fun e => j2 (by rw [e]; simp), rfl⟩, rfl⟩
theorem f14l1_eq (N : Nat) (hN : 100 ≤ N) (h l : List Span) (nd : List Int) (i : Int) (hl : l.length = h.length) (hn : h.length ≤ 5) : f14l1 N N h nd i l true 0 hs ps cs ss = some (h, nd, i, decide (l = h), hs, ps, cs, ss) := by
 obtain ⟨r, g1, g2⟩ := loop_run (fun q (k : Nat) => f14l1 N q h nd i l (decide (∀ j, j < k → sp l j = sp h j)) (k : Int) hs ps cs ss) (fun k => k ≤ l.length) (fun k => l.length - k) (fun r => r = (h, nd, i, decide (∀ j, j < l.length → sp l j = sp h j), hs, ps, cs, ss)) (fun q k hk => by
  by_cases c : k < l.length
  ·right
   refine ⟨k + 1, c, by omega, ?_⟩
   show f14l1B N (f14l1 N q) h nd i l _ (k : Int) hs ps cs ss = _
   have top : decide (∀ j, j < k + 1 → sp l j = sp h j) = (decide (∀ j, j < k → sp l j = sp h j) && (((l.getD k (0, 0)).1 == (h.getD k (0, 0)).1) && (((l.getD k (0, 0)).2 == (h.getD k (0, 0)).2) && true))) := by
    rw [Bool.eq_iff_iff, Bool.and_eq_true, decide_eq_true_eq, decide_eq_true_eq]
    have e : ((((l.getD k (0, 0)).1 == (h.getD k (0, 0)).1) && (((l.getD k (0, 0)).2 == (h.getD k (0, 0)).2) && true)) = true) ↔ sp l k = sp h k := by
     rw [Bool.and_true, Bool.and_eq_true, beq_iff_eq, beq_iff_eq]
     exact ⟨fun h => Prod.ext h.1 h.2, fun h => ⟨congrArg Prod.fst h, congrArg Prod.snd h⟩⟩
    rw [e]
    constructor
    ·intro hh; exact ⟨fun j hj => hh j (by omega), hh k (by omega)⟩
    ·rintro ⟨h1, h2⟩ j hj
     by_cases e : j = k
     ·subst e; exact h2
     ·exact h1 j (by omega)
   rw [top]
   generalize decide (∀ j, j < k → sp l j = sp h j) = T
   unfold f14l1B
   simp only [show decide ((k : Int) < (l.length : Int)) = true from decide_eq_true (by omega), show decide ((k : Int) < (h.length : Int)) = true from decide_eq_true (by omega), Int.natCast_nonneg, decide_true, Bool.and_true, if_true, Int.toNat_natCast, w_succ (show k < 4611686018427387904 by omega)]
   cases T
   ·rfl
   ·rfl
  ·left
   have : k = l.length := by omega
   subst this
   refine ⟨_, ?_, rfl⟩
   show f14l1B N (f14l1 N q) h nd i l _ (l.length : Int) hs ps cs ss = _
   unfold f14l1B
   rw [if_neg (by simp)]) N 0 (Nat.zero_le _) (by omega)
 rw [g2] at g1
 have hz : ∀ k, k = 0 → decide (∀ j, j < k → sp l j = sp h j) = true := fun k hk => decide_eq_true fun j hj => by omega
 rw [hz 0 rfl] at g1
 have e : decide (∀ j, j < l.length → sp l j = sp h j) = decide (l = h) := by
  rw [Bool.eq_iff_iff, decide_eq_true_eq, decide_eq_true_eq]
  exact ⟨fun hh => span_ext hl hh, fun hh j _ => by rw [hh]⟩
 rw [e] at g1
 exact g1
theorem f14l0_eq (N : Nat) (hN : 50000 ≤ N) (v : Valid hs ps cs ss) {t : Nat → Int} (ht : TruthO hs ps cs ss t) {m : List Int} (tg : Tight hs.length m (TruthO hs ps cs ss)) (Q : Nat → Bool)
  (hQ : ∀ (i : Nat) m mi, Tight hs.length m (TruthO hs ps cs ss) → Tight hs.length mi (Truth hs ps (KBut (nts cs ss) [(i : Int)])) → Q i = decide (spn hs.length mi = spn hs.length m)) :
  f14l0 N N (spn hs.length m) (filt Q (cs.length + ss.length)) 0 hs ps cs ss = some (.inr ()) := by
 have n5 := v.n5
 have p8 := v.p8
 have c6 := v.c6
 have s4 := v.s4
 have hfl := filt_len Q (cs.length + ss.length)
 refine loop_all (fun q i => f14l0 N q (spn hs.length m) (filt Q (cs.length + ss.length)) (i : Int) hs ps cs ss) (cs.length + ss.length) _ (fun q i hi => ?_) (fun q => ?_) N (by omega)
 ·show f14l0B N (f14l0 N q) (spn hs.length m) (filt Q (cs.length + ss.length)) (i : Int) hs ps cs ss = _
  have w0 : Go.IntKind.wrap .i64 ((cs.length : Int) + (ss.length : Int)) = ((cs.length + ss.length : Nat) : Int) := by rw [w64_id (by omega) (by omega)]; omega
  have wi : Go.IntKind.wrap .i64 ((i : Int) + 1) = ((i + 1 : Nat) : Int) := w_succ (by omega)
  have fq := f49_eq N (filt Q (cs.length + ss.length)) (i : Int) (by omega) (by omega)
  have dq : decide ((i : Int) ∈ filt Q (cs.length + ss.length)) = Q i := by rw [Bool.eq_iff_iff, decide_eq_true_eq, mem_filt hi]
  rw [dq] at fq
  have sub : ∀ (c2 : List Cn) (s2 : List Sg), TruthO hs ps c2 s2 = Truth hs ps (KBut (nts cs ss) [(i : Int)]) → Valid hs ps c2 s2 → ∃ mi, f19 N hs ps c2 s2 = some (spn hs.length mi, 0) ∧ Q i = decide (spn hs.length mi = spn hs.length m) := fun c2 s2 eT v2 => by
   obtain ⟨mi, _, tg2, _, e⟩ := f19_yes N hs ps c2 s2 (by omega) v2 (by rw [eT]; exact (canB_iff hs ps).1 (can_less hs ps cs ss ht _))
   rw [eT] at tg2
   exact ⟨mi, e, hQ i m mi tg tg2⟩
  unfold f14l0B
  rw [w0, if_pos (decide_eq_true (by omega)), f45_eq N hs ps cs ss (by omega) (by omega) (by omega) (by omega), andThen_some]
  simp only
  by_cases c : i < cs.length
  ·have e1 : cut cs 0 i = cs.take i := by simp [cut]
   have e2 : cut cs (i + 1) cs.length = cs.drop (i + 1) := by unfold cut; exact List.take_of_length_le (by simp)
   have hlen : (cs.take i ++ cs.drop (i + 1)).length = cs.length - 1 := by simp; omega
   have v2 : Valid hs ps (cs.take i ++ cs.drop (i + 1)) ss := ⟨v.n1, v.n5, v.h, v.p8, by omega, v.s4, v.p, fun x hx => by
    rw [List.mem_append] at hx
    rcases hx with hx | hx
    ·exact v.c x (List.mem_of_mem_take hx)
    ·exact v.c x (List.mem_of_mem_drop hx), v.s⟩
   obtain ⟨mi, e3, e4⟩ := sub _ _ (less_cone hs ps cs ss c) v2
   rw [if_pos (decide_eq_true (by omega)), wi]
   simp only [Int.toNat_natCast, show Int.toNat 0 = 0 from rfl, e1, e2]
   rw [if_pos (by simp; omega), if_pos (by simp; omega), if_pos (by simp [boundLen]; omega), e3, andThen_some]
   simp only
   rw [if_pos (by decide), if_neg (by simp), f14l1_eq hs ps cs ss N (by omega) _ _ _ _ (by simp) (by rw [spn_len]; omega), andThen_some]
   simp only
   rw [fq, andThen_some, e4, if_neg (by simp), wi]
  ·obtain ⟨j, rfl⟩ : ∃ j, i = cs.length + j := ⟨i - cs.length, by omega⟩
   have hj : j < ss.length := by omega
   have wk : Go.IntKind.wrap .i64 (((cs.length + j : Nat) : Int) - (cs.length : Int)) = (j : Int) := by rw [w64_id (by omega) (by omega)]; omega
   have wj : Go.IntKind.wrap .i64 ((j : Int) + 1) = ((j + 1 : Nat) : Int) := w_succ (by omega)
   have e1 : cut ss 0 j = ss.take j := by simp [cut]
   have e2 : cut ss (j + 1) ss.length = ss.drop (j + 1) := by unfold cut; exact List.take_of_length_le (by simp)
   have hlen : (ss.take j ++ ss.drop (j + 1)).length = ss.length - 1 := by simp; omega
   have v2 : Valid hs ps cs (ss.take j ++ ss.drop (j + 1)) := ⟨v.n1, v.n5, v.h, v.p8, v.c6, by omega, v.p, v.c, fun x hx => by
    rw [List.mem_append] at hx
    rcases hx with hx | hx
    ·exact v.s x (List.mem_of_mem_take hx)
    ·exact v.s x (List.mem_of_mem_drop hx)⟩
   obtain ⟨mi, e3, e4⟩ := sub _ _ (less_sign hs ps cs ss hj) v2
   rw [if_neg (by rw [decide_eq_false (by omega)]; decide), wk, wj]
   simp only [Int.toNat_natCast, show Int.toNat 0 = 0 from rfl, e1, e2]
   rw [if_pos (by simp; omega), if_pos (by simp; omega), if_pos (by simp [boundLen]; omega), e3, andThen_some]
   simp only
   rw [if_pos (by decide), if_neg (by simp), f14l1_eq hs ps cs ss N (by omega) _ _ _ _ (by simp) (by rw [spn_len]; omega), andThen_some]
   simp only
   rw [fq, andThen_some, e4, if_neg (by simp), wi]
 ·show f14l0B N (f14l0 N q) (spn hs.length m) _ ((cs.length + ss.length : Nat) : Int) hs ps cs ss = _
  have w0 : Go.IntKind.wrap .i64 ((cs.length : Int) + (ss.length : Int)) = ((cs.length + ss.length : Nat) : Int) := by rw [w64_id (by omega) (by omega)]; omega
  unfold f14l0B
  rw [w0, if_neg (by simp)]
end
theorem law14 (pl pr : L3) (cn : L2) (sg : L3) (x y : Int) (h1 : ∀ v ∈ pl, By3 v) (h2 : ∀ v ∈ pr, By3 v) (h3 : ∀ v ∈ cn, By2 v) (h4 : ∀ v ∈ sg, By3 v) (hx : By x) (hy : By y) : f14 50000 pl pr cn sg x y = some true := by
 obtain ⟨hs, ps, cs, ss, heats, e0, md⟩ := f44_eq 50000 (by omega) pl pr cn sg h1 h2 h3 h4
 have v := md.v
 have n4 := md.n4
 have n1 := v.n1
 have p5 := md.p5
 have c5 := md.c5
 have s3 := md.s3
 have hl := md.plc.l1
 have ht : ∃ t, TruthO hs ps cs ss t := ⟨_, md.truth⟩
 obtain ⟨m, e1, tg, e2, e3⟩ := f19_yes 50000 hs ps cs ss (by omega) v ht
 obtain ⟨_, r2⟩ := f23_eq 50000 hs ps cs ss (by omega) v
 obtain ⟨o, _, f2, ex⟩ := r2 ht
 have eo : o = spn hs.length m := exact_tight f2 v.n5 ex tg
 subst eo
 obtain ⟨R, R1, _, R3, K, hK, hR⟩ := trial_eq hs ps cs ss 50000 (by omega) v _ f2 ex ht
 obtain ⟨s1, s2⟩ := so_spec (fun p a => wrst hs ps cs ss (p : Int) a) K (0, 0, width (spn hs.length m)) hs.length
 rw [← hR, hK] at s1 s2
 obtain ⟨Q, _, q2, q3⟩ := f39_yes hs ps cs ss 50000 (by omega) v ht
 rw [nts_len] at q3
 obtain ⟨c, k1, k2, _⟩ := f50_eq 50000 hs.length heats hs n1 n4 md.plc ps cs ss x y hx hy
 obtain ⟨o1, o2, o3, o4⟩ := k2
 have hcp : ((c.1.toNat : Nat) : Int) = c.1 := by omega
 have m1 := s1 c.1.toNat (by omega) c.2.1 o3 (by omega)
 rw [hcp] at m1
 have m2 := wrst_pos hs ps cs ss v c.1 c.2.1 o1 o2 o3 o4 ht
 have e4 := f57_eq hs ps cs ss 50000 (by omega) v c5 c.1 c.2.1 o1 o2 o3 o4
 have e5 := f14l0_eq hs ps cs ss 50000 (by omega) v md.truth tg Q q2
 have e45 := f45_eq 50000 hs ps cs ss (by omega) (by omega) (by omega) (by omega)
 have bd : ∀ q, q < hs.length → -1000 ≤ ent m q 5 ∧ ent m q 5 ≤ 1000 ∧ -1000 ≤ ent m 5 q ∧ ent m 5 q ≤ 1000 := fun q hq => by
  have a := tight_bd tg rfl v.n5 v.h q 5 (.inl hq) (.inr rfl)
  have b := tight_bd tg rfl v.n5 v.h 5 q (.inr rfl) (.inl hq)
  omega
 have e56 := f56_eq 50000 (spn hs.length m) (by omega) (by rw [spn_len]; omega) (spn_bd bd)
 have hne : (((spn hs.length m).length : Int) != (heats.length : Int)) = false := by rw [spn_len, hl]; simp
 generalize hW : width (spn hs.length m) = W at *
 generalize hn : wrst hs ps cs ss c.1 c.2.1 = n at *
 have z0 : ((0 : Int) != 0) = false := rfl
 have z1 : ((6 : Int) != 0) = true := rfl
 have z2 : ((6 : Int) != 6) = false := rfl
 have z3 : ((6 : Int) == 0) = false := rfl
 have z4 : ((0 : Int) == 0) = true := rfl
 have d0 : decide (n < 0) = false := decide_eq_false (by omega)
 unfold f14
 rw [e0]
 simp only [andThen_some]
 rw [e45]
 simp only [andThen_some]
 rw [e3]
 simp only [andThen_some]
 rw [R3]
 by_cases hz : R.2.1 = 0
 ·have hRW : R.2.2 = W := by
   rcases s2 with s2 | ⟨p, a, p1, p2, p3, p4, _⟩
   ·rw [s2]
   ·rw [p4] at hz; simp only at hz; omega
  have d1 : decide (n < W) = false := decide_eq_false (by omega)
  rw [if_pos hz]
  simp only [andThen_some, q3, z0, z1, z2, z3, hne, if_true, Bool.false_eq_true, if_false, e56, k1, e4, d0, d1, e5, either_inr, known_ok]
 ·rcases s2 with s2 | ⟨p, a, p1, p2, p3, p4, p5', p6⟩
  ·rw [s2] at hz; exact absurd rfl hz
  ·have g1 : R.1 = (p : Int) := by rw [p4]
   have g2 : R.2.1 = a := by rw [p4]
   have g3 : R.2.2 = wrst hs ps cs ss (p : Int) a := by rw [p4]
   have e6 := f57_eq hs ps cs ss 50000 (by omega) v c5 (p : Int) a (by omega) (by omega) p2 (by omega)
   rw [← g3] at e6
   have p5'' : R.2.2 < W := by rw [g3]; exact p5'
   have m3 : (c.1.toNat < p ∨ (c.1.toNat = p ∧ c.2.1 < a)) → R.2.2 < n := fun hh => by
    have := p6 c.1.toNat c.2.1 (by omega) o3 (by omega) hh
    rw [hcp, hn, ← g3] at this
    exact this
   rw [if_neg hz, g1, g2]
   generalize R.2.2 = L at *
   have d1 : decide ((p : Int) < 0) = false := decide_eq_false (by omega)
   have d2 : decide ((p : Int) ≥ (heats.length : Int)) = false := decide_eq_false (by omega)
   have d3 : decide (a < 1) = false := decide_eq_false (by omega)
   have d4 : decide (a > 1000) = false := decide_eq_false (by omega)
   have d5 : (L != L) = false := by simp
   have d6 : decide (L ≥ W) = false := decide_eq_false (by omega)
   have d7 : decide (n < L) = false := decide_eq_false (by omega)
   simp only [andThen_some, q3, z0, z4, hne, if_true, Bool.false_eq_true, if_false, e56, e6, d1, d2, d3, d4, d5, d6, k1, e4, d0, d7]
   by_cases c1 : n = L
   ·have d8 : (n == L) = true := by simpa using c1
    have d9 : decide (c.1 < (p : Int)) = false := decide_eq_false fun hh => by
     have := m3 (.inl (by omega)); omega
    by_cases c2 : c.1 = (p : Int)
    ·have d10 : (c.1 == (p : Int)) = true := by simpa using c2
     have d11 : decide (c.2.1 < a) = false := decide_eq_false fun hh => by
      have := m3 (.inr ⟨by omega, hh⟩); omega
     simp only [d8, d9, d10, d11, if_true, Bool.false_eq_true, if_false, e5, andThen_some, either_inr, known_ok]
    ·have d10 : (c.1 == (p : Int)) = false := by simpa using c2
     simp only [d8, d9, d10, if_true, Bool.false_eq_true, if_false, e5, andThen_some, either_inr, known_ok]
   ·have d8 : (n == L) = false := by simpa using c1
    simp only [d8, if_true, Bool.false_eq_true, if_false, e5, andThen_some, either_inr, known_ok]
end Go.Pl
namespace Go.Proofs.Ytegckmajjklonaa
open Go.Pl in
theorem pure14 : Pure14 := fun x y h g => ⟨50000, Go.Pl.law14 _ _ _ _ _ _ (kiln_good x h).1 (kiln_good x h).2.1 (kiln_good x h).2.2.1 (kiln_good x h).2.2.2 (by_of g.1) (by_of g.2)⟩
theorem furnaceTried_holds : Rows.FurnaceTriedSaid := row14 pure14
end Go.Proofs.Ytegckmajjklonaa

