/- The law. FurnacePut: wares that Fill puts somewhere truly come out good there, and no list of places has more of them; at each of Turn its degrees the wares truly are good, and beyond either end not. No conditions. -/
import Derived.Test.YtegckmajjklonaaRows
import Derived.Test.YtegckmajjklonaaAlRow
import Derived.Test.YtegckmajjklonaaMx12L1
set_option linter.unusedVariables false
set_option linter.unusedSimpArgs false
namespace Go.Pl
open Go.Al Go.Proofs

/-- a way to go on -/
def OkS : List (List Int) → List Int → List Int → Prop
  | [], _, [] => True
  | c :: cs, acc, p :: s => p ∈ c ∧ (p = -1 ∨ ¬ p ∈ acc) ∧ OkS cs (acc ++ [p]) s
  | _, _, _ => False
theorem comps_iff (cs : List (List Int)) : ∀ acc x, x ∈ comps cs acc ↔ ∃ s, x = acc ++ s ∧ OkS cs acc s := by
  induction cs with
  | nil =>
    intro acc x
    simp only [comps, List.mem_singleton]
    constructor
    · rintro rfl; exact ⟨[], by simp, trivial⟩
    · rintro ⟨s, rfl, h⟩
      cases s with
      | nil => simp
      | cons p s => exact h.elim
  | cons c cs ih =>
    intro acc x
    show x ∈ c.flatMap (fun p => if p = -1 ∨ ¬ p ∈ acc then comps cs (acc ++ [p]) else []) ↔ _
    rw [List.mem_flatMap]
    constructor
    · rintro ⟨p, hp, hx⟩
      split at hx
      · rename_i hq
        obtain ⟨s, rfl, hs⟩ := (ih _ _).1 hx
        exact ⟨p :: s, by simp, hp, hq, hs⟩
      · simp at hx
    · rintro ⟨s, rfl, h⟩
      cases s with
      | nil => exact h.elim
      | cons p s =>
        obtain ⟨h1, h2, h3⟩ := h
        exact ⟨p, h1, by rw [if_pos h2]; exact (ih _ _).2 ⟨s, by simp, h3⟩⟩
theorem okS_len (cs : List (List Int)) : ∀ acc s, OkS cs acc s → s.length = cs.length := by
  induction cs with
  | nil => intro acc s h; cases s with
    | nil => rfl
    | cons p s => exact h.elim
  | cons c cs ih => intro acc s h; cases s with
    | nil => exact h.elim
    | cons p s => simp [ih _ _ h.2.2]
theorem okS_get (cs : List (List Int)) : ∀ acc s i, OkS cs acc s → i < s.length → s.getD i 0 ∈ cs.getD i [] ∧ (s.getD i 0 = -1 ∨ ¬ s.getD i 0 ∈ acc ++ s.take i) := by
  induction cs with
  | nil => intro acc s i h hi; cases s with
    | nil => exact absurd hi (Nat.not_lt_zero _)
    | cons p s => exact h.elim
  | cons c cs ih =>
    intro acc s i h hi
    cases s with
    | nil => exact h.elim
    | cons p s =>
      cases i with
      | zero => simpa using ⟨h.1, h.2.1⟩
      | succ i =>
        have := ih (acc ++ [p]) s i h.2.2 (by simpa using hi)
        simpa using this
theorem okS_snoc (cs : List (List Int)) (c : List Int) (p : Int) (hp : p ∈ c) : ∀ acc s, OkS cs acc s → (p = -1 ∨ ¬ p ∈ acc ++ s) → OkS (cs ++ [c]) acc (s ++ [p]) := by
  induction cs with
  | nil =>
    intro acc s h hq
    cases s with
    | nil => exact ⟨hp, by simpa using hq, trivial⟩
    | cons q s => exact h.elim
  | cons d cs ih =>
    intro acc s h hq
    cases s with
    | nil => exact h.elim
    | cons q s => exact ⟨h.1, h.2.1, ih (acc ++ [q]) s h.2.2 (by simpa using hq)⟩
theorem pick_max (l : List (List Int)) : ∀ b y, pick b l = some y → (b = some y ∨ y ∈ l) ∧ (∀ x ∈ l, putN x ≤ putN y) ∧ ∀ w, b = some w → putN w ≤ putN y := by
  induction l with
  | nil =>
    intro b y h
    exact ⟨.inl h, by simp, fun w hw => by rw [show b = some y from h] at hw; cases hw; exact Nat.le_refl _⟩
  | cons x l ih =>
    intro b y h
    obtain ⟨h1, h2, h3⟩ := ih (better b x) y h
    cases b with
    | none =>
      have hx := h3 x rfl
      refine ⟨.inr ?_, fun z hz => ?_, fun w hw => by cases hw⟩
      · rcases h1 with h1 | h1
        · have : x = y := by simpa [better] using h1
          subst this; simp
        · simp [h1]
      · rcases List.mem_cons.1 hz with rfl | hz
        · exact hx
        · exact h2 z hz
    | some u =>
      have hb : better (some u) x = if putN u < putN x then some x else some u := rfl
      rw [hb] at h1 h3
      by_cases c : putN u < putN x
      · rw [if_pos c] at h1 h3
        have hx := h3 x rfl
        refine ⟨.inr ?_, fun z hz => ?_, fun w hw => ?_⟩
        · rcases h1 with h1 | h1
          · have : x = y := by simpa using h1
            subst this; simp
          · simp [h1]
        · rcases List.mem_cons.1 hz with rfl | hz
          · exact hx
          · exact h2 z hz
        · have : u = w := by simpa using hw
          subst this; omega
      · rw [if_neg c] at h1 h3
        have hx := h3 u rfl
        refine ⟨?_, fun z hz => ?_, fun w hw => ?_⟩
        · rcases h1 with h1 | h1
          · exact .inl h1
          · exact .inr (by simp [h1])
        · rcases List.mem_cons.1 hz with rfl | hz
          · omega
          · exact h2 z hz
        · have : u = w := by simpa using hw
          subst this; exact hx
theorem pick_some (l : List (List Int)) : ∀ u, ∃ y, pick (some u) l = some y := by
  induction l with
  | nil => intro u; exact ⟨u, rfl⟩
  | cons x l ih =>
    intro u
    show ∃ y, pick (if putN u < putN x then some x else some u) l = some y
    split
    · exact ih x
    · exact ih u

/-- the places of the wares: marked by flags -/
def Flags (U : List Bool) (l : List Int) : Prop := U.length = 4 ∧ ∀ p : Nat, p < 4 → (U.getD p false = true ↔ (p : Int) ∈ l)
theorem flags_nil : Flags [false, false, false, false] [] := ⟨rfl, fun p hp => by
  have : p = 0 ∨ p = 1 ∨ p = 2 ∨ p = 3 := by omega
  rcases this with rfl | rfl | rfl | rfl <;> simp⟩
theorem getD_setB (U : List Bool) (a b : Nat) (x : Bool) : (U.set a x).getD b false = if a = b ∧ a < U.length then x else U.getD b false := getD_set U a b x false
theorem flags_set {U : List Bool} {l : List Int} (h : Flags U l) (p : Int) (h0 : 0 ≤ p) (h4 : p < 4) : Flags (U.set p.toNat true) (l ++ [p]) := by
  refine ⟨by rw [List.length_set]; exact h.1, fun q hq => ?_⟩
  rw [getD_setB, List.mem_append, List.mem_singleton, h.1]
  by_cases e : p.toNat = q
  · rw [if_pos ⟨e, by omega⟩]
    simp only [true_iff]; right; omega
  · rw [if_neg (by rintro ⟨e', _⟩; exact e e'), h.2 q hq]
    constructor
    · exact .inl
    · rintro (h | h)
      · exact h
      · omega
theorem flags_neg {U : List Bool} {l : List Int} (h : Flags U l) : Flags U (l ++ [-1]) := by
  refine ⟨h.1, fun q hq => ?_⟩
  rw [List.mem_append, List.mem_singleton, h.2 q hq]
  constructor
  · exact .inl
  · rintro (h | h)
    · exact h
    · omega

/-- one ware more -/
theorem put_step (N : Nat) (go : (List Int) → (List Int) → List Span → (List Int) → Int → List Span → Int → Int → Int → List Pr → Int → Int → List Bool → List Bool → Option (((Bool) ⊕ (List Int) × Int × List Span × Int × Int × List Pr × Int × Int)))
    (byl heats : List Int) (l : List Span) (y : List Int) (e : Int) (h : List Span) (put oth : Nat) (i : Nat) (st : List Pr) (a b : Int) (U V : List Bool)
    (hi : i < l.length) (hy : i < y.length) (hh : heats.length = h.length) (hn : 1 ≤ h.length) (hn4 : h.length ≤ 4) (hput : put < 100) (hoth : oth < 100) (hi5 : i < 100) (hb : ∀ x ∈ byl, By x) (yi : Int) (hyi : y.getD i 0 = yi) (w : Span) (hw : l.getD i (0, 0) = w)
    (ok : yi = -1 ∨ (0 ≤ yi ∧ yi < h.length ∧ U.getD yi.toNat false = false ∧ howN w (heats.getD yi.toNat 0) = 2)) :
    ∃ (c : Bool) (p : Int), 0 ≤ p ∧ p < h.length ∧ (c = true → V.getD p.toNat false = false ∧ goodS w (sp h p.toNat) = true) ∧
      f12l1B N go byl heats l y e h put oth i st a b U V = go byl heats l y e h (if 0 ≤ yi then ((put + 1 : Nat) : Int) else (put : Int)) (if c = true then ((oth + 1 : Nat) : Int) else (oth : Int)) ((i + 1 : Nat) : Int) st a b (if 0 ≤ yi then U.set yi.toNat true else U) (if c = true then V.set p.toNat true else V) := by
  have a1 : decide ((i : Int) < (l.length : Int)) = true := decide_eq_true (by omega)
  have a2 : decide ((i : Int) < (y.length : Int)) = true := decide_eq_true (by omega)
  have a3 : ((heats.length : Int) != 0) = true := by rw [bne_iff_ne]; omega
  have z1 : ∀ n : Nat, 0 + n * 1 = n := fun n => by omega
  have wp : Go.IntKind.wrap .i64 ((put : Int) + 1) = ((put + 1 : Nat) : Int) := w_succ (by omega)
  have wo : Go.IntKind.wrap .i64 ((oth : Int) + 1) = ((oth + 1 : Nat) : Int) := w_succ (by omega)
  have wi : Go.IntKind.wrap .i64 ((i : Int) + 1) = ((i + 1 : Nat) : Int) := w_succ (by omega)
  -- the other way
  have second : ∃ (c : Bool) (p : Int), 0 ≤ p ∧ p < h.length ∧ (c = true → V.getD p.toNat false = false ∧ goodS w (sp h p.toNat) = true) ∧
      ∀ (put' : Int) (U' : List Bool), (if decide ((i : Int) < (byl.length : Int)) = true then (if ((decide ((0 : Int) ≤ (i : Int))) && (decide ((i : Int) < (byl.length : Int)))) = true then (if ((heats.length : Int) != 0) = true then (if ((decide (0 ≤ (Int.tmod (Go.IntKind.wrap .i64 (byl.getD i 0)) (heats.length : Int)))) && (decide ((Int.tmod (Go.IntKind.wrap .i64 (byl.getD i 0)) (heats.length : Int)) < 4))) = true then (if (!(V.getD (Int.tmod (Go.IntKind.wrap .i64 (byl.getD i 0)) (heats.length : Int)).toNat false)) = true then
          (if ((decide (0 ≤ (Int.tmod (Go.IntKind.wrap .i64 (byl.getD i 0)) (heats.length : Int)))) && (decide ((Int.tmod (Go.IntKind.wrap .i64 (byl.getD i 0)) (heats.length : Int)) < (h.length : Int)))) = true then (if decide ((h.getD (Int.tmod (Go.IntKind.wrap .i64 (byl.getD i 0)) (heats.length : Int)).toNat (0, 0)).1 ≥ w.1) = true then (if ((decide (0 ≤ (Int.tmod (Go.IntKind.wrap .i64 (byl.getD i 0)) (heats.length : Int)))) && (decide ((Int.tmod (Go.IntKind.wrap .i64 (byl.getD i 0)) (heats.length : Int)) < (h.length : Int)))) = true then
            (if decide ((h.getD (Int.tmod (Go.IntKind.wrap .i64 (byl.getD i 0)) (heats.length : Int)).toNat (0, 0)).2 < w.2) = true then (if ((decide (0 ≤ (Int.tmod (Go.IntKind.wrap .i64 (byl.getD i 0)) (heats.length : Int)))) && (decide ((Int.tmod (Go.IntKind.wrap .i64 (byl.getD i 0)) (heats.length : Int)) < 4))) = true then go byl heats l y e h put' ((oth + 1 : Nat) : Int) ((i + 1 : Nat) : Int) st a b U' (V.set (Int.tmod (Go.IntKind.wrap .i64 (byl.getD i 0)) (heats.length : Int)).toNat true) else none)
              else go byl heats l y e h put' (oth : Int) ((i + 1 : Nat) : Int) st a b U' V) else none) else go byl heats l y e h put' (oth : Int) ((i + 1 : Nat) : Int) st a b U' V) else none) else go byl heats l y e h put' (oth : Int) ((i + 1 : Nat) : Int) st a b U' V) else none) else none) else none) else go byl heats l y e h put' (oth : Int) ((i + 1 : Nat) : Int) st a b U' V) =
        go byl heats l y e h put' (if c = true then ((oth + 1 : Nat) : Int) else (oth : Int)) ((i + 1 : Nat) : Int) st a b U' (if c = true then V.set p.toNat true else V) := by
    by_cases c : i < byl.length
    · have hv := hb _ (getD_mem (d := (0 : Int)) c)
      generalize byl.getD i 0 = v at hv ⊢
      obtain ⟨v1, v2⟩ := hv
      rw [w64_id (z := v) (by omega) (by omega)]
      have t := tm_lt (a := v) (b := (heats.length : Int)) v1 (by omega)
      generalize Int.tmod v (heats.length : Int) = p at t ⊢
      have b1 : decide ((i : Int) < (byl.length : Int)) = true := decide_eq_true (by omega)
      have b2 : decide (0 ≤ p) = true := decide_eq_true (by omega)
      have b3 : decide (p < 4) = true := decide_eq_true (by omega)
      have b4 : decide (p < (h.length : Int)) = true := decide_eq_true (by omega)
      refine ⟨!(V.getD p.toNat false) && goodS w (sp h p.toNat), p, t.1, by omega, fun hc => ?_, fun put' U' => ?_⟩
      · rw [Bool.and_eq_true] at hc
        exact ⟨by simpa using hc.1, hc.2⟩
      · simp only [b1, b2, b3, b4, a3, Int.natCast_nonneg, decide_true, Bool.and_true, if_true]
        unfold goodS sp
        by_cases c1 : V.getD p.toNat false = true
        · simp only [c1, Bool.not_true, Bool.false_and, Bool.false_eq_true, if_false]
        · rw [Bool.not_eq_true] at c1
          by_cases c2 : w.1 ≤ (h.getD p.toNat (0, 0)).1
          · by_cases c3 : (h.getD p.toNat (0, 0)).2 < w.2
            · simp only [c1, c2, c3, ge_iff_le, decide_true, Bool.not_false, Bool.and_true, if_true]
            · simp only [c1, c2, c3, ge_iff_le, decide_true, decide_false, Bool.not_false, Bool.and_true, Bool.and_false, if_true, Bool.false_eq_true, if_false]
          · simp only [c1, c2, ge_iff_le, decide_false, Bool.not_false, Bool.and_false, Bool.false_and, if_true, Bool.false_eq_true, if_false]
    · refine ⟨false, 0, Int.le_refl _, by omega, fun h => (by cases h), fun put' U' => ?_⟩
      have b1 : decide ((i : Int) < (byl.length : Int)) = false := decide_eq_false (by omega)
      simp only [b1, Bool.false_eq_true, if_false]
  obtain ⟨c, p, p1, p2, p3, p4⟩ := second
  refine ⟨c, p, p1, p2, p3, ?_⟩
  unfold f12l1B
  rcases ok with rfl | ⟨o1, o2, o3, o4⟩
  · have q := p4 (put : Int) U
    have d1 : decide ((-1 : Int) ≥ 0) = false := rfl
    rw [if_neg (show ¬ (0 : Int) ≤ -1 by decide), if_neg (show ¬ (0 : Int) ≤ -1 by decide), ← q]
    simp only [a1, a2, Int.natCast_nonneg, decide_true, Bool.and_true, if_true, Int.toNat_natCast, hyi, hw, d1, Bool.false_eq_true, if_false, show ((-1 : Int) != -1) = false from rfl, z1, wo, wi]
  · have q := p4 ((put + 1 : Nat) : Int) (U.set yi.toNat true)
    have d1 : decide (yi ≥ 0) = true := decide_eq_true (by omega)
    have d2 : decide (yi ≥ (heats.length : Int)) = false := decide_eq_false (by omega)
    have d3 : decide (0 ≤ yi) = true := decide_eq_true (by omega)
    have d4 : decide (yi < 4) = true := decide_eq_true (by omega)
    have d5 : decide (yi < (heats.length : Int)) = true := decide_eq_true (by omega)
    rw [if_pos o1, if_pos o1, ← q]
    simp only [a1, a2, Int.natCast_nonneg, decide_true, Bool.and_true, if_true, Int.toNat_natCast, hyi, hw, d1, d2, d3, d4, d5, Bool.false_eq_true, if_false, z1, o3, f54_eq, o4, andThen_some, show ((2 : Int) != 2) = false from rfl, wp, wo, wi]
end Go.Pl

namespace Go.Pl
open Go.Al Go.Proofs

theorem f74b_eq (N : Nat) (hs : List Span) (ps : List Pr) (cs : List Cn) (ss : List Sg) (ns : List Nt) (w : Span) (m : List Int) (hN : 100 ≤ N) (hn : hs.length ≤ 5) :
    f74b N hs ps cs ss ns w.1 w.2 (hts hs.length m) = some (filt (fun p => goodS w (sp (spn hs.length m) p)) hs.length, filt (fun p => goodP w (sp (spn hs.length m) p)) hs.length, w.1, w.2, hts hs.length m) := by
  generalize hG : (fun p => goodS w (sp (spn hs.length m) p)) = G
  generalize hH : (fun p => goodP w (sp (spn hs.length m) p)) = H
  obtain ⟨r, h1, h2⟩ := loop_run (fun q (i : Nat) => f74bl0 N q (filt G i) (filt H i) (hs.length : Int) (i : Int) w.1 w.2 (hts hs.length m)) (fun i => i ≤ hs.length) (fun i => hs.length - i)
    (fun r => r = (filt G hs.length, filt H hs.length, w.1, w.2, hts hs.length m)) (fun q i hi => by
      by_cases h : i < hs.length
      · right
        refine ⟨i + 1, h, by omega, ?_⟩
        show f74bl0B N (f74bl0 N q) (filt G i) (filt H i) (hs.length : Int) (i : Int) w.1 w.2 (hts hs.length m) = _
        unfold f74bl0B
        have e : f84 N (i : Int) w.1 w.2 (hts hs.length m) = some (G i, H i, w.1, w.2, hts hs.length m) := by
          unfold f84
          have := hts_get (m := m) h hn
          simp only [show ((i : Int) < 5) by omega, Int.natCast_nonneg, decide_true, Bool.and_true, if_true, Int.toNat_natCast]
          rw [this.1, this.2, ← hG, ← hH]
          have e := f76_eq N w (sp (spn hs.length m) i)
          rw [sp_spn h] at e
          simp only at e
          simp only [e, sp_spn h, andThen_some]
        have hg := filt_len G i
        have hh := filt_len H i
        have b1 : Nat.ble ((filt G i).length + [(i : Int)].length) boundLen = true := by simp [boundLen]; omega
        have b2 : Nat.ble ((filt H i).length + [(i : Int)].length) boundLen = true := by simp [boundLen]; omega
        simp only [show ((i : Int) < (hs.length : Int)) by omega, decide_true, if_true, e, andThen_some, w_succ (show i < 4611686018427387904 by omega), b1, b2]
        rw [filt_succ, filt_succ]
        cases G i <;> cases H i <;> rfl
      · left
        have : i = hs.length := by omega
        subst this
        refine ⟨_, ?_, rfl⟩
        show f74bl0B N (f74bl0 N q) (filt G hs.length) (filt H hs.length) (hs.length : Int) (hs.length : Int) w.1 w.2 (hts hs.length m) = _
        unfold f74bl0B
        rw [if_neg (by simp)]) N 0 (Nat.zero_le _) (by simp; omega)
  rw [h2] at h1
  unfold f74b
  have h1 : f74bl0 N N [] [] (hs.length : Int) 0 w.1 w.2 (hts hs.length m) = some (filt G hs.length, filt H hs.length, w.1, w.2, hts hs.length m) := h1
  rw [h1]; rfl

theorem f82_eq (N : Nat) (l : List Span) (hN : 100 ≤ N) (hn : l.length < 100) : f82 N l = some (!decide (∀ s ∈ l, okWr s)) := by
  unfold f82 f107
  rcases searchL l ((0 : Int), (0 : Int)) (fun s => !decide (okWr s)) (fun q i => f107l0 N q l (l.length : Int) (i : Int)) (fun i => .inl (i : Int)) (.inr ()) (fun q i hi => by
    show f107l0B N (f107l0 N q) l (l.length : Int) (i : Int) = _
    unfold f107l0B f83
    simp only [show ((i : Int) < (l.length : Int)) by omega, Int.natCast_nonneg, decide_true, Bool.and_true, if_true, Int.toNat_natCast, w_succ (show i < 4611686018427387904 by omega), f65_eq N _ hN, andThen_some]) (fun q => by
    show f107l0B N (f107l0 N q) l (l.length : Int) (l.length : Int) = _
    unfold f107l0B
    rw [if_neg (by simp)]) N (by omega) with ⟨i, hi', ha, hr⟩ | ⟨ha, hr⟩
  · have hr : f107l0 N N l (l.length : Int) 0 = some (.inl (i : Int)) := hr
    rw [hr, ← any_all, ha]; simp
  · have hr : f107l0 N N l (l.length : Int) 0 = some (.inr ()) := hr
    rw [hr, ← any_all, ha]; rfl

theorem f34l0_eq (N : Nat) (l : List Span) (hs : List Span) (ps : List Pr) (cs : List Cn) (ss : List Sg) (ns : List Nt) (m : List Int) (b : Bool × List Int) (x : Int) (hN : 100 ≤ N) (hn : hs.length ≤ 5) (hl : l.length ≤ 5) :
    f34l0 N N l (l.length : Int) 0 hs ps cs ss ns (hts hs.length m) [] b x = some (l.map (canOf (spn hs.length m) hs.length), b, x) := by
  obtain ⟨r, h1, h2⟩ := loop_run (fun q (i : Nat) => f34l0 N q l (l.length : Int) (i : Int) hs ps cs ss ns (hts hs.length m) ((l.take i).map (canOf (spn hs.length m) hs.length)) b x) (fun i => i ≤ l.length) (fun i => l.length - i)
    (fun r => r = (l.map (canOf (spn hs.length m) hs.length), b, x)) (fun q i hi => by
      by_cases h : i < l.length
      · right
        refine ⟨i + 1, h, by omega, ?_⟩
        show f34l0B N (f34l0 N q) l (l.length : Int) (i : Int) hs ps cs ss ns (hts hs.length m) ((l.take i).map (canOf (spn hs.length m) hs.length)) b x = _
        rw [take_get l (0, 0) h, List.map_append, List.map_cons, List.map_nil]
        generalize hz : l.getD i (0, 0) = w
        have hg := filt_len (fun p => goodS w (sp (spn hs.length m) p)) hs.length
        unfold f34l0B
        simp only [show ((i : Int) < (l.length : Int)) by omega, Int.natCast_nonneg, decide_true, Bool.and_true, if_true, Int.toNat_natCast, hz, f74b_eq N hs ps cs ss ns w m hN hn, andThen_some, w_succ (show i < 4611686018427387904 by omega)]
        rw [if_pos (by rw [Nat.ble_eq]; unfold boundLen; simp; omega), if_pos (by rw [Nat.ble_eq]; unfold boundLen; simp; omega)]
        rfl
      · left
        have : i = l.length := by omega
        subst this
        refine ⟨_, ?_, rfl⟩
        rw [List.take_length]
        show f34l0B N (f34l0 N q) l (l.length : Int) (l.length : Int) hs ps cs ss ns (hts hs.length m) _ b x = _
        unfold f34l0B
        rw [if_neg (by simp)]) N 0 (Nat.zero_le _) (by simp; omega)
  rw [h2] at h1
  exact h1

/-- the filler, from the start -/
theorem on_start (N : Nat) (can : List (List Int)) (hN : 100 ≤ N) (h5 : can.length ≤ 5) (hc : ∀ c ∈ can, c.length ≤ 6 ∧ ∀ p ∈ c, p = -1 ∨ 0 ≤ p) (y : List Int) (hy : pick none (comps can []) = some y) :
    ∃ f n, f85 N N (true, []) 0 can (true, []) 0 = some (can, (f, y), n) := by
  rcases Nat.eq_zero_or_pos can.length with h0 | h0
  · have : can = [] := List.eq_nil_of_length_eq_zero h0
    subst this
    have : y = [] := by simpa [comps, pick, better] using hy.symm
    subst this
    obtain ⟨K, rfl⟩ : ∃ K, N = K + 1 := ⟨N - 1, by omega⟩
    refine ⟨true, 0, ?_⟩
    show f85B (K + 1) (f85 (K + 1) K) (true, []) 0 [] (true, []) 0 = _
    rfl
  · have := on_eq N can hN h0 h5 hc can.length N [] true none (by simp) (by omega) (fun h => absurd h (by simp; omega))
    rw [List.length_nil, List.drop_zero, hy] at this
    exact ⟨_, _, this⟩

theorem f34_bad (N : Nat) (hs : List Span) (ps : List Pr) (cs : List Cn) (ss : List Sg) (l : List Span) (hN : 100 ≤ N) (h1 : hs.length < 100) (h2 : ps.length < 100) (h3 : cs.length < 100) (h4 : ss.length < 100) (hc : chk hs ps cs ss ≠ 0) :
    f34 N hs ps cs ss l = some ([], chk hs ps cs ss) := by
  unfold f34
  rw [f70_bad N hs ps cs ss hN h1 h2 h3 h4 hc, andThen_some]
  simp only
  rw [if_pos (by simpa using hc)]
theorem f34_no (N : Nat) (hs : List Span) (ps : List Pr) (cs : List Cn) (ss : List Sg) (l : List Span) (hN : 1000 ≤ N) (v : Valid hs ps cs ss) (ht : ¬ ∃ t, TruthO hs ps cs ss t) : f34 N hs ps cs ss l = some ([], 9) := by
  obtain ⟨m, ok, e1, e2, e3⟩ := f70_eq N hs ps cs ss hN v
  have : ok = false := by
    cases ok with
    | false => rfl
    | true => exact absurd (e2.1 rfl) ht
  subst this
  unfold f34
  rw [e1, andThen_some]
  rfl
theorem f34_yes (N : Nat) (hs : List Span) (ps : List Pr) (cs : List Cn) (ss : List Sg) (l : List Span) (hN : 1000 ≤ N) (v : Valid hs ps cs ss) (hl : l.length ≤ 12) {m : List Int} (hm : f70 N hs ps cs ss = some (hs, ps, cs, ss, nts cs ss, m, 0)) (hh : f71 N hs ps cs ss (nts cs ss) m = some (hts hs.length m)) :
    (5 < l.length → f34 N hs ps cs ss l = some ([], 5)) ∧ (l.length ≤ 5 → ¬ (∀ s ∈ l, okWr s) → f34 N hs ps cs ss l = some ([], 2)) ∧
    (l.length ≤ 5 → (∀ s ∈ l, okWr s) → ∀ y, pick none (comps (l.map (canOf (spn hs.length m) hs.length)) []) = some y → f34 N hs ps cs ss l = some (y, 0)) := by
  have n5 := v.n5
  unfold f34
  rw [hm, andThen_some]
  simp only
  rw [if_neg (by decide)]
  refine ⟨fun h => ?_, fun h hb => ?_, fun h hb y hy => ?_⟩
  · rw [if_pos (by simp; omega)]
  · rw [if_neg (by simp; omega), f82_eq N l (by omega) (by omega), andThen_some, if_pos (by rw [decide_eq_false hb]; rfl)]
  · rw [if_neg (by simp; omega), f82_eq N l (by omega) (by omega), andThen_some, if_neg (by rw [decide_eq_true hb]; decide), hh, andThen_some, f34l0_eq N l hs ps cs ss (nts cs ss) m _ _ (by omega) n5 h, andThen_some]
    obtain ⟨f, n, e⟩ := on_start N (l.map (canOf (spn hs.length m) hs.length)) (by omega) (by simpa using h) (fun c hc => by
      rw [List.mem_map] at hc
      obtain ⟨w, _, rfl⟩ := hc
      have := canOf_len (spn hs.length m) hs.length w
      exact ⟨by omega, canOf_ok _ _ _⟩) y hy
    simp only
    rw [e]
    rfl
end Go.Pl

namespace Go.Pl
open Go.Al Go.Proofs

theorem f36_bad (N : Nat) (hs : List Span) (ps : List Pr) (cs : List Cn) (ss : List Sg) (l : List Set') (hN : 100 ≤ N) (h1 : hs.length < 100) (h2 : ps.length < 100) (h3 : cs.length < 100) (h4 : ss.length < 100) (hc : chk hs ps cs ss ≠ 0) :
    f36 N hs ps cs ss l = some (0, 0, chk hs ps cs ss) := by
  unfold f36
  rw [f70_bad N hs ps cs ss hN h1 h2 h3 h4 hc, andThen_some]
  simp only
  rw [if_pos (by simpa using hc)]
theorem f36_no (N : Nat) (hs : List Span) (ps : List Pr) (cs : List Cn) (ss : List Sg) (l : List Set') (hN : 1000 ≤ N) (v : Valid hs ps cs ss) (ht : ¬ ∃ t, TruthO hs ps cs ss t) : f36 N hs ps cs ss l = some (0, 0, 9) := by
  obtain ⟨m, ok, e1, e2, e3⟩ := f70_eq N hs ps cs ss hN v
  have : ok = false := by
    cases ok with
    | false => rfl
    | true => exact absurd (e2.1 rfl) ht
  subst this
  unfold f36
  rw [e1, andThen_some]
  rfl
theorem f36_yes (N : Nat) (hs : List Span) (ps : List Pr) (cs : List Cn) (ss : List Sg) (l : List Set') (hN : 1000 ≤ N) (v : Valid hs ps cs ss) (hl : l.length ≤ 12) {m : List Int} (hm : f70 N hs ps cs ss = some (hs, ps, cs, ss, nts cs ss, m, 0)) (hh : f71 N hs ps cs ss (nts cs ss) m = some (hts hs.length m))
    (ht : Tight hs.length m (TruthO hs ps cs ss)) :
    (5 < l.length → f36 N hs ps cs ss l = some (0, 0, 5)) ∧ (l.length ≤ 5 → ¬ (∀ s ∈ l, okSet hs.length s) → f36 N hs ps cs ss l = some (0, 0, 2)) ∧
    (l.length ≤ 5 → (∀ s ∈ l, okSet hs.length s) → ∃ lo hi, Turns (spn hs.length m) l lo hi ∧ f36 N hs ps cs ss l = some (if lo ≤ hi then (lo, hi, 0) else (0, 0, 7))) := by
  have n5 := v.n5
  unfold f36
  rw [hm, andThen_some]
  simp only
  rw [if_neg (by decide), f89_eq N l hs ps cs ss (nts cs ss) (by omega) (by omega) (by omega), andThen_some]
  refine ⟨fun h => ?_, fun h hb => ?_, fun h hb => ?_⟩
  · rw [if_pos (by simp; omega)]
  · rw [if_neg (by simp; omega)]
    simp only
    rw [if_pos (by rw [decide_eq_false hb]; rfl)]
  · rw [if_neg (by simp; omega)]
    simp only
    rw [if_neg (by rw [decide_eq_true hb]; decide), hh, andThen_some]
    obtain ⟨lo, hi, e1, e2⟩ := f36l0_eq N l 0 0 hs.length m (by omega) hl n5 hb fun p hp => by
      have a := tight_bd ht rfl n5 v.h p 5 (.inl hp) (.inr rfl)
      have b := tight_bd ht rfl n5 v.h 5 p (.inr rfl) (.inl hp)
      omega
    refine ⟨lo, hi, e2, ?_⟩
    rw [e1, andThen_some]
    simp only
    by_cases c : lo ≤ hi
    · rw [if_neg (by simp; omega), if_pos c]
    · rw [if_pos (by simp; omega), if_neg c]
end Go.Pl

namespace Go.Proofs.Ytegckmajjklonaa
open Go.ChangeShapes Go.WideShapes Go.ChangeAt Go.RowKit Go.Al
theorem own : ownKnob Try.prog.godebug = none := by kernel_rfl
theorem laidOut : laidOutB Try.prog = true := by kernel_rfl
abbrev Two : Ty := .pair (.int .i64) (.int .i64)
abbrev Three : Ty := .pair (.int .i64) Two
abbrev Oven : Ty := .pair (.list Two) (.pair (.list Three) (.pair (.list (.pair (.int .i64) (.pair (.int .i64) .bool))) (.list (.pair (.int .i64) (.pair Two (.int .i64))))))
abbrev Two8 : Ty := .pair (.int .u8) (.int .u8)
abbrev Three8 : Ty := .pair (.int .u8) Two8
abbrev Four8 : Ty := .pair (.int .u8) Three8
abbrev Kiln : Ty := .pair (.list Three8) (.pair (.list Three8) (.pair (.list Two8) (.list Three8)))
end Go.Proofs.Ytegckmajjklonaa

namespace Go.Pl
open Go.Al Go.Proofs

theorem how_note {n : Nat} {s : Sg} {u : Int} (h : okSg n s) (ht : NoteT (.inr s) u) : howN s.2.1 u = s.2.2 := by
  obtain ⟨_, _, ⟨a, b, c⟩, d, e⟩ := h
  have ht : if s.2.2 = 3 then s.2.1.2 ≤ u else if s.2.2 = 2 then s.2.1.1 ≤ u ∧ u ≤ s.2.1.2 - 1 else u ≤ s.2.1.1 - 1 := ht
  unfold howN
  by_cases h3 : s.2.2 = 3
  · rw [if_pos h3] at ht
    rw [if_neg (by omega), if_neg (by omega), h3]
  · rw [if_neg h3] at ht
    by_cases h2 : s.2.2 = 2
    · rw [if_pos h2] at ht
      rw [if_neg (by omega), if_pos (by omega), h2]
    · rw [if_neg h2] at ht
      rw [if_pos (by omega)]; omega

section
variable (hs : List Span) (ps : List Pr) (cs : List Cn) (ss : List Sg)
theorem f46_eq (N : Nat) (hN : 100 ≤ N) (v : Valid hs ps cs ss) (l : List Int) (hl : l.length = hs.length) (ht : TruthO hs ps cs ss (tt l)) : f46 N hs ps cs ss l = some true := by
  have n5 := v.n5
  have p8 := v.p8
  have c6 := v.c6
  have s4 := v.s4
  have hb : ∀ p, p < hs.length → 0 ≤ tt l p ∧ tt l p ≤ 1000 := fun p hp => box_deg v.h ht.1 p hp
  have e0 : f46l0 N N l 0 hs ps cs ss = some (.inr (l, hs, ps, cs, ss)) := loop_all (fun q i => f46l0 N q l (i : Int) hs ps cs ss) l.length _ (fun q i hi => by
    show f46l0B N (f46l0 N q) l (i : Int) hs ps cs ss = _
    have := ht.1 i (by omega)
    unfold tt sp at this
    unfold f46l0B
    simp only [show decide ((i : Int) < (l.length : Int)) = true from decide_eq_true (by omega), show decide ((i : Int) < (hs.length : Int)) = true from decide_eq_true (by omega), Int.natCast_nonneg, decide_true, Bool.and_true, if_true, Int.toNat_natCast, w_succ (show i < 4611686018427387904 by omega)]
    rw [if_pos (decide_eq_false (by omega)), if_neg (by rw [decide_eq_false (by omega)]; decide)]) (fun q => by
    show f46l0B N (f46l0 N q) l (l.length : Int) hs ps cs ss = _
    unfold f46l0B
    rw [if_neg (by simp)]) N (by omega)
  have e1 : f46l1 N N l 0 hs ps cs ss = some (.inr (l, hs, ps, cs, ss)) := loop_all (fun q i => f46l1 N q l (i : Int) hs ps cs ss) ps.length _ (fun q i hi => by
    show f46l1B N (f46l1 N q) l (i : Int) hs ps cs ss = _
    have hm : ps.getD i ((0 : Int), ((0 : Int), (0 : Int))) ∈ ps := getD_mem hi
    have hk := v.p _ hm
    have hq := ht.2.1 _ hm
    generalize hz : ps.getD i ((0 : Int), ((0 : Int), (0 : Int))) = z at *
    unfold f46l1B
    simp only [show decide ((i : Int) < (ps.length : Int)) = true from decide_eq_true (by omega), Int.natCast_nonneg, decide_true, Bool.and_true, if_true, Int.toNat_natCast, w_succ (show i < 4611686018427387904 by omega), hz]
    obtain ⟨k1, k2, k3, k4, k5, k6, k7⟩ := hk
    have b1 := hb z.1.toNat (by omega)
    have b2 := hb z.2.1.toNat (by omega)
    unfold tt at b1 b2 hq
    rw [w64_id (z := l.getD z.1.toNat 0 - l.getD z.2.1.toNat 0) (by omega) (by omega), w64_id (by omega) (by omega)]
    simp only [show decide (0 ≤ z.1) = true from decide_eq_true k1, show decide (z.1 < (l.length : Int)) = true from decide_eq_true (by omega), show decide (0 ≤ z.2.1) = true from decide_eq_true k3, show decide (z.2.1 < (l.length : Int)) = true from decide_eq_true (by omega), Bool.and_true, if_true]
    rw [if_neg (by rw [decide_eq_false (by split <;> omega)]; decide)]) (fun q => by
    show f46l1B N (f46l1 N q) l (ps.length : Int) hs ps cs ss = _
    unfold f46l1B
    rw [if_neg (by simp)]) N (by omega)
  have e2 : f46l2 N N l 0 hs ps cs ss = some (.inr (l, hs, ps, cs, ss)) := loop_all (fun q i => f46l2 N q l (i : Int) hs ps cs ss) cs.length _ (fun q i hi => by
    show f46l2B N (f46l2 N q) l (i : Int) hs ps cs ss = _
    have hm : cs.getD i ((0 : Int), ((0 : Int), false)) ∈ cs := getD_mem hi
    have hk := v.c _ hm
    have hq := ht.2.2 (.inl (cs.getD i ((0 : Int), ((0 : Int), false)))) (by unfold nts; exact List.mem_append_left _ (List.mem_map_of_mem hm))
    generalize hz : cs.getD i ((0 : Int), ((0 : Int), false)) = z at *
    unfold f46l2B
    simp only [show decide ((i : Int) < (cs.length : Int)) = true from decide_eq_true (by omega), Int.natCast_nonneg, decide_true, Bool.and_true, if_true, Int.toNat_natCast, w_succ (show i < 4611686018427387904 by omega), hz]
    obtain ⟨k1, k2, k3, k4⟩ := hk
    simp only [show decide (0 ≤ z.1) = true from decide_eq_true k1, show decide (z.1 < (l.length : Int)) = true from decide_eq_true (by omega), Bool.and_true, if_true]
    have e : (z.2.2 == decide (l.getD z.1.toNat 0 ≥ z.2.1)) = true := by
      unfold NoteOk NoteT plc tt at hq
      simp only at hq
      cases hy : z.2.2 with
      | true => rw [hy, if_pos rfl] at hq; rw [decide_eq_true (show l.getD z.1.toNat 0 ≥ z.2.1 from hq)]; rfl
      | false => rw [hy, if_neg (by decide)] at hq; rw [decide_eq_false (by omega)]; rfl
    rw [e]
    rfl) (fun q => by
    show f46l2B N (f46l2 N q) l (cs.length : Int) hs ps cs ss = _
    unfold f46l2B
    rw [if_neg (by simp)]) N (by omega)
  have e3 : f46l3 N N l 0 hs ps cs ss = some (.inr ()) := loop_all (fun q i => f46l3 N q l (i : Int) hs ps cs ss) ss.length _ (fun q i hi => by
    show f46l3B N (f46l3 N q) l (i : Int) hs ps cs ss = _
    have hm : ss.getD i ((0 : Int), (((0 : Int), (0 : Int)), (0 : Int))) ∈ ss := getD_mem hi
    have hk := v.s _ hm
    have hq := ht.2.2 (.inr (ss.getD i ((0 : Int), (((0 : Int), (0 : Int)), (0 : Int))))) (by unfold nts; exact List.mem_append_right _ (List.mem_map_of_mem hm))
    generalize hz : ss.getD i ((0 : Int), (((0 : Int), (0 : Int)), (0 : Int))) = z at *
    unfold f46l3B
    simp only [show decide ((i : Int) < (ss.length : Int)) = true from decide_eq_true (by omega), Int.natCast_nonneg, decide_true, Bool.and_true, if_true, Int.toNat_natCast, w_succ (show i < 4611686018427387904 by omega), hz]
    have hw := how_note hk hq
    obtain ⟨k1, k2, k3, k4, k5⟩ := hk
    simp only [show decide (0 ≤ z.1) = true from decide_eq_true k1, show decide (z.1 < (l.length : Int)) = true from decide_eq_true (by omega), Bool.and_true, if_true, f54_eq, andThen_some]
    have hw : howN z.2.1 (l.getD z.1.toNat 0) = z.2.2 := hw
    rw [hw, if_neg (by simp)]) (fun q => by
    show f46l3B N (f46l3 N q) l (ss.length : Int) hs ps cs ss = _
    unfold f46l3B
    rw [if_neg (by simp)]) N (by omega)
  unfold f46
  rw [e0]
  simp only [andThen_some, either_inr]
  rw [e1]
  simp only [andThen_some, either_inr]
  rw [e2]
  simp only [andThen_some, either_inr]
  rw [e3]
  rfl
end

/-- the least heats, or the greatest ones -/
def endsL (o : List Span) (b : Bool) : List Int := o.map fun s => if b = true then s.2 else s.1
theorem endsL_len (o : List Span) (b : Bool) : (endsL o b).length = o.length := by simp [endsL]
theorem f47_eq (N : Nat) (o : List Span) (b : Bool) (hN : 100 ≤ N) (hn : o.length ≤ 5) : f47 N o b = some (endsL o b) := by
  unfold endsL
  obtain ⟨r, h1, h2⟩ := loop_run (fun q (i : Nat) => f47l0 N q o b ((o.take i).map fun s => if b = true then s.2 else s.1) (i : Int)) (fun i => i ≤ o.length) (fun i => o.length - i) (fun r => r = o.map fun s => if b = true then s.2 else s.1) (fun q i hi => by
    by_cases h : i < o.length
    · right
      refine ⟨i + 1, h, by omega, ?_⟩
      show f47l0B N (f47l0 N q) o b ((o.take i).map fun s => if b = true then s.2 else s.1) (i : Int) = _
      rw [take_get o (0, 0) h, List.map_append, List.map_cons, List.map_nil]
      unfold f47l0B
      simp only [show decide ((i : Int) < (o.length : Int)) = true from decide_eq_true (by omega), Int.natCast_nonneg, decide_true, Bool.and_true, if_true, Int.toNat_natCast, w_succ (show i < 4611686018427387904 by omega)]
      cases b
      · rw [if_neg (by decide), if_pos (by simp [boundLen]; omega), if_neg (by decide)]
      · rw [if_pos rfl, if_pos (by simp [boundLen]; omega), if_pos rfl]
    · left
      have : i = o.length := by omega
      subst this
      refine ⟨_, ?_, rfl⟩
      rw [List.take_length]
      show f47l0B N (f47l0 N q) o b _ (o.length : Int) = _
      unfold f47l0B
      rw [if_neg (by simp)]) N 0 (Nat.zero_le _) (by omega)
  rw [h2] at h1
  unfold f47
  have h1 : f47l0 N N o b [] 0 = some (o.map fun s => if b = true then s.2 else s.1) := h1
  rw [h1]; rfl
theorem tt_map {o : List Span} {p : Nat} (b : Bool) (hp : p < o.length) : tt (endsL o b) p = if b = true then (sp o p).2 else (sp o p).1 := by
  unfold tt sp endsL
  rw [List.getD_eq_getElem?_getD, List.getElem?_map, List.getElem?_eq_getElem hp, List.getD_eq_getElem?_getD, List.getElem?_eq_getElem hp]
  rfl
theorem f48_eq (N : Nat) (x a b : Int) : f48 N x a b = some (decide (a ≤ x ∧ x ≤ b)) := by
  unfold f48
  by_cases h1 : a ≤ x
  · rw [if_pos (decide_eq_true h1)]
    simp [h1]
  · rw [if_neg (by rw [decide_eq_false h1]; decide)]
    simp [h1]

theorem zt_at {t : Nat → Int} {a : Nat} (h : a ≠ 5) : zt t a = t a := if_neg h
/-- what follows of the differences -/
theorem tri {n : Nat} {m : List Int} {T : (Nat → Int) → Prop} (h : Tight n m T) {a b c : Nat} (ha : a < n ∨ a = 5) (hb : b < n ∨ b = 5) (hc : c < n ∨ c = 5) : ent m a c ≤ ent m a b + ent m b c := by
  obtain ⟨t, ht, e⟩ := h.att a c ha hc
  have h1 := h.up t ht a b ha hb
  have h2 := h.up t ht b c hb hc
  omega
theorem mem_filt {P : Nat → Bool} {n a : Nat} (ha : a < n) : (a : Int) ∈ filt P n ↔ P a = true := by
  unfold filt
  rw [List.mem_map]
  constructor
  · rintro ⟨j, hj, e⟩
    rw [List.mem_filter] at hj
    have : j = a := by omega
    subst this; exact hj.2
  · intro h
    exact ⟨a, by rw [List.mem_filter, List.mem_range]; exact ⟨ha, h⟩, rfl⟩
end Go.Pl
namespace Go.Proofs.Ytegckmajjklonaa
open Go.Pl in
theorem kiln_good (x : Go.Al.den Kiln) (h : Go.Al.GoodD Kiln x) : (∀ v ∈ x.1, By3 v) ∧ (∀ v ∈ x.2.1, By3 v) ∧ (∀ v ∈ x.2.2.1, By2 v) ∧ (∀ v ∈ x.2.2.2, By3 v) := by
  obtain ⟨⟨_, a⟩, ⟨_, b⟩, ⟨_, c⟩, ⟨_, d⟩⟩ := h
  exact ⟨fun v hv => ⟨by_of (a v hv).1, by_of (a v hv).2.1, by_of (a v hv).2.2⟩, fun v hv => ⟨by_of (b v hv).1, by_of (b v hv).2.1, by_of (b v hv).2.2⟩, fun v hv => ⟨by_of (c v hv).1, by_of (c v hv).2⟩, fun v hv => ⟨by_of (d v hv).1, by_of (d v hv).2.1, by_of (d v hv).2.2⟩⟩
end Go.Proofs.Ytegckmajjklonaa

namespace Go.Pl
open Go.Proofs
theorem known_ok : f16 50000 = some true := by kernel_rfl
end Go.Pl

namespace Go.Proofs.Ytegckmajjklonaa
open Go.ChangeShapes Go.WideShapes Go.ChangeAt Go.RowKit Go.Al
/-- the plain statement of Put -/
def Pure12 : Prop := ∀ (x0 : den Kiln) (x1 : den (.list Two8)) (x2 : den (.list (.int .u8))), GoodD Kiln x0 → GoodD (.list Two8) x1 → GoodD (.list (.int .u8)) x2 → ∃ N, f12 N x0.1 x0.2.1 x0.2.2.1 x0.2.2.2 x1 x2 = some true
set_option maxRecDepth 100000 in
theorem lifted12 (pure : Pure12) (os : Os) (started : os.Started) (H : Type) (enc : TypeId × Value → H) :
    ReturnsInHanded {} Try.checked os 12 .any (Rows.furnacePutSpec.pre6 enc Try.prog Try.f12 Rows.furnacePutRow.domain false) (Rows.furnacePutSpec.post enc Try.prog Try.f12 false true false false) := by
  refine returnsInHanded_of_change (C := Try.checked) own started (by kernel_rfl) Try.func12
    (ChangeSpec.witness6 (enc := enc) (C := Try.checked) false ⟨#[], #[.agg #[.slice none 0 0, .slice none 0 0, .slice none 0 0, .slice none 0 0], .slice none 0 0, .slice none 0 0], []⟩ 8 (by kernel_rfl) (by kernel_rfl) (by kernel_rfl) (by kernel_rfl)) ?_
  intro W base args ds gs before hval0 hW hcnd _
  have hval : ∀ (j : Nat) t v, Try.f12.params[j]? = some t → args[j]? = some v → Value.okWide Try.prog W .any base t v := hval0
  have hW' := hW
  obtain ⟨p, q, hA0, hV, rfl, hfz, hnd⟩ := hW
  have hA : DataW.TrodAll enc Try.prog W 0 (fun _ => true) true Try.f12.params.toList args.toList ds p := hA0
  rw [show Try.f12.params.toList = [80, 78, 102] by kernel_rfl] at hA
  obtain ⟨v0, vs0, d0, ds0, p0, q0, hargs, rfl, rfl, h0, r0⟩ := trodAll_cons hA
  obtain ⟨v1, vs1, d1, ds1, p1, q1, rfl, rfl, rfl, h1, r1⟩ := trodAll_cons r0
  obtain ⟨v2, vs2, d2, ds2, p2, q2, rfl, rfl, rfl, h2, r2⟩ := trodAll_cons r1
  obtain ⟨rfl, rfl, rfl⟩ := trodAll_nil r2
  obtain rfl : args = #[v0, v1, v2] := by cases args; simp_all
  obtain ⟨rfl, rfl⟩ := trodVars_none hV
  obtain ⟨x0, g0, c0⟩ := arg_agg (ω := fun _ => 0) (by kernel_rfl) 20 Kiln (by kernel_rfl) (hval 0 80 v0 (by kernel_rfl) rfl) h0
  obtain ⟨x1, g1, c1⟩ := arg_slice (ω := fun _ => 0) (by kernel_rfl) 20 Two8 (by kernel_rfl) (hval 1 78 v1 (by kernel_rfl) rfl) h1
  obtain ⟨x2, g2, c2⟩ := arg_slice (ω := fun _ => 0) (by kernel_rfl) 20 (.int .u8) (by kernel_rfl) (hval 2 102 v2 (by kernel_rfl) rfl) h2
  obtain ⟨N, hN⟩ := pure x0 x1 x2 g0 g1 g2
  have key := law_calls (W := W) (f12ok N) (by kernel_rfl) (ins := [.agg (cellsT Kiln x0), .one (.sl Two8 x1 none false), .one (.sl (.int .u8) x2 none false)]) (cargs := [v0, v1, v2]) (mres := [])
    (show andThen (f12 N x0.1 x0.2.1 x0.2.2.1 x0.2.2.2 x1 x2) (fun y => some (AV.a (.one (.bool y)), ([] : Mem))) = _ by rw [hN]; rfl) (.cons c0 (.cons c1 (.cons c2 .nil)))
  refine key.mono fun e W' ⟨he, bel⟩ => ?_
  subst he
  exact ⟨_, rfl, _, _, _, [], _, [], hW', trodAll_mk1 (shut_bool (by kernel_rfl) _), (trodAll_cons_mk (bel.trod laidOut (by kernel_rfl) (of_decide_eq_true (by kernel_rfl)) h0) (trodAll_cons_mk (bel.trod laidOut (by kernel_rfl) (of_decide_eq_true (by kernel_rfl)) h1) (trodAll_cons_mk (bel.trod laidOut (by kernel_rfl) (of_decide_eq_true (by kernel_rfl)) h2) trodAll_mk0))), rfl, bel.frame _, fun h => by cases h⟩
theorem row12 (pure : Pure12) : Rows.FurnacePutSaid :=
  OpenClaim.holds_of_wide 12 Try.f12 rfl rfl rfl rfl rfl rfl rfl ⟨rfl, rfl, rfl, rfl, rfl⟩ rfl rfl rfl rfl rfl (by kernel_rfl) Try.func12 (by kernel_rfl)
    (of_decide_eq_true (by kernel_rfl)) (by unfold Func.isWrapper; first | (rw [if_pos (by decide +kernel)]; kernel_rfl) | (rw [if_neg (by decide +kernel)]; exact ⟨rfl, rfl⟩))
    (fun os started H enc _ => lifted12 pure os started H enc)
end Go.Proofs.Ytegckmajjklonaa

namespace Go.Pl
open Go.Al Go.Proofs

theorem canOf_mem {h : List Span} {n : Nat} {w : Span} {p : Int} (hp : p ∈ canOf h n w) : p = -1 ∨ (0 ≤ p ∧ p < n ∧ goodS w (sp h p.toNat) = true) := by
  unfold canOf at hp
  rw [List.mem_append] at hp
  rcases hp with hp | hp
  · left; simpa using hp
  · right
    unfold filt at hp
    rw [List.mem_map] at hp
    obtain ⟨j, hj, rfl⟩ := hp
    rw [List.mem_filter, List.mem_range] at hj
    refine ⟨by omega, by omega, ?_⟩
    rw [Int.toNat_natCast]; exact hj.2
theorem mem_canOf {h : List Span} {n : Nat} {w : Span} {p : Int} (h0 : 0 ≤ p) (hn : p < n) (hg : goodS w (sp h p.toNat) = true) : p ∈ canOf h n w := by
  unfold canOf
  rw [List.mem_append]
  right
  obtain ⟨j, rfl⟩ : ∃ j : Nat, p = (j : Int) := ⟨p.toNat, by omega⟩
  rw [Int.toNat_natCast] at hg
  exact (mem_filt (by omega)).2 hg

section
variable (hs : List Span) (ps : List Pr) (cs : List Cn) (ss : List Sg)
theorem f12l0_eq (N : Nat) (hN : 100 ≤ N) (wl : L2) (hb : ∀ v ∈ wl, By2 v) (byl heats : List Int) (n : Nat) (hn : 1 ≤ n) (hn4 : n ≤ 4) (hl : heats.length = n) :
    ∃ (l : List Span) (st : List Set'), l.length ≤ 5 ∧ st.length ≤ 5 ∧ (∀ w ∈ l, okWr w) ∧ (∀ s ∈ st, okSet n s) ∧ f12l0 N N wl byl heats [] 0 hs ps cs ss [] = some (byl, heats, l, hs, ps, cs, ss, st) := by
  obtain ⟨r, g1, l, st, g2, g3, g4, g5, g6⟩ := loop_run (fun q (s : Nat × List Span × List Set') => f12l0 N q wl byl heats s.2.1 (s.1 : Int) hs ps cs ss s.2.2)
    (fun s => s.1 ≤ 5 ∧ s.2.1.length ≤ s.1 ∧ s.2.2.length ≤ s.1 ∧ (∀ w ∈ s.2.1, okWr w) ∧ (∀ x ∈ s.2.2, okSet n x)) (fun s => 5 - s.1)
    (fun r => ∃ (l : List Span) (st : List Set'), l.length ≤ 5 ∧ st.length ≤ 5 ∧ (∀ w ∈ l, okWr w) ∧ (∀ s ∈ st, okSet n s) ∧ r = (byl, heats, l, hs, ps, cs, ss, st)) (by
      rintro q ⟨i, l, st⟩ ⟨i1, i2, i3, i4, i5⟩
      simp only at i1 i2 i3 i4 i5 ⊢
      by_cases hi : i < wl.length ∧ i < 5
      · right
        obtain ⟨c1, c2⟩ := hi
        have hv := hb _ (getD_mem (d := ((0 : Int), (0 : Int))) c1)
        generalize hz : wl.getD i ((0 : Int), (0 : Int)) = z at hv
        obtain ⟨⟨a1, a2⟩, ⟨a3, a4⟩⟩ := hv
        have t := tm_lt (a := z.2) (b := (heats.length : Int)) a3 (by omega)
        have w1 : Go.IntKind.wrap .i64 z.1 = z.1 := w64_id (by omega) (by omega)
        have w2 : Go.IntKind.wrap .i64 z.2 = z.2 := w64_id (by omega) (by omega)
        have w3 : Go.IntKind.wrap .i64 (280 + z.1) = 280 + z.1 := w64_id (by omega) (by omega)
        have w4 : Go.IntKind.wrap .i64 (281 + z.1) = 281 + z.1 := w64_id (by omega) (by omega)
        have w5 : Go.IntKind.wrap .i64 (281 + z.1 + z.2) = 281 + z.1 + z.2 := w64_id (by omega) (by omega)
        generalize hp : Int.tmod z.2 (heats.length : Int) = p at t
        refine ⟨(i + 1, l ++ [(280 + z.1, 281 + z.1 + z.2)], st ++ [(p, (280 + z.1, 281 + z.1 + z.2))]), ⟨by simp only; omega, by simp; omega, by simp; omega, fun w hw => ?_, fun w hw => ?_⟩, by simp only; omega, ?_⟩
        · simp only [List.mem_append, List.mem_singleton] at hw
          rcases hw with hw | rfl
          · exact i4 w hw
          · exact ⟨by simp only; omega, by simp only; omega, by simp only; omega⟩
        · simp only [List.mem_append, List.mem_singleton] at hw
          rcases hw with hw | rfl
          · exact i5 w hw
          · exact ⟨t.1, by simp only; omega, by simp only; omega, by simp only; omega, by simp only; omega⟩
        · show f12l0B N (f12l0 N q) wl byl heats l (i : Int) hs ps cs ss st = _
          unfold f12l0B
          simp only [show decide ((i : Int) < (wl.length : Int)) = true from decide_eq_true (by omega), show decide ((i : Int) < 5) = true from decide_eq_true (by omega), show ((heats.length : Int) != 0) = true by rw [bne_iff_ne]; omega, Int.natCast_nonneg, decide_true, Bool.and_true, if_true, Int.toNat_natCast, hz, w1, w2, w3, w4, w5, hp, f52_eq, andThen_some, show decide ((0 : Int) ≤ 0) = true from rfl, show decide ((0 : Int) ≤ 1) = true from rfl, show decide ((0 : Int) < 2) = true from rfl, show decide ((1 : Int) < 2) = true from rfl, w_succ (show i < 4611686018427387904 by omega)]
          rw [if_pos (by simp [boundLen]; omega), if_pos (by simp [boundLen]; omega)]
      · left
        refine ⟨_, ?_, l, st, by omega, by omega, i4, i5, rfl⟩
        show f12l0B N (f12l0 N q) wl byl heats l (i : Int) hs ps cs ss st = _
        unfold f12l0B
        by_cases c1 : i < wl.length
        · rw [if_pos (decide_eq_true (by omega)), if_neg (by rw [decide_eq_false (by omega)]; decide)]
        · rw [if_neg (by rw [decide_eq_false (by omega)]; decide)]) N (0, [], []) ⟨Nat.zero_le _, Nat.le_refl _, Nat.le_refl _, fun q hq => (List.not_mem_nil hq).elim, fun q hq => (List.not_mem_nil hq).elim⟩ (by simp only; omega)
  subst g6
  exact ⟨l, st, g2, g3, g4, g5, g1⟩

theorem f12l1_eq (N : Nat) (hN : 100 ≤ N) (byl heats : List Int) (hb : ∀ x ∈ byl, By x) (l : List Span) (hl5 : l.length ≤ 5) (h : List Span) (hl : heats.length = h.length) (hn : 1 ≤ h.length) (hn4 : h.length ≤ 4) (htr : ∀ p, p < h.length → (sp h p).1 ≤ tt heats p ∧ tt heats p ≤ (sp h p).2)
    (y : List Int) (hy : pick none (comps (l.map (canOf h h.length)) []) = some y) (e : Int) (st : List Set') (a b : Int) :
    ∃ put oth : Nat, oth ≤ put ∧ f12l1 N N byl heats l y e h 0 0 0 st a b [false, false, false, false] [false, false, false, false] = some (.inr (heats, e, h, (put : Int), (oth : Int), st, a, b)) := by
  obtain ⟨m1, m2, _⟩ := pick_max _ _ _ hy
  have hmem : y ∈ comps (l.map (canOf h h.length)) [] := by rcases m1 with h | h; cases h; exact h
  obtain ⟨y', e', ok⟩ := (comps_iff _ _ _).1 hmem
  rw [List.nil_append] at e'
  subst e'
  have yl : y.length = l.length := by rw [okS_len _ _ _ ok, List.length_map]
  generalize hcan : l.map (canOf h h.length) = can at *
  have hcl : can.length = l.length := by rw [← hcan, List.length_map]
  have hcg : ∀ i, i < l.length → can.getD i [] = canOf h h.length (l.getD i (0, 0)) := fun i hi => by
    rw [← hcan, List.getD_eq_getElem?_getD, List.getElem?_map, List.getD_eq_getElem?_getD, List.getElem?_eq_getElem hi]; rfl
  obtain ⟨r, g1, put, oth, g2, g3⟩ := loop_run (fun q (s : Nat × List Int × List Bool × List Bool) => f12l1 N q byl heats l y e h (putN (y.take s.1) : Int) (putN s.2.1 : Int) (s.1 : Int) st a b s.2.2.1 s.2.2.2)
    (fun s => s.1 ≤ l.length ∧ s.2.1.length = s.1 ∧ OkS (can.take s.1) [] s.2.1 ∧ Flags s.2.2.1 (y.take s.1) ∧ Flags s.2.2.2 s.2.1) (fun s => l.length - s.1)
    (fun r => ∃ put oth : Nat, oth ≤ put ∧ r = .inr (heats, e, h, (put : Int), (oth : Int), st, a, b)) (by
      rintro q ⟨i, z, U, V⟩ ⟨i1, i2, i3, i4, i5⟩
      simp only at i1 i2 i3 i4 i5 ⊢
      by_cases hi : i < l.length
      · right
        obtain ⟨k1, k2⟩ := okS_get _ _ _ i ok (by omega)
        rw [hcg i hi] at k1
        have k3 := canOf_mem k1
        have p1 := putN_le (y.take i)
        have p2 := putN_le z
        rw [List.length_take] at p1
        obtain ⟨c, p, q1, q2, q3, q4⟩ := put_step N (f12l1 N q) byl heats l y e h (putN (y.take i)) (putN z) i st a b U V hi (by omega) hl hn hn4 (by omega) (by omega) (by omega) hb _ rfl _ rfl (by
          rcases k3 with k3 | ⟨k3, k4, k5⟩
          · exact .inl k3
          · right
            refine ⟨k3, by omega, ?_, ?_⟩
            · have := i4.2 (y.getD i 0).toNat (by omega)
              rcases k2 with k2 | k2
              · omega
              · cases hU : U.getD (y.getD i 0).toNat false with
                | false => rfl
                | true =>
                  have hm := this.1 hU
                  rw [show (((y.getD i 0).toNat : Nat) : Int) = y.getD i 0 by omega] at hm
                  exact absurd hm (by simpa using k2)
            · have ht := htr (y.getD i 0).toNat (by omega)
              unfold goodS at k5
              rw [Bool.and_eq_true, decide_eq_true_eq, decide_eq_true_eq] at k5
              unfold howN
              unfold tt at ht
              rw [if_neg (by omega), if_pos (by omega)])
        have tk : y.take (i + 1) = y.take i ++ [y.getD i 0] := take_get y 0 (by omega)
        have tc : can.take (i + 1) = can.take i ++ [canOf h h.length (l.getD i (0, 0))] := by rw [take_get can [] (by omega), hcg i hi]
        refine ⟨(i + 1, z ++ [if c = true then p else -1], if 0 ≤ y.getD i 0 then U.set (y.getD i 0).toNat true else U, if c = true then V.set p.toNat true else V), ⟨hi, by simp [i2], ?_, ?_, ?_⟩, by simp only; omega, ?_⟩
        · simp only
          rw [tc]
          refine okS_snoc _ _ _ ?_ _ _ i3 ?_
          · by_cases hc : c = true
            · rw [if_pos hc]; exact mem_canOf q1 q2 (q3 hc).2
            · rw [if_neg hc]; simp [canOf]
          · by_cases hc : c = true
            · rw [if_pos hc]
              right
              intro hm
              rw [List.nil_append] at hm
              have := (i5.2 p.toNat (by omega)).2 (by rw [show ((p.toNat : Nat) : Int) = p by omega]; exact hm)
              rw [(q3 hc).1] at this; cases this
            · rw [if_neg hc]; exact .inl rfl
        · simp only
          rw [tk]
          rcases k3 with k3 | ⟨k3, k4, k5⟩
          · rw [if_neg (by omega), k3]; exact flags_neg i4
          · rw [if_pos k3]; exact flags_set i4 _ k3 (by omega)
        · simp only
          by_cases hc : c = true
          · rw [if_pos hc, if_pos hc]; exact flags_set i5 _ q1 (by omega)
          · rw [if_neg hc, if_neg hc]; exact flags_neg i5
        · show f12l1B N (f12l1 N q) byl heats l y e h (putN (y.take i) : Int) (putN z : Int) (i : Int) st a b U V = _
          rw [q4, tk, putN_snoc, putN_snoc]
          have x1 : (if 0 ≤ y.getD i 0 then ((putN (y.take i) + 1 : Nat) : Int) else (putN (y.take i) : Int)) = ((putN (y.take i) + if 0 ≤ y.getD i 0 then 1 else 0 : Nat) : Int) := by split <;> simp
          have x2 : (if c = true then ((putN z + 1 : Nat) : Int) else (putN z : Int)) = ((putN z + if 0 ≤ (if c = true then p else -1) then 1 else 0 : Nat) : Int) := by
            by_cases hc : c = true
            · rw [if_pos hc, if_pos hc, if_pos q1]
            · rw [if_neg hc, if_neg hc, if_neg (by decide)]; simp
          rw [x1, x2]
      · left
        have : i = l.length := by omega
        subst this
        refine ⟨_, ?_, putN (y.take l.length), putN z, ?_, rfl⟩
        · show f12l1B N (f12l1 N q) byl heats l y e h (putN (y.take l.length) : Int) (putN z : Int) (l.length : Int) st a b U V = _
          unfold f12l1B
          rw [if_neg (by simp)]
        · rw [List.take_of_length_le (by omega)]
          rw [List.take_of_length_le (by omega)] at i3
          exact m2 z ((comps_iff _ _ _).2 ⟨z, by simp, i3⟩)) N (0, [], [false, false, false, false], [false, false, false, false]) ⟨Nat.zero_le _, rfl, trivial, flags_nil, flags_nil⟩ (by simp only; omega)
  subst g3
  exact ⟨put, oth, g2, g1⟩

/-- all wares come out good -/
def allG (heats : List Int) (d : Int) (st : List Set') : Prop := ∀ s ∈ st, s.2.1 ≤ tt heats s.1.toNat + d ∧ tt heats s.1.toNat + d < s.2.2
instance (heats : List Int) (d : Int) (st : List Set') : Decidable (allG heats d st) := by unfold allG; infer_instance
theorem f55_eq (N : Nat) (hN : 100 ≤ N) (heats : List Int) (d : Int) (st : List Set') (n : Nat) (hl : heats.length = n) (hst : st.length ≤ 12) (hok : ∀ s ∈ st, okSet n s) (hb : ∀ p, p < n → -2000 ≤ tt heats p ∧ tt heats p ≤ 2000) (h1 : -5000 ≤ d) (h2 : d ≤ 5000) :
    f55 N heats d st = some (decide (allG heats d st), st) := by
  have key : ∀ s ∈ st, (howN s.2 (tt heats s.1.toNat + d) != 2) = !decide (s.2.1 ≤ tt heats s.1.toNat + d ∧ tt heats s.1.toNat + d < s.2.2) := fun s hs => by
    unfold howN
    by_cases c1 : tt heats s.1.toNat + d < s.2.1
    · rw [if_pos c1, decide_eq_false (by omega)]; rfl
    · rw [if_neg c1]
      by_cases c2 : tt heats s.1.toNat + d < s.2.2
      · rw [if_pos c2, decide_eq_true (by omega)]; rfl
      · rw [if_neg c2, decide_eq_false (by omega)]; rfl
  have hany : st.any (fun s => howN s.2 (tt heats s.1.toNat + d) != 2) = !decide (allG heats d st) := by
    unfold allG
    rw [← any_all]
    rw [Bool.eq_iff_iff, List.any_eq_true, List.any_eq_true]
    constructor
    · rintro ⟨s, hs, h⟩; exact ⟨s, hs, by rw [← key s hs]; exact h⟩
    · rintro ⟨s, hs, h⟩; exact ⟨s, hs, by rw [key s hs]; exact h⟩
  unfold f55
  rcases searchL st ((0 : Int), ((0 : Int), (0 : Int))) (fun s => howN s.2 (tt heats s.1.toNat + d) != 2) (fun q i => f55l0 N q heats d (i : Int) st) (fun i => .inl (false, st)) (.inr st) (fun q i hi => by
    show f55l0B N (f55l0 N q) heats d (i : Int) st = _
    have hz := hok _ (getD_mem (d := ((0 : Int), ((0 : Int), (0 : Int)))) hi)
    generalize he : st.getD i ((0 : Int), ((0 : Int), (0 : Int))) = z at *
    obtain ⟨o1, o2, _⟩ := hz
    have bb := hb z.1.toNat (by omega)
    unfold f55l0B
    simp only [show decide ((i : Int) < (st.length : Int)) = true from decide_eq_true (by omega), Int.natCast_nonneg, decide_true, Bool.and_true, if_true, Int.toNat_natCast, he, show decide (0 ≤ z.1) = true from decide_eq_true o1, show decide (z.1 < (heats.length : Int)) = true from decide_eq_true (by omega), w_succ (show i < 4611686018427387904 by omega)]
    have ew : Go.IntKind.wrap .i64 (heats.getD z.1.toNat 0 + d) = tt heats z.1.toNat + d := w64_id (by unfold tt at bb; omega) (by unfold tt at bb; omega)
    rw [ew, f54_eq, andThen_some]) (fun q => by
    show f55l0B N (f55l0 N q) heats d (st.length : Int) st = _
    unfold f55l0B
    rw [if_neg (by simp)]) N (by omega) with ⟨i, hi', ha, hr⟩ | ⟨ha, hr⟩
  · have hr : f55l0 N N heats d 0 st = some (.inl (false, st)) := hr
    rw [hr]
    rw [hany] at ha
    have : decide (allG heats d st) = false := by simpa using ha
    rw [this]; rfl
  · have hr : f55l0 N N heats d 0 st = some (.inr st) := hr
    rw [hr]
    rw [hany] at ha
    have : decide (allG heats d st) = true := by simpa using ha
    rw [this]; rfl

theorem both {h : List Span} {st : List Set'} {d : Int} (hok : ∀ s ∈ st, okSet h.length s) (hle : ∀ p, p < h.length → (sp h p).1 ≤ (sp h p).2) :
    (allG (endsL h false) d st ∧ allG (endsL h true) d st) ↔ ∀ j, j < st.length → okAt h (st.getD j ((0 : Int), ((0 : Int), (0 : Int)))) d := by
  constructor
  · rintro ⟨a, b⟩ j hj
    have hm : st.getD j ((0 : Int), ((0 : Int), (0 : Int))) ∈ st := getD_mem hj
    generalize st.getD j ((0 : Int), ((0 : Int), (0 : Int))) = s at hm
    have o := hok s hm
    have a := a s hm
    have b := b s hm
    rw [tt_map false (by have := o.1; have := o.2.1; omega)] at a
    rw [tt_map true (by have := o.1; have := o.2.1; omega)] at b
    simp only [if_true, Bool.false_eq_true, if_false] at a b
    exact ⟨a.1, b.2⟩
  · intro hall
    have g : ∀ s ∈ st, okAt h s d := fun s hs => by
      obtain ⟨j, hj, e⟩ := getD_of_mem ((0 : Int), ((0 : Int), (0 : Int))) hs
      exact e ▸ hall j hj
    constructor
    · intro s hs
      have o := hok s hs
      have k := g s hs
      have := hle s.1.toNat (by have := o.1; have := o.2.1; omega)
      rw [tt_map false (by have := o.1; have := o.2.1; omega)]
      simp only [Bool.false_eq_true, if_false]
      unfold okAt at k; omega
    · intro s hs
      have o := hok s hs
      have k := g s hs
      have := hle s.1.toNat (by have := o.1; have := o.2.1; omega)
      rw [tt_map true (by have := o.1; have := o.2.1; omega)]
      simp only [if_true]
      unfold okAt at k; omega

/-- nothing is good at any of the degrees that are tried -/
theorem f12l2_eq (N : Nat) (hN : 1000 ≤ N) (h : List Span) (st : List Set') (hst : st.length ≤ 12) (hok : ∀ s ∈ st, okSet h.length s) (hd : Deg h) (hno : ∀ d, -300 ≤ d → d ≤ 300 → ¬ (allG (endsL h false) d st ∧ allG (endsL h true) d st)) :
    f12l2 N N (endsL h false) (endsL h true) (-300) st = some (.inr ()) := by
  have hb : ∀ b : Bool, ∀ p, p < h.length → -2000 ≤ tt (endsL h b) p ∧ tt (endsL h b) p ≤ 2000 := fun b p hp => by
    rw [tt_map b hp]; have := hd p hp; split <;> omega
  exact loop_all (fun q k => f12l2 N q (endsL h false) (endsL h true) (-300 + 7 * (k : Int)) st) 86 _ (fun q k hk => by
    show f12l2B N (f12l2 N q) (endsL h false) (endsL h true) (-300 + 7 * (k : Int)) st = _
    have n := hno (-300 + 7 * (k : Int)) (by omega) (by omega)
    have e1 := f55_eq N (by omega) (endsL h false) (-300 + 7 * (k : Int)) st h.length (endsL_len _ _) hst hok (hb false) (by omega) (by omega)
    have e2 := f55_eq N (by omega) (endsL h true) (-300 + 7 * (k : Int)) st h.length (endsL_len _ _) hst hok (hb true) (by omega) (by omega)
    have ew : Go.IntKind.wrap .i64 (-300 + 7 * (k : Int) + 7) = -300 + 7 * ((k + 1 : Nat) : Int) := by rw [w64_id (by omega) (by omega)]; omega
    unfold f12l2B
    rw [if_pos (decide_eq_true (by omega)), e1, andThen_some, ew]
    simp only
    by_cases c1 : allG (endsL h false) (-300 + 7 * (k : Int)) st
    · rw [if_pos (decide_eq_true c1), e2, andThen_some]
      simp only
      rw [if_neg (by rw [decide_eq_false (fun c2 => n ⟨c1, c2⟩)]; decide)]
    · rw [if_neg (by rw [decide_eq_false c1]; decide)]) (fun q => by
    show f12l2B N (f12l2 N q) (endsL h false) (endsL h true) (-300 + 7 * ((86 : Nat) : Int)) st = _
    unfold f12l2B
    exact if_neg (by decide)) N (by omega)

/-- one of the two ends -/
theorem f12l3_step (N : Nat) (hN : 1000 ≤ N) (go : (List Int) → (List Int) → (List Int) → Int → List Set' → Int → Int → Option ((Bool) ⊕ Unit)) (heats : List Int) (h : List Span) (hl : heats.length = h.length) (st : List Set') (hst : st.length ≤ 12) (hok : ∀ s ∈ st, okSet h.length s) (hd : Deg h) (hbt : ∀ p, p < h.length → (sp h p).1 ≤ tt heats p ∧ tt heats p ≤ (sp h p).2)
    (lo hi : Int) (hT : Turns h st lo hi) (hlh : lo ≤ hi) (k : Int) (hk : k = 0 ∨ k = 1) :
    f12l3B N go heats (endsL h false) (endsL h true) k st lo hi = go heats (endsL h false) (endsL h true) (k + 1) st lo hi := by
  obtain ⟨t1, t2, t3, t4, t5⟩ := hT
  have hle : ∀ p, p < h.length → (sp h p).1 ≤ (sp h p).2 := fun p hp => by have := hbt p hp; omega
  have hb : ∀ b : Bool, ∀ p, p < h.length → -2000 ≤ tt (endsL h b) p ∧ tt (endsL h b) p ≤ 2000 := fun b p hp => by
    rw [tt_map b hp]; have := hd p hp; split <;> omega
  have hbh : ∀ p, p < h.length → -2000 ≤ tt heats p ∧ tt heats p ≤ 2000 := fun p hp => by
    have := hd p hp; have := hbt p hp; omega
  have F : ∀ (b : Bool) (d : Int), -5000 ≤ d → d ≤ 5000 → f55 N (endsL h b) d st = some (decide (allG (endsL h b) d st), st) := fun b d h1 h2 => f55_eq N (by omega) _ d st h.length (endsL_len _ _) hst hok (hb b) h1 h2
  have FH : ∀ (d : Int), -5000 ≤ d → d ≤ 5000 → f55 N heats d st = some (decide (allG heats d st), st) := fun d h1 h2 => f55_eq N (by omega) _ d st h.length hl hst hok hbh h1 h2
  have good : ∀ d, lo ≤ d → d ≤ hi → allG (endsL h false) d st ∧ allG (endsL h true) d st ∧ allG heats d st := fun d h1 h2 => by
    have hall := ((t5 d).1 ⟨h1, h2⟩).2.2
    obtain ⟨a, b⟩ := (both hok hle).2 hall
    refine ⟨a, b, fun s hs => ?_⟩
    have o := hok s hs
    have hp : s.1.toNat < h.length := by have := o.1; have := o.2.1; omega
    have a := a s hs
    have b := b s hs
    rw [tt_map false hp] at a
    rw [tt_map true hp] at b
    simp only [if_true, Bool.false_eq_true, if_false] at a b
    have := hbt _ hp
    omega
  have bad : ∀ d, (d < lo ∨ hi < d) → -300 ≤ d → d ≤ 300 → ¬ (allG (endsL h false) d st ∧ allG (endsL h true) d st) := fun d h1 h2 h3 hh => by
    have := (t5 d).2 ⟨h2, h3, (both hok hle).1 hh⟩
    omega
  have main : ∀ d out : Int, -300 ≤ d → d ≤ 300 → lo ≤ d → d ≤ hi → (d + out < lo ∨ hi < d + out) → -1 ≤ out → out ≤ 1 → List.getD [lo, hi] (Int.toNat k) 0 = d → Go.IntKind.wrap .i64 (Go.IntKind.wrap .i64 (2 * k) - 1) = out →
      f12l3B N go heats (endsL h false) (endsL h true) k st lo hi = go heats (endsL h false) (endsL h true) (k + 1) st lo hi := fun d out d1 d2 d3 d4 d5 d6 d7 e1 e2 => by
    obtain ⟨g1, g2, g3⟩ := good d d3 d4
    have w1 : Go.IntKind.wrap .i64 (0 - d) = -d := by rw [w64_id (by omega) (by omega)]; omega
    have w2 : Go.IntKind.wrap .i64 (-d - out) = -d - out := w64_id (by omega) (by omega)
    have w3 : Go.IntKind.wrap .i64 (d + out) = d + out := w64_id (by omega) (by omega)
    have w4 : Go.IntKind.wrap .i64 (k + 1) = k + 1 := w64_id (by omega) (by omega)
    have c1 : decide ((if -d > d then -d else d) > 300) = false := decide_eq_false (by split <;> omega)
    unfold f12l3B
    simp only [e1, e2, w1, w2, w3, w4, show decide (k < 2) = true from decide_eq_true (by omega), show decide (0 ≤ k) = true from decide_eq_true (by omega), show decide (lo > hi) = false from decide_eq_false (by omega), c1, Bool.and_true, if_true, FH d (by omega) (by omega), F _ d (by omega) (by omega), F _ (d + out) (by omega) (by omega), andThen_some, decide_eq_true g1, decide_eq_true g2, decide_eq_true g3, show (!true) = false from rfl]
    by_cases c2 : (if -d - out > d + out then -d - out else d + out) ≤ 300
    · rw [if_pos (decide_eq_true c2)]
      have hr : -300 ≤ d + out ∧ d + out ≤ 300 := by split at c2 <;> omega
      have n := bad (d + out) d5 hr.1 hr.2
      by_cases c3 : allG (endsL h false) (d + out) st
      · rw [if_pos (decide_eq_true c3), if_neg (by rw [decide_eq_false (fun c4 => n ⟨c3, c4⟩)]; decide)]
      · rw [if_neg (by rw [decide_eq_false c3]; decide)]
    · rw [if_neg (by rw [decide_eq_false c2]; decide)]
  rcases hk with rfl | rfl
  · exact main lo (-1) (by omega) (by omega) (by omega) (by omega) (by omega) (by omega) (by omega) rfl (by rfl)
  · exact main hi 1 (by omega) (by omega) (by omega) (by omega) (by omega) (by omega) (by omega) rfl (by rfl)
theorem f12l3_eq (N : Nat) (hN : 1000 ≤ N) (heats : List Int) (h : List Span) (hl : heats.length = h.length) (st : List Set') (hst : st.length ≤ 12) (hok : ∀ s ∈ st, okSet h.length s) (hd : Deg h) (hbt : ∀ p, p < h.length → (sp h p).1 ≤ tt heats p ∧ tt heats p ≤ (sp h p).2)
    (lo hi : Int) (hT : Turns h st lo hi) (hlh : lo ≤ hi) : f12l3 N N heats (endsL h false) (endsL h true) 0 st lo hi = some (.inr ()) := by
  obtain ⟨K, hK⟩ : ∃ K, N = K + 3 := ⟨N - 3, by omega⟩
  have step : ∀ q (k : Int), (k = 0 ∨ k = 1) → f12l3 N (q + 1) heats (endsL h false) (endsL h true) k st lo hi = f12l3 N q heats (endsL h false) (endsL h true) (k + 1) st lo hi := fun q k hk => f12l3_step N hN (f12l3 N q) heats h hl st hst hok hd hbt lo hi hT hlh k hk
  have run : ∀ K, f12l3 N (K + 3) heats (endsL h false) (endsL h true) 0 st lo hi = some (.inr ()) := fun K => by
    rw [step (K + 2) 0 (.inl rfl), step (K + 1) (0 + 1) (.inr rfl)]
    show f12l3B N (f12l3 N K) heats (endsL h false) (endsL h true) (0 + 1 + 1) st lo hi = _
    unfold f12l3B
    exact if_neg (by decide)
  have := run K
  rw [← hK] at this
  exact this

theorem law12 (pl pr : L3) (cn : L2) (sg : L3) (wl : L2) (byl : List Int) (h1 : ∀ v ∈ pl, By3 v) (h2 : ∀ v ∈ pr, By3 v) (h3 : ∀ v ∈ cn, By2 v) (h4 : ∀ v ∈ sg, By3 v) (h5 : ∀ v ∈ wl, By2 v) (h6 : ∀ x ∈ byl, By x) : f12 50000 pl pr cn sg wl byl = some true := by
  obtain ⟨hs, ps, cs, ss, heats, e0, md⟩ := f44_eq 50000 (by omega) pl pr cn sg h1 h2 h3 h4
  have v := md.v
  have n4 := md.n4
  have n1 := v.n1
  have hl := md.plc.l1
  have p5 := md.p5
  have c5 := md.c5
  have s3 := md.s3
  have ht : ∃ t, TruthO hs ps cs ss t := ⟨_, md.truth⟩
  obtain ⟨m, e1, tg, e2, e3⟩ := f19_yes 50000 hs ps cs ss (by omega) v ht
  obtain ⟨_, r2⟩ := f23_eq 50000 hs ps cs ss (by omega) v
  obtain ⟨o, _, f2, ex⟩ := r2 ht
  have eo : o = spn hs.length m := exact_tight f2 v.n5 ex tg
  subst eo
  obtain ⟨l, st, l5, st5, wok, sok, e4⟩ := f12l0_eq hs ps cs ss 50000 (by omega) wl h5 byl heats hs.length n1 n4 hl
  have hsl : (spn hs.length m).length = hs.length := spn_len _ _
  -- fill
  obtain ⟨x, r, cx⟩ := comps_some (l.map (canOf (spn hs.length m) hs.length)) (fun c hc => by
    rw [List.mem_map] at hc
    obtain ⟨w, _, rfl⟩ := hc
    exact ⟨_, rfl⟩) []
  obtain ⟨y, hy⟩ : ∃ y, pick none (comps (l.map (canOf (spn hs.length m) hs.length)) []) = some y := by rw [cx]; exact pick_some r x
  have e5 := (f34_yes 50000 hs ps cs ss l (by omega) v (by omega) e1 e2).2.2 l5 wok y hy
  obtain ⟨lo, hi, hT, e6⟩ := (f36_yes 50000 hs ps cs ss st (by omega) v (by omega) e1 e2 tg).2.2 st5 sok
  have e45 := f45_eq 50000 hs ps cs ss (by omega) (by omega) (by omega) (by omega)
  have hbt : ∀ p, p < (spn hs.length m).length → (sp (spn hs.length m) p).1 ≤ tt heats p ∧ tt heats p ≤ (sp (spn hs.length m) p).2 := fun p hp => ex.box _ md.truth p hp
  have hyl : y.length = l.length := by
    obtain ⟨m1, _, _⟩ := pick_max _ _ _ hy
    rcases m1 with h | h
    · cases h
    · obtain ⟨s, e, ok⟩ := (comps_iff _ _ _).1 h
      rw [List.nil_append] at e
      subst e
      rw [okS_len _ _ _ ok, List.length_map]
  have hlp : ∀ e a b, ∃ put oth : Nat, oth ≤ put ∧ f12l1 50000 50000 byl heats l y e (spn hs.length m) 0 0 0 st a b [false, false, false, false] [false, false, false, false] = some (.inr (heats, e, spn hs.length m, (put : Int), (oth : Int), st, a, b)) := fun e a b =>
    f12l1_eq 50000 (by omega) byl heats h6 l l5 (spn hs.length m) (by omega) (by omega) (by omega) hbt y (by rw [hsl]; exact hy) e st a b
  have sok' : ∀ s ∈ st, okSet (spn hs.length m).length s := by rw [hsl]; exact sok
  have e47 : ∀ b, f47 50000 (spn hs.length m) b = some (endsL (spn hs.length m) b) := fun b => f47_eq 50000 _ b (by omega) (by omega)
  have ff : ([(List.getD ([false, false, false, false] : List Bool) 0 false), (List.getD ([false, false, false, false] : List Bool) 1 false), (List.getD ([false, false, false, false] : List Bool) 2 false), (List.getD ([false, false, false, false] : List Bool) 3 false)] : List Bool) = [false, false, false, false] := rfl
  unfold f12
  rw [e0]
  simp only [andThen_some]
  rw [e4]
  simp only [andThen_some]
  rw [e45]
  simp only [andThen_some, List.nil_append]
  rw [if_pos (by simp [boundLen]; omega), e5]
  simp only [andThen_some]
  rw [if_pos (by simp [boundLen]; omega), e6]
  simp only [andThen_some]
  rw [e3]
  simp only [andThen_some, ff]
  rw [if_pos (by decide), if_pos (by decide), if_pos (by rw [hyl]; simp), if_pos (by rw [hsl, hl]; simp)]
  by_cases c : lo ≤ hi
  · rw [if_pos c]
    simp only
    rw [if_neg (by decide)]
    obtain ⟨put, oth, k1, k2⟩ := hlp 0 lo hi
    rw [k2]
    simp only [andThen_some, either_inr]
    rw [if_neg (by simp; omega), e47, andThen_some, e47, andThen_some, if_neg (by decide), f12l3_eq 50000 (by omega) heats (spn hs.length m) (by omega) st (by omega) sok' ex.deg hbt lo hi hT c]
    simp only [andThen_some, either_inr, known_ok]
  · rw [if_neg c]
    simp only
    rw [if_pos (by decide), if_pos (by decide), f26_eq, andThen_some]
    simp only
    rw [if_neg (by decide)]
    obtain ⟨put, oth, k1, k2⟩ := hlp 7 0 0
    rw [k2]
    simp only [andThen_some, either_inr]
    rw [if_neg (by simp; omega), e47, andThen_some, e47, andThen_some, if_pos (by decide), f12l2_eq 50000 (by omega) (spn hs.length m) st (by omega) sok' ex.deg (fun d d1 d2 hh => by
      obtain ⟨t1, t2, t3, t4, t5⟩ := hT
      have := (t5 d).2 ⟨d1, d2, (both sok' (fun p hp => by have := hbt p hp; omega)).1 hh⟩
      omega)]
    simp only [andThen_some, either_inr, known_ok]
end
end Go.Pl
namespace Go.Proofs.Ytegckmajjklonaa
open Go.Pl in
theorem pure12 : Pure12 := fun x y z h g k => ⟨50000, Go.Pl.law12 _ _ _ _ _ _ (kiln_good x h).1 (kiln_good x h).2.1 (kiln_good x h).2.2.1 (kiln_good x h).2.2.2 (fun v hv => ⟨by_of (g.2 v hv).1, by_of (g.2 v hv).2⟩) (fun v hv => by_of (k.2 v hv))⟩
theorem furnacePut_holds : Rows.FurnacePutSaid := row12 pure12
end Go.Proofs.Ytegckmajjklonaa
