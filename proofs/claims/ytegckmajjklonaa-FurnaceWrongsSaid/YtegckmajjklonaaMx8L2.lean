/- The law. FurnaceWrongs: the fewest notes that must be wrong, and the needless ones, or the errors, are what the document says. No conditions. -/
import Derived.Test.YtegckmajjklonaaMx8L1
set_option linter.unusedVariables false
set_option linter.unusedSimpArgs false
namespace Go.Proofs.Ytegckmajjklonaa
open Go.ChangeShapes Go.WideShapes Go.ChangeAt Go.RowKit Go.Al
/-- the plain statement of Wrongs -/
def Pure8 : Prop := ∀ (x0 : den Oven), GoodD Oven x0 → ∃ N, f8 N x0.1 x0.2.1 x0.2.2.1 x0.2.2.2 = some true
set_option maxRecDepth 100000 in
theorem lifted8 (pure : Pure8) (os : Os) (started : os.Started) (H : Type) (enc : TypeId × Value → H) :
    ReturnsInHanded {} Try.checked os 8 .any (Rows.furnaceWrongsSpec.pre6 enc Try.prog Try.f8 Rows.furnaceWrongsRow.domain false) (Rows.furnaceWrongsSpec.post enc Try.prog Try.f8 false true false false) := by
  refine returnsInHanded_of_change (C := Try.checked) own started (by kernel_rfl) Try.func8
    (ChangeSpec.witness6 (enc := enc) (C := Try.checked) false ⟨#[], #[.agg #[.slice none 0 0, .slice none 0 0, .slice none 0 0, .slice none 0 0]], []⟩ 8 (by kernel_rfl) (by kernel_rfl) (by kernel_rfl) (by kernel_rfl)) ?_
  intro W base args ds gs before hval0 hW hcnd _
  have hval : ∀ (j : Nat) t v, Try.f8.params[j]? = some t → args[j]? = some v → Value.okWide Try.prog W .any base t v := hval0
  have hW' := hW
  obtain ⟨p, q, hA0, hV, rfl, hfz, hnd⟩ := hW
  have hA : DataW.TrodAll enc Try.prog W 0 (fun _ => true) true Try.f8.params.toList args.toList ds p := hA0
  rw [show Try.f8.params.toList = [27] by kernel_rfl] at hA
  obtain ⟨v0, vs0, d0, ds0, p0, q0, hargs, rfl, rfl, h0, r0⟩ := trodAll_cons hA
  obtain ⟨rfl, rfl, rfl⟩ := trodAll_nil r0
  obtain rfl : args = #[v0] := by cases args; simp_all
  obtain ⟨rfl, rfl⟩ := trodVars_none hV
  obtain ⟨x0, g0, c0⟩ := arg_agg (ω := fun _ => 0) (by kernel_rfl) 20 Oven (by kernel_rfl) (hval 0 27 v0 (by kernel_rfl) rfl) h0
  obtain ⟨N, hN⟩ := pure x0 g0
  have key := law_calls (W := W) (f8ok N) (by kernel_rfl) (ins := [.agg (cellsT Oven x0)]) (cargs := [v0]) (mres := [])
    (show andThen (f8 N x0.1 x0.2.1 x0.2.2.1 x0.2.2.2) (fun y => some (AV.a (.one (.bool y)), ([] : Mem))) = _ by rw [hN]; rfl) (.cons c0 .nil)
  refine key.mono fun e W' ⟨he, bel⟩ => ?_
  subst he
  exact ⟨_, rfl, _, _, _, [], _, [], hW', trodAll_mk1 (shut_bool (by kernel_rfl) _), (trodAll_cons_mk (bel.trod laidOut (by kernel_rfl) (of_decide_eq_true (by kernel_rfl)) h0) trodAll_mk0), rfl, bel.frame _, fun h => by cases h⟩
theorem row8 (pure : Pure8) : Rows.FurnaceWrongsSaid :=
  OpenClaim.holds_of_wide 8 Try.f8 rfl rfl rfl rfl rfl rfl rfl ⟨rfl, rfl, rfl, rfl, rfl⟩ rfl rfl rfl rfl rfl (by kernel_rfl) Try.func8 (by kernel_rfl)
    (of_decide_eq_true (by kernel_rfl)) (by unfold Func.isWrapper; first | (rw [if_pos (by decide +kernel)]; kernel_rfl) | (rw [if_neg (by decide +kernel)]; exact ⟨rfl, rfl⟩))
    (fun os started H enc _ => lifted8 pure os started H enc)
end Go.Proofs.Ytegckmajjklonaa

namespace Go.Pl
open Go.Al Go.Proofs

theorem hts_spn {n : Nat} {m m' : List Int} (hn : n ≤ 5) : hts n m = hts n m' ↔ spn n m = spn n m' := by
  constructor
  · intro h
    refine span_ext (by simp) fun p hp => ?_
    rw [spn_len] at hp
    rw [sp_spn hp, sp_spn hp]
    have a := hts_get (m := m) hp hn
    have b := hts_get (m := m') hp hn
    rw [h] at a
    rw [a.1] at b
    rw [a.2] at b
    rw [b.1, b.2]
  · intro h
    have g : ∀ p, p < n → -ent m p 5 = -ent m' p 5 ∧ ent m 5 p = ent m' 5 p := fun p hp => by
      have := congrArg (fun l => sp l p) h
      simp only [sp_spn hp] at this
      exact Prod.mk.inj this
    have c : ∀ p, cz n p (-ent m p 5) = cz n p (-ent m' p 5) ∧ cz n p (ent m 5 p) = cz n p (ent m' 5 p) := fun p => by
      unfold cz
      by_cases hp : p < n
      · rw [if_pos hp, if_pos hp, if_pos hp, if_pos hp]; exact g p hp
      · rw [if_neg hp, if_neg hp, if_neg hp, if_neg hp]; exact ⟨rfl, rfl⟩
    unfold hts
    rw [(c 0).1, (c 0).2, (c 1).1, (c 1).2, (c 2).1, (c 2).2, (c 3).1, (c 3).2, (c 4).1, (c 4).2]

section
variable (hs : List Span) (ps : List Pr) (cs : List Cn) (ss : List Sg)
theorem f39_bad (N : Nat) (hN : 100 ≤ N) (h1 : hs.length < 100) (h2 : ps.length < 100) (h3 : cs.length < 100) (h4 : ss.length < 100) (hc : chk hs ps cs ss ≠ 0) : f39 N hs ps cs ss = some ([], chk hs ps cs ss) := by
  unfold f39
  rw [f70_bad N hs ps cs ss hN h1 h2 h3 h4 hc, andThen_some]
  simp only
  rw [if_pos (by simpa using hc)]
theorem f39_no (N : Nat) (hN : 1000 ≤ N) (v : Valid hs ps cs ss) (ht : ¬ ∃ t, TruthO hs ps cs ss t) : f39 N hs ps cs ss = some ([], 9) := by
  obtain ⟨m, ok, e1, e2, e3⟩ := f70_eq N hs ps cs ss hN v
  have : ok = false := by
    cases ok with
    | false => rfl
    | true => exact absurd (e2.1 rfl) ht
  subst this
  unfold f39
  rw [e1, andThen_some]
  rfl
theorem can_less {t : Nat → Int} (ht : TruthO hs ps cs ss t) (l : List Int) : canB hs ps (nts cs ss) l = true := by
  rw [canB_iff]
  refine ⟨t, ht.1, ht.2.1, fun x hx => ?_⟩
  obtain ⟨i, hi, _, rfl⟩ := hx
  exact ht.2.2 _ (nt_mem hi)

theorem f39_yes (N : Nat) (hN : 50000 ≤ N) (v : Valid hs ps cs ss) (ht : ∃ t, TruthO hs ps cs ss t) :
    ∃ Q : Nat → Bool, (∀ o, f41 N hs ps cs ss [] = some (o, true) → ∀ i : Nat, i < (nts cs ss).length → ∃ o', f41 N hs ps cs ss [(i : Int)] = some (o', true) ∧ f24 N o' o = some (Q i)) ∧
      f39 N hs ps cs ss = some (filt Q (nts cs ss).length, 0) := by
  have n5 := v.n5
  have p8 := v.p8
  have c6 := v.c6
  have s4 := v.s4
  have hl := nts_len cs ss
  obtain ⟨m, ok, e1, e2, e3⟩ := f70_eq N hs ps cs ss (by omega) v
  have := e2.2 ht
  subst this
  have tg := e3 rfl
  obtain ⟨t, ht⟩ := ht
  have hbd : ∀ {K : Nt → Prop} {m : List Int}, Tight hs.length m (Truth hs ps K) → ∀ p, p < hs.length → -10000 ≤ ent m p 5 ∧ ent m p 5 ≤ 10000 := fun tg p hp => by
    have := tight_bd tg rfl n5 v.h p 5 (.inl hp) (.inr rfl)
    omega
  have hmask : ∀ i, i < (nts cs ss).length → ∃ mi, f92 N hs ps cs ss (nts cs ss) ((2 ^ i : Nat) : Int) [] = some (mi, true) ∧ Tight hs.length mi (Truth hs ps (KBut (nts cs ss) [(i : Int)])) := fun i hi => by
    obtain ⟨mi, a1, a2⟩ := gaps_mask hs ps cs ss N (by omega) v (w := 2 ^ i) (l := [(i : Int)]) (fun j hj => by
      rw [Nat.testBit_two_pow, decide_eq_true_iff, List.mem_singleton]; omega)
    rw [can_less hs ps cs ss ht] at a1 a2
    exact ⟨mi, a1, a2 rfl⟩
  let Q : Nat → Bool := fun i => @decide (∃ mi, Tight hs.length mi (Truth hs ps (KBut (nts cs ss) [(i : Int)])) ∧ spn hs.length mi = spn hs.length m) (Classical.propDecidable _)
  have hQ : ∀ (i : Nat) mi, Tight hs.length mi (Truth hs ps (KBut (nts cs ss) [(i : Int)])) → Q i = decide (spn hs.length mi = spn hs.length m) := fun i mi h1 => by
    rw [Bool.eq_iff_iff]
    show @decide _ (Classical.propDecidable _) = true ↔ _
    rw [@decide_eq_true_iff _ (Classical.propDecidable _), decide_eq_true_iff]
    constructor
    · rintro ⟨mj, h2, h3⟩
      rw [← h3]
      refine span_ext (by simp) fun p hp => ?_
      rw [spn_len] at hp
      rw [sp_spn hp, sp_spn hp]
      have key : ∀ a b, (a < hs.length ∨ a = 5) → (b < hs.length ∨ b = 5) → ent mi a b = ent mj a b := fun a b ha hb => by
        obtain ⟨t1, g1, g2⟩ := h1.att a b ha hb
        obtain ⟨t2, g3, g4⟩ := h2.att a b ha hb
        have := h1.up t2 g3 a b ha hb
        have := h2.up t1 g1 a b ha hb
        omega
      rw [key p 5 (.inl hp) (.inr rfl), key 5 p (.inr rfl) (.inl hp)]
    · intro h; exact ⟨mi, h1, h⟩
  refine ⟨Q, fun o ho i hi => ?_, ?_⟩
  · obtain ⟨o0, b1, b2, b3⟩ := f41_can hs ps cs ss N [] hN v (by simp)
    rw [ho] at b1
    obtain ⟨rfl, hb⟩ : o = o0 ∧ true = canB hs ps (nts cs ss) [] := by
      have := Option.some.inj b1
      exact Prod.mk.inj this
    obtain ⟨o', c1, c2, c3⟩ := f41_can hs ps cs ss N [(i : Int)] hN v (by simp)
    rw [can_less hs ps cs ss ht] at c1 c3
    refine ⟨o', c1, ?_⟩
    obtain ⟨mi, a1, a2⟩ := hmask i hi
    have x1 := exact_tight b2 n5 (b3 hb.symm) (by rw [Truth.congr (KBut_nil (nts cs ss))]; exact tg)
    have x2 := exact_tight c2 n5 (c3 rfl) a2
    rw [f24_eq N o' o (by omega) (by omega), hQ i mi a2, x1, x2]
  · obtain ⟨r, g1, g2⟩ := loop_run (fun q (i : Nat) => f39l0 N q (filt Q i) ((nts cs ss).length : Int) (i : Int) hs ps cs ss (nts cs ss) m) (fun i => i ≤ (nts cs ss).length) (fun i => (nts cs ss).length - i) (fun r => r = filt Q (nts cs ss).length) (fun q i hi => by
      by_cases h : i < (nts cs ss).length
      · right
        refine ⟨i + 1, h, by omega, ?_⟩
        show f39l0B N (f39l0 N q) (filt Q i) ((nts cs ss).length : Int) (i : Int) hs ps cs ss (nts cs ss) m = _
        obtain ⟨mi, a1, a2⟩ := hmask i h
        have hle := filt_len Q i
        unfold f39l0B
        rw [Int.toNat_natCast, wrap_pow (show i < 20 by omega)]
        simp only [show ((i : Int) < ((nts cs ss).length : Int)) by omega, Int.natCast_nonneg, decide_true, if_true, a1, andThen_some, f71_eq N hs ps cs ss (nts cs ss) mi (show 100 ≤ N by omega) n5 (hbd a2), f71_eq N hs ps cs ss (nts cs ss) m (show 100 ≤ N by omega) n5 (hbd tg), w_succ (show i < 4611686018427387904 by omega)]
        have e : (hts hs.length mi == hts hs.length m) = Q i := by
          rw [hQ i mi a2, Bool.eq_iff_iff, decide_eq_true_iff, ← hts_spn n5]
          simp
        rw [e, filt_succ]
        by_cases c : Q i = true
        · rw [if_pos c, if_pos (by simp [boundLen]; omega), if_pos c]
        · rw [if_neg c, if_neg c]
      · left
        have : i = (nts cs ss).length := by omega
        refine ⟨_, ?_, rfl⟩
        show f39l0B N (f39l0 N q) (filt Q i) ((nts cs ss).length : Int) (i : Int) hs ps cs ss (nts cs ss) m = _
        unfold f39l0B
        rw [if_neg (by simp; omega), this]) N 0 (Nat.zero_le _) (by omega)
    have g1 : f39l0 N N [] ((nts cs ss).length : Int) 0 hs ps cs ss (nts cs ss) m = some r := g1
    unfold f39
    rw [e1, andThen_some]
    simp only [if_true]
    rw [if_neg (by decide), g1, andThen_some, g2]

theorem law8 : f8 50000 hs ps cs ss = some true := by
  unfold f8
  rw [f15_eq, andThen_some, known_ok]
  by_cases hl : hs.length ≤ 12 ∧ ps.length ≤ 12 ∧ cs.length ≤ 12 ∧ ss.length ≤ 12
  case neg => rw [if_pos (by rw [decide_eq_false hl]; rfl)]; rfl
  rw [if_neg (by rw [decide_eq_true hl]; decide)]
  obtain ⟨l1, l2, l3, l4⟩ := hl
  rw [f17_eq _ hs ps cs ss (by omega) (by omega) (by omega) (by omega), andThen_some]
  simp only
  rw [f21_same _ hs ps cs ss (by omega) (by omega) (by omega) (by omega) (by omega), f22_eq _ hs ps cs ss (by omega) (by omega) (by omega) (by omega) (by omega)]
  by_cases hc : chk hs ps cs ss = 0
  case neg =>
    rw [f38_bad hs ps cs ss _ (by omega) (by omega) (by omega) (by omega) (by omega) hc, f39_bad hs ps cs ss _ (by omega) (by omega) (by omega) (by omega) (by omega) hc]
    simp only [andThen_some]
    rw [if_neg (by decide), if_pos (by simpa using hc)]
    simp
    rfl
  have v := chk_valid.1 hc
  have n1 := v.n1
  have n5 := v.n5
  have c6 := v.c6
  have s4 := v.s4
  have hln := nts_len cs ss
  have hnil : canB hs ps (nts cs ss) [] = true ↔ ∃ t, TruthO hs ps cs ss t := by rw [canB_iff, Truth.congr (KBut_nil (nts cs ss))]
  have enil : Ext (nts cs ss).length 0 ([] : List Int).length [] := ext_zero.2 rfl
  rcases f38_eq hs ps cs ss 50000 (by omega) v with ⟨s, a1, a2, a3, a4⟩ | ⟨a1, a2⟩
  · rcases f40_eq hs ps cs ss 50000 (by omega) v with ⟨s', b1, b2, b3, b4⟩ | ⟨b1, _⟩
    case inr => rw [b1 s a1] at a2; cases a2
    have : s = s' := lss_total (b3 s a1 a2) (a3 s' b1 b2)
    subst this
    by_cases hs0 : s = []
    · subst hs0
      have ht := hnil.1 a2
      obtain ⟨Q, q1, q2⟩ := f39_yes hs ps cs ss 50000 (by omega) v ht
      obtain ⟨o, d1, d2, d3⟩ := f41_can hs ps cs ss 50000 [] (by omega) v (by simp)
      rw [a2] at d1
      rw [if_pos rfl] at a4
      rw [a4, q2, b4, d1]
      simp only [andThen_some]
      rw [if_neg (by decide), if_neg (by rw [hc]; decide), if_neg (by decide), if_neg (by decide)]
      have hloop : f8l0 50000 50000 [] 6 (filt Q (nts cs ss).length) 0 o [] 0 hs ps cs ss = some ([], 6, filt Q (nts cs ss).length, 0, filt Q (nts cs ss).length) := by
        obtain ⟨r, g1, g2⟩ := loop_run (fun q (i : Nat) => f8l0 50000 q [] 6 (filt Q (nts cs ss).length) 0 o (filt Q i) (i : Int) hs ps cs ss) (fun i => i ≤ (nts cs ss).length) (fun i => (nts cs ss).length - i) (fun r => r = ([], 6, filt Q (nts cs ss).length, 0, filt Q (nts cs ss).length)) (fun q i hi => by
          by_cases h : i < (nts cs ss).length
          · right
            refine ⟨i + 1, h, by omega, ?_⟩
            show f8l0B 50000 (f8l0 50000 q) [] 6 (filt Q (nts cs ss).length) 0 o (filt Q i) (i : Int) hs ps cs ss = _
            obtain ⟨o', c1, c2⟩ := q1 o d1 i h
            have hle := filt_len Q i
            unfold f8l0B
            rw [w64_id (z := (cs.length : Int) + (ss.length : Int)) (by omega) (by omega)]
            simp only [show ((i : Int) < (cs.length : Int) + (ss.length : Int)) by omega, decide_true, if_true, c1, andThen_some, c2, w_succ (show i < 4611686018427387904 by omega)]
            rw [filt_succ]
            by_cases c : Q i = true
            · rw [if_pos c, if_pos (by simp [boundLen]; omega), if_pos c]
            · rw [if_neg c, if_neg c]
          · left
            have : i = (nts cs ss).length := by omega
            refine ⟨_, ?_, rfl⟩
            show f8l0B 50000 (f8l0 50000 q) [] 6 (filt Q (nts cs ss).length) 0 o (filt Q i) (i : Int) hs ps cs ss = _
            unfold f8l0B
            rw [w64_id (z := (cs.length : Int) + (ss.length : Int)) (by omega) (by omega), if_neg (by simp; omega), this]) 50000 0 (Nat.zero_le _) (by omega)
        rw [g2] at g1
        exact g1
      have hfl := filt_len Q (nts cs ss).length
      rw [hloop]
      simp only [andThen_some]
      rw [f31_eq 50000 _ _ (by omega) (by omega)]
      simp
    · have hno : ¬ ∃ t, TruthO hs ps cs ss t := fun h => by
        have := a3 [] enil (hnil.2 h)
        unfold lss at this
        cases s with
        | nil => exact hs0 rfl
        | cons x s => rw [if_neg (by simp)] at this; simp at this
      have hsl : s.length < 100 := by
        have key : ∀ (k : Nat) (s : List Int) (first : Nat), Ext (nts cs ss).length first k s → first ≤ (nts cs ss).length → k + first ≤ (nts cs ss).length := fun k => by
          induction k with
          | zero => intro s first h hf; omega
          | succ k ih =>
            intro s first h hf
            obtain ⟨i, r, rfl, h1, h2, h3⟩ := ext_split h
            have := ih r (i + 1) h3 (by omega)
            omega
        have := key _ s 0 a1 (Nat.zero_le _)
        omega
      have hpos : 0 < s.length := List.length_pos_iff.2 hs0
      rw [a4, f39_no hs ps cs ss 50000 (by omega) v hno, b4]
      simp only [andThen_some]
      rw [if_neg (by decide), if_neg (by rw [hc]; decide), if_neg (by decide), if_pos (by simp; omega), f31_eq 50000 s s (by omega) hsl]
      simp [hs0]
  · rcases f40_eq hs ps cs ss 50000 (by omega) v with ⟨s', b1, b2, b3, b4⟩ | ⟨b1, b2⟩
    case inl => rw [a1 s' b1] at b2; cases b2
    have hno : ¬ ∃ t, TruthO hs ps cs ss t := fun h => by
      have := a1 [] enil
      rw [hnil.2 h] at this; cases this
    rw [a2, f39_no hs ps cs ss 50000 (by omega) v hno, b2]
    simp only [andThen_some]
    rw [if_neg (by decide), if_neg (by rw [hc]; decide), if_pos (by decide)]
    simp
    rfl
end
end Go.Pl
namespace Go.Proofs.Ytegckmajjklonaa
theorem pure8 : Pure8 := fun _ _ => ⟨50000, Go.Pl.law8 _ _ _ _⟩
theorem furnaceWrongs_holds : Rows.FurnaceWrongsSaid := row8 pure8
end Go.Proofs.Ytegckmajjklonaa
