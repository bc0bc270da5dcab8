/- The law. FurnaceTruth: the true heats lie in Heats, and all differences in Apart; all least heats together are a truth, and all greatest ones; the hottest place is among those that possibly are. No conditions. -/
import Derived.Test.YtegckmajjklonaaMx10L1
set_option linter.unusedVariables false
set_option linter.unusedSimpArgs false
namespace Go.Pl
open Go.Al Go.Proofs

theorem how_note {n : Nat} {s : Sg} {u : Int} (h : okSg n s) (ht : NoteT (.inr s) u) : howN s.2.1 u = s.2.2 := by
  obtain ⟨_, _, ⟨a, b, c⟩, d, e⟩ := h
  have ht : if s.2.2 = 3 then s.2.1.2 ≤ u else if s.2.2 = 2 then s.2.1.1 ≤ u ∧ u ≤ s.2.1.2 - 1 else u ≤ s.2.1.1 - 1 := ht
  unfold howN
  by_cases h3 : s.2.2 = 3
  · rw [if_pos h3] at ht
    rw [if_neg (by omega), if_neg (by omega), h3]
  · rw [if_neg h3] at ht
    by_cases h2 : s.2.2 = 2
    · rw [if_pos h2] at ht
      rw [if_neg (by omega), if_pos (by omega), h2]
    · rw [if_neg h2] at ht
      rw [if_pos (by omega)]; omega

section
variable (hs : List Span) (ps : List Pr) (cs : List Cn) (ss : List Sg)
theorem f46_eq (N : Nat) (hN : 100 ≤ N) (v : Valid hs ps cs ss) (l : List Int) (hl : l.length = hs.length) (ht : TruthO hs ps cs ss (tt l)) : f46 N hs ps cs ss l = some true := by
  have n5 := v.n5
  have p8 := v.p8
  have c6 := v.c6
  have s4 := v.s4
  have hb : ∀ p, p < hs.length → 0 ≤ tt l p ∧ tt l p ≤ 1000 := fun p hp => box_deg v.h ht.1 p hp
  have e0 : f46l0 N N l 0 hs ps cs ss = some (.inr (l, hs, ps, cs, ss)) := loop_all (fun q i => f46l0 N q l (i : Int) hs ps cs ss) l.length _ (fun q i hi => by
    show f46l0B N (f46l0 N q) l (i : Int) hs ps cs ss = _
    have := ht.1 i (by omega)
    unfold tt sp at this
    unfold f46l0B
    simp only [show decide ((i : Int) < (l.length : Int)) = true from decide_eq_true (by omega), show decide ((i : Int) < (hs.length : Int)) = true from decide_eq_true (by omega), Int.natCast_nonneg, decide_true, Bool.and_true, if_true, Int.toNat_natCast, w_succ (show i < 4611686018427387904 by omega)]
    rw [if_pos (decide_eq_false (by omega)), if_neg (by rw [decide_eq_false (by omega)]; decide)]) (fun q => by
    show f46l0B N (f46l0 N q) l (l.length : Int) hs ps cs ss = _
    unfold f46l0B
    rw [if_neg (by simp)]) N (by omega)
  have e1 : f46l1 N N l 0 hs ps cs ss = some (.inr (l, hs, ps, cs, ss)) := loop_all (fun q i => f46l1 N q l (i : Int) hs ps cs ss) ps.length _ (fun q i hi => by
    show f46l1B N (f46l1 N q) l (i : Int) hs ps cs ss = _
    have hm : ps.getD i ((0 : Int), ((0 : Int), (0 : Int))) ∈ ps := getD_mem hi
    have hk := v.p _ hm
    have hq := ht.2.1 _ hm
    generalize hz : ps.getD i ((0 : Int), ((0 : Int), (0 : Int))) = z at *
    unfold f46l1B
    simp only [show decide ((i : Int) < (ps.length : Int)) = true from decide_eq_true (by omega), Int.natCast_nonneg, decide_true, Bool.and_true, if_true, Int.toNat_natCast, w_succ (show i < 4611686018427387904 by omega), hz]
    obtain ⟨k1, k2, k3, k4, k5, k6, k7⟩ := hk
    have b1 := hb z.1.toNat (by omega)
    have b2 := hb z.2.1.toNat (by omega)
    unfold tt at b1 b2 hq
    rw [w64_id (z := l.getD z.1.toNat 0 - l.getD z.2.1.toNat 0) (by omega) (by omega), w64_id (by omega) (by omega)]
    simp only [show decide (0 ≤ z.1) = true from decide_eq_true k1, show decide (z.1 < (l.length : Int)) = true from decide_eq_true (by omega), show decide (0 ≤ z.2.1) = true from decide_eq_true k3, show decide (z.2.1 < (l.length : Int)) = true from decide_eq_true (by omega), Bool.and_true, if_true]
    rw [if_neg (by rw [decide_eq_false (by split <;> omega)]; decide)]) (fun q => by
    show f46l1B N (f46l1 N q) l (ps.length : Int) hs ps cs ss = _
    unfold f46l1B
    rw [if_neg (by simp)]) N (by omega)
  have e2 : f46l2 N N l 0 hs ps cs ss = some (.inr (l, hs, ps, cs, ss)) := loop_all (fun q i => f46l2 N q l (i : Int) hs ps cs ss) cs.length _ (fun q i hi => by
    show f46l2B N (f46l2 N q) l (i : Int) hs ps cs ss = _
    have hm : cs.getD i ((0 : Int), ((0 : Int), false)) ∈ cs := getD_mem hi
    have hk := v.c _ hm
    have hq := ht.2.2 (.inl (cs.getD i ((0 : Int), ((0 : Int), false)))) (by unfold nts; exact List.mem_append_left _ (List.mem_map_of_mem hm))
    generalize hz : cs.getD i ((0 : Int), ((0 : Int), false)) = z at *
    unfold f46l2B
    simp only [show decide ((i : Int) < (cs.length : Int)) = true from decide_eq_true (by omega), Int.natCast_nonneg, decide_true, Bool.and_true, if_true, Int.toNat_natCast, w_succ (show i < 4611686018427387904 by omega), hz]
    obtain ⟨k1, k2, k3, k4⟩ := hk
    simp only [show decide (0 ≤ z.1) = true from decide_eq_true k1, show decide (z.1 < (l.length : Int)) = true from decide_eq_true (by omega), Bool.and_true, if_true]
    have e : (z.2.2 == decide (l.getD z.1.toNat 0 ≥ z.2.1)) = true := by
      unfold NoteOk NoteT plc tt at hq
      simp only at hq
      cases hy : z.2.2 with
      | true => rw [hy, if_pos rfl] at hq; rw [decide_eq_true (show l.getD z.1.toNat 0 ≥ z.2.1 from hq)]; rfl
      | false => rw [hy, if_neg (by decide)] at hq; rw [decide_eq_false (by omega)]; rfl
    rw [e]
    rfl) (fun q => by
    show f46l2B N (f46l2 N q) l (cs.length : Int) hs ps cs ss = _
    unfold f46l2B
    rw [if_neg (by simp)]) N (by omega)
  have e3 : f46l3 N N l 0 hs ps cs ss = some (.inr ()) := loop_all (fun q i => f46l3 N q l (i : Int) hs ps cs ss) ss.length _ (fun q i hi => by
    show f46l3B N (f46l3 N q) l (i : Int) hs ps cs ss = _
    have hm : ss.getD i ((0 : Int), (((0 : Int), (0 : Int)), (0 : Int))) ∈ ss := getD_mem hi
    have hk := v.s _ hm
    have hq := ht.2.2 (.inr (ss.getD i ((0 : Int), (((0 : Int), (0 : Int)), (0 : Int))))) (by unfold nts; exact List.mem_append_right _ (List.mem_map_of_mem hm))
    generalize hz : ss.getD i ((0 : Int), (((0 : Int), (0 : Int)), (0 : Int))) = z at *
    unfold f46l3B
    simp only [show decide ((i : Int) < (ss.length : Int)) = true from decide_eq_true (by omega), Int.natCast_nonneg, decide_true, Bool.and_true, if_true, Int.toNat_natCast, w_succ (show i < 4611686018427387904 by omega), hz]
    have hw := how_note hk hq
    obtain ⟨k1, k2, k3, k4, k5⟩ := hk
    simp only [show decide (0 ≤ z.1) = true from decide_eq_true k1, show decide (z.1 < (l.length : Int)) = true from decide_eq_true (by omega), Bool.and_true, if_true, f54_eq, andThen_some]
    have hw : howN z.2.1 (l.getD z.1.toNat 0) = z.2.2 := hw
    rw [hw, if_neg (by simp)]) (fun q => by
    show f46l3B N (f46l3 N q) l (ss.length : Int) hs ps cs ss = _
    unfold f46l3B
    rw [if_neg (by simp)]) N (by omega)
  unfold f46
  rw [e0]
  simp only [andThen_some, either_inr]
  rw [e1]
  simp only [andThen_some, either_inr]
  rw [e2]
  simp only [andThen_some, either_inr]
  rw [e3]
  rfl
end

/-- the least heats, or the greatest ones -/
def endsL (o : List Span) (b : Bool) : List Int := o.map fun s => if b = true then s.2 else s.1
theorem endsL_len (o : List Span) (b : Bool) : (endsL o b).length = o.length := by simp [endsL]
theorem f47_eq (N : Nat) (o : List Span) (b : Bool) (hN : 100 ≤ N) (hn : o.length ≤ 5) : f47 N o b = some (endsL o b) := by
  unfold endsL
  obtain ⟨r, h1, h2⟩ := loop_run (fun q (i : Nat) => f47l0 N q o b ((o.take i).map fun s => if b = true then s.2 else s.1) (i : Int)) (fun i => i ≤ o.length) (fun i => o.length - i) (fun r => r = o.map fun s => if b = true then s.2 else s.1) (fun q i hi => by
    by_cases h : i < o.length
    · right
      refine ⟨i + 1, h, by omega, ?_⟩
      show f47l0B N (f47l0 N q) o b ((o.take i).map fun s => if b = true then s.2 else s.1) (i : Int) = _
      rw [take_get o (0, 0) h, List.map_append, List.map_cons, List.map_nil]
      unfold f47l0B
      simp only [show decide ((i : Int) < (o.length : Int)) = true from decide_eq_true (by omega), Int.natCast_nonneg, decide_true, Bool.and_true, if_true, Int.toNat_natCast, w_succ (show i < 4611686018427387904 by omega)]
      cases b
      · rw [if_neg (by decide), if_pos (by simp [boundLen]; omega), if_neg (by decide)]
      · rw [if_pos rfl, if_pos (by simp [boundLen]; omega), if_pos rfl]
    · left
      have : i = o.length := by omega
      subst this
      refine ⟨_, ?_, rfl⟩
      rw [List.take_length]
      show f47l0B N (f47l0 N q) o b _ (o.length : Int) = _
      unfold f47l0B
      rw [if_neg (by simp)]) N 0 (Nat.zero_le _) (by omega)
  rw [h2] at h1
  unfold f47
  have h1 : f47l0 N N o b [] 0 = some (o.map fun s => if b = true then s.2 else s.1) := h1
  rw [h1]; rfl
theorem tt_map {o : List Span} {p : Nat} (b : Bool) (hp : p < o.length) : tt (endsL o b) p = if b = true then (sp o p).2 else (sp o p).1 := by
  unfold tt sp endsL
  rw [List.getD_eq_getElem?_getD, List.getElem?_map, List.getElem?_eq_getElem hp, List.getD_eq_getElem?_getD, List.getElem?_eq_getElem hp]
  rfl
theorem f48_eq (N : Nat) (x a b : Int) : f48 N x a b = some (decide (a ≤ x ∧ x ≤ b)) := by
  unfold f48
  by_cases h1 : a ≤ x
  · rw [if_pos (decide_eq_true h1)]
    simp [h1]
  · rw [if_neg (by rw [decide_eq_false h1]; decide)]
    simp [h1]

theorem zt_at {t : Nat → Int} {a : Nat} (h : a ≠ 5) : zt t a = t a := if_neg h
/-- what follows of the differences -/
theorem tri {n : Nat} {m : List Int} {T : (Nat → Int) → Prop} (h : Tight n m T) {a b c : Nat} (ha : a < n ∨ a = 5) (hb : b < n ∨ b = 5) (hc : c < n ∨ c = 5) : ent m a c ≤ ent m a b + ent m b c := by
  obtain ⟨t, ht, e⟩ := h.att a c ha hc
  have h1 := h.up t ht a b ha hb
  have h2 := h.up t ht b c hb hc
  omega

section
variable (hs : List Span) (ps : List Pr) (cs : List Cn) (ss : List Sg)
theorem f10l1_eq (N : Nat) (hN : 1000 ≤ N) (heats : List Int) (md : Made hs ps cs ss heats) {m : List Int} (hm : f70 N hs ps cs ss = some (hs, ps, cs, ss, nts cs ss, m, 0)) (tg : Tight hs.length m (TruthO hs ps cs ss)) (sur pos : List Int) (a : Nat) (ha : a < hs.length) :
    f10l1 N N heats (spn hs.length m) sur pos a true 0 hs ps cs ss = some (.inr (heats, spn hs.length m, sur, pos, (a : Int), decide (∀ b, b < hs.length → tt heats b ≤ tt heats a), hs, ps, cs, ss)) := by
  have v := md.v
  have n4 := md.n4
  have hl := md.plc.l1
  have p5 := md.p5
  have c5 := md.c5
  have s3 := md.s3
  obtain ⟨r, g1, g2⟩ := loop_run (fun q (b : Nat) => f10l1 N q heats (spn hs.length m) sur pos a (decide (∀ c, c < b → tt heats c ≤ tt heats a)) (b : Int) hs ps cs ss) (fun b => b ≤ hs.length) (fun b => hs.length - b)
    (fun r => r = .inr (heats, spn hs.length m, sur, pos, (a : Int), decide (∀ b, b < hs.length → tt heats b ≤ tt heats a), hs, ps, cs, ss)) (fun q b hb => by
      by_cases h : b < hs.length
      · right
        refine ⟨b + 1, h, by omega, ?_⟩
        show f10l1B N (f10l1 N q) heats (spn hs.length m) sur pos a _ (b : Int) hs ps cs ss = _
        have e1 := f20_yes N hs ps cs ss (a : Int) (b : Int) hN v hm tg
        rw [if_pos ⟨by omega, by omega, by omega, by omega⟩, Int.toNat_natCast, Int.toNat_natCast] at e1
        have e2 := f20_yes N hs ps cs ss (b : Int) (a : Int) hN v hm tg
        rw [if_pos ⟨by omega, by omega, by omega, by omega⟩, Int.toNat_natCast, Int.toNat_natCast] at e2
        have b1 := tight_bd tg rfl v.n5 v.h a b (.inl ha) (.inl h)
        have b2 := tight_bd tg rfl v.n5 v.h b a (.inl h) (.inl ha)
        have u1 := tg.up _ md.truth a b (.inl ha) (.inl h)
        have u2 := tg.up _ md.truth b a (.inl h) (.inl ha)
        rw [zt_at (by omega), zt_at (by omega)] at u1 u2
        have k1 := md.plc.b a ha
        have k2 := md.plc.b b h
        have d1 := tight_bd tg rfl v.n5 v.h a 5 (.inl ha) (.inr rfl)
        have d2 := tight_bd tg rfl v.n5 v.h 5 a (.inr rfl) (.inl ha)
        have d3 := tight_bd tg rfl v.n5 v.h b 5 (.inl h) (.inr rfl)
        have d4 := tight_bd tg rfl v.n5 v.h 5 b (.inr rfl) (.inl h)
        have t1 := tri tg (a := a) (b := 5) (c := b) (.inl ha) (.inr rfl) (.inl h)
        have t2 := tri tg (a := b) (b := 5) (c := a) (.inl h) (.inr rfl) (.inl ha)
        have s1 := sp_spn (m := m) ha
        have s2 := sp_spn (m := m) h
        unfold sp at s1 s2
        have F1 : Go.IntKind.wrap .i64 (heats.getD a 0 - heats.getD b 0) = tt heats a - tt heats b := w64_id (by unfold tt at k1 k2; omega) (by unfold tt at k1 k2; omega)
        have F2 : decide (-ent m a b ≤ tt heats a - tt heats b ∧ tt heats a - tt heats b ≤ ent m b a) = true := decide_eq_true (by omega)
        have F3 : Go.IntKind.wrap .i64 (0 - ent m b a) = -ent m b a := by rw [w64_id (by omega) (by omega)]; omega
        have F4 : Go.IntKind.wrap .i64 (0 - -ent m a b) = ent m a b := by rw [w64_id (by omega) (by omega)]; omega
        have F5 : decide (-ent m a b < Go.IntKind.wrap .i64 (-ent m a 5 - ent m 5 b)) = false := by rw [w64_id (by omega) (by omega)]; exact decide_eq_false (by omega)
        have F6 : decide (ent m b a > Go.IntKind.wrap .i64 (ent m 5 a - -ent m b 5)) = false := by rw [w64_id (by omega) (by omega)]; exact decide_eq_false (by omega)
        have G1 : decide ((b : Int) < (heats.length : Int)) = true := decide_eq_true (by omega)
        have G2 : decide ((a : Int) < (heats.length : Int)) = true := decide_eq_true (by omega)
        have G3 : decide ((b : Int) < ((spn hs.length m).length : Int)) = true := decide_eq_true (by rw [spn_len]; omega)
        have G4 : decide ((a : Int) < ((spn hs.length m).length : Int)) = true := decide_eq_true (by rw [spn_len]; omega)
        have top : decide (∀ c, c < b + 1 → tt heats c ≤ tt heats a) = (decide (∀ c, c < b → tt heats c ≤ tt heats a) && decide (heats.getD b 0 ≤ heats.getD a 0)) := by
          rw [Bool.eq_iff_iff, Bool.and_eq_true, decide_eq_true_eq, decide_eq_true_eq, decide_eq_true_eq]
          constructor
          · intro hh; exact ⟨fun c hc => hh c (by omega), hh b (by omega)⟩
          · rintro ⟨h1, h2⟩ c hc
            by_cases e : c = b
            · subst e; exact h2
            · exact h1 c (by omega)
        rw [top]
        generalize decide (∀ c, c < b → tt heats c ≤ tt heats a) = T
        unfold f10l1B
        have ebq : ∀ x : Int, (x == x) = true := fun x => beq_self_eq_true x
        simp only [G1, G2, G3, G4, Int.natCast_nonneg, decide_true, Bool.and_true, if_true, Int.toNat_natCast, f45_eq N hs ps cs ss (show hs.length < 100 by omega) (show ps.length < 100 by omega) (show cs.length < 100 by omega) (show ss.length < 100 by omega), andThen_some, e1, e2, F1, f48_eq, F2, f26_eq, F3, F4, ebq, s1, s2, F5, F6, show ((0 : Int) != 0) = false from rfl, show (!true) = false from rfl, Bool.false_eq_true, if_false, w_succ (show b < 4611686018427387904 by omega)]
        cases T
        · rfl
        · rfl
      · left
        have : b = hs.length := by omega
        subst this
        refine ⟨_, ?_, rfl⟩
        show f10l1B N (f10l1 N q) heats (spn hs.length m) sur pos a _ (hs.length : Int) hs ps cs ss = _
        unfold f10l1B
        rw [if_neg (by rw [hl]; simp)]) N 0 (Nat.zero_le _) (by omega)
  rw [g2] at g1
  have hz : ∀ k, k = 0 → decide (∀ c, c < k → tt heats c ≤ tt heats a) = true := fun k hk => decide_eq_true fun c hc => by omega
  rw [hz 0 rfl] at g1
  exact g1

theorem mem_filt {P : Nat → Bool} {n a : Nat} (ha : a < n) : (a : Int) ∈ filt P n ↔ P a = true := by
  unfold filt
  rw [List.mem_map]
  constructor
  · rintro ⟨j, hj, e⟩
    rw [List.mem_filter] at hj
    have : j = a := by omega
    subst this; exact hj.2
  · intro h
    exact ⟨a, by rw [List.mem_filter, List.mem_range]; exact ⟨ha, h⟩, rfl⟩

theorem law10 (pl pr : L3) (cn : L2) (sg : L3) (h1 : ∀ v ∈ pl, By3 v) (h2 : ∀ v ∈ pr, By3 v) (h3 : ∀ v ∈ cn, By2 v) (h4 : ∀ v ∈ sg, By3 v) : f10 50000 pl pr cn sg = some true := by
  obtain ⟨hs, ps, cs, ss, heats, e0, md⟩ := f44_eq 50000 (by omega) pl pr cn sg h1 h2 h3 h4
  have v := md.v
  have n4 := md.n4
  have n1 := v.n1
  have hl := md.plc.l1
  have p5 := md.p5
  have c5 := md.c5
  have s3 := md.s3
  have ht : ∃ t, TruthO hs ps cs ss t := ⟨_, md.truth⟩
  obtain ⟨m, e1, tg, e2, e3⟩ := f19_yes 50000 hs ps cs ss (by omega) v ht
  obtain ⟨_, r2⟩ := f23_eq 50000 hs ps cs ss (by omega) v
  obtain ⟨o, _, f2, ex⟩ := r2 ht
  have eo : o = spn hs.length m := exact_tight f2 v.n5 ex tg
  subst eo
  let Q : Nat → Bool := fun p => @decide (∃ t, TruthO hs ps cs ss t ∧ ∀ o, o < hs.length → t o ≤ t p) (Classical.propDecidable _)
  have hQ : ∀ p, p < hs.length → (Q p = true ↔ ∃ t, TruthO hs ps cs ss t ∧ ∀ o, o < hs.length → t o ≤ t p) := fun p _ => @decide_eq_true_iff _ (Classical.propDecidable _)
  have e4 := f32_yes 50000 hs ps cs ss Q (by omega) v e1 tg hQ
  have hends : ∀ b : Bool, TruthO hs ps cs ss (tt (endsL (spn hs.length m) b)) := fun b => by
    refine truth_shift rfl v.p (fun x hx => nts_ok v x hx) (fun p hp => tt_map b (by rw [spn_len]; exact hp)) ?_
    cases b
    · exact ex.lo
    · exact ex.hi
  have e45 := f45_eq 50000 hs ps cs ss (by omega) (by omega) (by omega) (by omega)
  unfold f10
  rw [e0]
  simp only [andThen_some]
  rw [e45]
  simp only [andThen_some]
  rw [e3]
  simp only [andThen_some]
  rw [e4]
  simp only [andThen_some]
  rw [if_pos (by decide), if_pos (by decide), if_pos (by rw [spn_len, hl]; simp), f47_eq 50000 _ false (by omega) (by rw [spn_len]; omega)]
  simp only [andThen_some]
  rw [f46_eq hs ps cs ss 50000 (by omega) v _ (by rw [endsL_len, spn_len]) (hends false)]
  simp only [andThen_some]
  rw [if_pos (by decide), f47_eq 50000 _ true (by omega) (by rw [spn_len]; omega)]
  simp only [andThen_some]
  rw [f46_eq hs ps cs ss 50000 (by omega) v _ (by rw [endsL_len, spn_len]) (hends true)]
  simp only [andThen_some]
  rw [if_neg (by decide)]
  have hS := filt_len (hotS hs.length m) hs.length
  have hP := filt_len Q hs.length
  have hloop : f10l0 50000 50000 heats (spn hs.length m) (filt (hotS hs.length m) hs.length) (filt Q hs.length) 0 hs ps cs ss = some (.inr ()) := loop_all (fun q i => f10l0 50000 q heats (spn hs.length m) (filt (hotS hs.length m) hs.length) (filt Q hs.length) (i : Int) hs ps cs ss) hs.length _ (fun q a ha => by
    show f10l0B 50000 (f10l0 50000 q) heats (spn hs.length m) (filt (hotS hs.length m) hs.length) (filt Q hs.length) (a : Int) hs ps cs ss = _
    unfold f10l0B
    rw [if_pos (by rw [hl]; exact decide_eq_true (by omega)), f10l1_eq hs ps cs ss 50000 (by omega) heats md e1 tg _ _ a ha]
    simp only [andThen_some, either_inr]
    have G2 : decide ((a : Int) < (heats.length : Int)) = true := decide_eq_true (by omega)
    have G4 : decide ((a : Int) < ((spn hs.length m).length : Int)) = true := decide_eq_true (by rw [spn_len]; omega)
    have s1 := sp_spn (m := m) ha
    unfold sp at s1
    have u1 := tg.up _ md.truth a 5 (.inl ha) (.inr rfl)
    have u2 := tg.up _ md.truth 5 a (.inr rfl) (.inl ha)
    unfold zt at u1 u2
    rw [if_pos rfl, if_neg (by omega)] at u1 u2
    have F1 : decide (-ent m a 5 ≤ heats.getD a 0 ∧ heats.getD a 0 ≤ ent m 5 a) = true := decide_eq_true (by unfold tt at u1 u2; omega)
    have FS := f49_eq 50000 (filt (hotS hs.length m) hs.length) (a : Int) (by omega) (by omega)
    have FP := f49_eq 50000 (filt Q hs.length) (a : Int) (by omega) (by omega)
    have DS : decide ((a : Int) ∈ filt (hotS hs.length m) hs.length) = hotS hs.length m a := by rw [Bool.eq_iff_iff, decide_eq_true_eq, mem_filt ha]
    have DP : decide ((a : Int) ∈ filt Q hs.length) = Q a := by rw [Bool.eq_iff_iff, decide_eq_true_eq, mem_filt ha]
    rw [DS] at FS
    rw [DP] at FP
    have top_q : decide (∀ b, b < hs.length → tt heats b ≤ tt heats a) = true → Q a = true := fun h => (hQ a ha).2 ⟨_, md.truth, of_decide_eq_true h⟩
    have sur_top : hotS hs.length m a = true → decide (∀ b, b < hs.length → tt heats b ≤ tt heats a) = true := fun h => by
      refine decide_eq_true fun b hb => ?_
      unfold hotS at h
      have h := of_decide_eq_true h b hb
      have u := tg.up _ md.truth a b (.inl ha) (.inl hb)
      rw [zt_at (by omega), zt_at (by omega)] at u
      omega
    generalize decide (∀ b, b < hs.length → tt heats b ≤ tt heats a) = TP at *
    simp only [G2, G4, Int.natCast_nonneg, decide_true, Bool.and_true, if_true, Int.toNat_natCast, s1, f48_eq, F1, andThen_some, show (!true) = false from rfl, FS, FP, w_succ (show a < 4611686018427387904 by omega)]
    cases TP with
    | true =>
      rw [top_q rfl]
      simp only [if_true, show (!true) = false from rfl, Bool.false_eq_true, if_false]
      cases hotS hs.length m a <;> rfl
    | false =>
      have : hotS hs.length m a = false := by
        cases h : hotS hs.length m a with
        | false => rfl
        | true => have := sur_top h; cases this
      rw [this]
      rfl) (fun q => by
    show f10l0B 50000 (f10l0 50000 q) heats (spn hs.length m) _ _ (hs.length : Int) hs ps cs ss = _
    unfold f10l0B
    rw [if_neg (by rw [hl]; simp)]) 50000 (by omega)
  rw [hloop]
  simp only [andThen_some, either_inr, known_ok]
end
end Go.Pl
namespace Go.Proofs.Ytegckmajjklonaa
open Go.Pl in
theorem kiln_good (x : Go.Al.den Kiln) (h : Go.Al.GoodD Kiln x) : (∀ v ∈ x.1, By3 v) ∧ (∀ v ∈ x.2.1, By3 v) ∧ (∀ v ∈ x.2.2.1, By2 v) ∧ (∀ v ∈ x.2.2.2, By3 v) := by
  obtain ⟨⟨_, a⟩, ⟨_, b⟩, ⟨_, c⟩, ⟨_, d⟩⟩ := h
  exact ⟨fun v hv => ⟨by_of (a v hv).1, by_of (a v hv).2.1, by_of (a v hv).2.2⟩, fun v hv => ⟨by_of (b v hv).1, by_of (b v hv).2.1, by_of (b v hv).2.2⟩, fun v hv => ⟨by_of (c v hv).1, by_of (c v hv).2⟩, fun v hv => ⟨by_of (d v hv).1, by_of (d v hv).2.1, by_of (d v hv).2.2⟩⟩
theorem pure10 : Pure10 := fun x h => ⟨50000, Go.Pl.law10 _ _ _ _ (kiln_good x h).1 (kiln_good x h).2.1 (kiln_good x h).2.2.1 (kiln_good x h).2.2.2⟩
theorem furnaceTruth_holds : Rows.FurnaceTruthSaid := row10 pure10
end Go.Proofs.Ytegckmajjklonaa
