/- Calls: what the callee is handed. -/
import Derived.Test.YtcgmelealalhhaaGreatDoorAlOp10
namespace Go.Al
variable {P : Program} {H : Hint}
def outM : Nat → List A1 → Mem
 | _, [] => [] | j, b :: r => (.outer j, .bx b) :: outM (j + 1) r
def ghOf (S : Nat → Prop) (ω γ κ : Nat → Nat) : Gh := ⟨S, fun l => match l with | .outer j => ω j | .own n => γ n | _ => 0, κ⟩
def begOf (w : World) (S : Nat → Prop) (ω : Nat → Nat) (n : Nat) (gv : Nat → Prop) : Beg := ⟨w, S, ω, n, 0, none, gv⟩
def YGoes (P : Program) (cargs : List Value) (w : World) (R : Ending → World → Prop) : Prop := ∃ (b : Nat) (rest : List Value) (fn : FuncId) (tmps : Array Value) (assign body : Code),
 cargs = rest ++ [.pointer (some ⟨b, 0, none⟩)] ∧ (Instr.yield b rest.toArray).run P w = .ok (.round b fn tmps assign body) w ∧ RoundIn (fw none) 0 P b fn tmps assign body w R
def Goes (P : Program) (f : FuncId) (cargs : List Value) (w : World) (R : Ending → World → Prop) : Prop := if f < yB then Calls P f cargs.toArray w R else YGoes P cargs w R
theorem Goes.mono {f : FuncId} {cargs : List Value} {w : World} {R R' : Ending → World → Prop} (h : Goes P f cargs w R) (hr : ∀ e w', R e w' → R' e w') : Goes P f cargs w R' := by
 unfold Goes at h ⊢
 split at h
 ·rename_i hf; rw [if_pos hf]; exact h.mono hr
 ·rename_i hf; rw [if_neg hf]
  obtain ⟨b, rest, fn, tmps, assign, body, h1, h2, h3⟩ := h
  exact ⟨b, rest, fn, tmps, assign, body, h1, h2, h3.mono hr⟩
def ACalls (P : Program) (f : FuncId) (args : List A1) (outs : List A1) (gs : Mem) (res : AV) (m' : Mem) : Prop :=
 ∀ (w : World) (S : Nat → Prop) (ω γ κ : Nat → Nat) (gv : Nat → Prop) (cargs : List Value), MRel P (begOf w S ω outs.length gv) (ghOf S ω γ κ) (outM 0 outs ++ gs) w → All2 (A1Rel (ghOf S ω γ κ) (outM 0 outs ++ gs) w) args cargs →
  Goes P f cargs w fun e w' => ∃ v G', e = .returned v ∧ MRel P (begOf w S ω outs.length gv) G' (m' ++ outM 0 outs) w' ∧ AVRel G' (m' ++ outM 0 outs) w' res v ∧
   (∀ j, j < outs.length → getM m' (.outer j) = none → w'.heap[ω j]? = w.heap[ω j]?)
theorem getM_append (a b : Mem) (l : Loc) : getM (a ++ b) l = match getM a l with | some o => some o | none => getM b l := by
 induction a with
 | nil => rfl
 | cons x r ih =>
  obtain ⟨l', o⟩ := x
  rw [List.cons_append, getM_cons, getM_cons]
  by_cases e : l' = l
  ·simp [e]
  ·simp [e, ih]
theorem getM_outM : ∀ (bs : List A1) (k j : Nat), getM (outM k bs) (.outer j) = if k ≤ j then (bs[j - k]?).map .bx else none
 | [], k, j => by simp [outM, getM]
 | b :: r, k, j => by
  rw [outM, getM_cons]
  by_cases e : k = j
  ·subst e; simp
  ·rw [if_neg (by simpa using e), getM_outM r (k + 1) j]
   by_cases h : k + 1 ≤ j
   ·rw [if_pos h, if_pos (by omega), show j - k = (j - (k + 1)) + 1 by omega, List.getElem?_cons_succ]
   ·rw [if_neg h, if_neg (by omega)]
theorem getM_outM0 (bs : List A1) (j : Nat) : getM (outM 0 bs) (.outer j) = (bs[j]?).map .bx := by rw [getM_outM]; simp
theorem getM_outM_other : ∀ (bs : List A1) (k : Nat) (l : Loc), (∀ j, l ≠ .outer j) → getM (outM k bs) l = none
 | [], _, _, _ => rfl
 | b :: r, k, l, h => by rw [outM, getM_cons, if_neg (fun e => h k e.symm), getM_outM_other r _ l h]
theorem a1s_some : ∀ {avs : List AV} {as : List A1}, a1s avs = some as → avs = as.map .a
 | [], as, h => by simp [a1s] at h; subst h; rfl
 | .tup _ :: _, as, h => by simp [a1s] at h
 | .a x :: r, as, h => by
  have key : ∀ q : Option (List A1), (match q with | some l => some (x :: l) | none => none) = some as → ∃ l, q = some l ∧ as = x :: l := fun q hq => by
   cases q with
   | none => cases hq
   | some l => cases hq; exact ⟨l, rfl, rfl⟩
  cases x with
  | one c =>
   cases c <;> simp only [a1s] at h <;> first | (cases h; done) | skip
   all_goals
    obtain ⟨l, h1, rfl⟩ := key _ h
    rw [a1s_some h1]; rfl
  | agg l' =>
   simp only [a1s] at h
   obtain ⟨l, h1, rfl⟩ := key _ h
   rw [a1s_some h1]; rfl
  | arr τ n xs =>
   simp only [a1s] at h
   obtain ⟨l, h1, rfl⟩ := key _ h
   rw [a1s_some h1]; rfl
  | lp g p ts l' =>
   simp only [a1s] at h
   obtain ⟨l, h1, rfl⟩ := key _ h
   rw [a1s_some h1]; rfl
  | mp =>
   simp only [a1s] at h
   obtain ⟨l, h1, rfl⟩ := key _ h
   rw [a1s_some h1]; rfl
theorem bxs_some {μ : Loc → Option Obj} : ∀ {all ls : List Loc} {bs : List A1}, bxs μ all ls = some bs → bs.length = ls.length ∧ ∀ (j : Nat) (l : Loc) (b : A1), ls[j]? = some l → bs[j]? = some b → μ l = some (.bx b) ∧ ∀ y ∈ locsA b, y ∈ all
 | _, [], bs, h => by simp [bxs] at h; subst h; exact ⟨rfl, fun j l b hl => by simp at hl⟩
 | all, l :: r, bs, h => by
  simp only [bxs] at h
  split at h
  ·rename_i v hv
   obtain ⟨he, h⟩ := cond_some h
   split at h
   ·rename_i x hx
    cases h
    obtain ⟨i1, i2⟩ := bxs_some hx
    refine ⟨by simp [i1], fun j l' b hl hb => ?_⟩
    cases j with
    | zero => simp at hl hb; subst hl; subst hb; exact ⟨hv, fun y hy => by obtain ⟨z, hz, e⟩ := List.any_eq_true.1 (List.all_eq_true.1 he y hy); rw [Loc.eqb_iff.1 e]; exact hz⟩
    | succ j => simp at hl hb; exact i2 j l' b hl hb
   ·cases h
  ·cases h
theorem addLs_spec : ∀ (xs : List Loc) (l : List Loc), l.Nodup → (addLs l xs).Nodup ∧ (∀ x, x ∈ addLs l xs ↔ x ∈ l ∨ x ∈ xs)
 | [], l, h => ⟨h, fun x => by simp [addLs]⟩
 | y :: r, l, h => by
  have key : (addL l y).Nodup ∧ ∀ x, x ∈ addL l y ↔ x ∈ l ∨ x = y := by
   unfold addL
   cases ha : l.any (Loc.eqb y) with
   | true =>
    obtain ⟨z, hz, hy⟩ := List.any_eq_true.1 ha
    have := Loc.eqb_iff.1 hy
    subst this
    exact ⟨h, fun x => ⟨.inl, fun hx => hx.elim id fun e => e ▸ hz⟩⟩
   | false =>
    have hn : y ∉ l := fun hy => by
     have := List.any_eq_false.1 ha y hy
     exact this (Loc.eqb_iff.2 rfl)
    refine ⟨List.nodup_append.2 ⟨h, by simp, fun a ha' b hb => ?_⟩, fun x => by simp⟩
    simp at hb; subst hb
    exact fun e => hn (e ▸ ha')
  obtain ⟨i1, i2⟩ := addLs_spec r (addL l y) key.1
  refine ⟨i1, fun x => ?_⟩
  rw [addLs, i2, key.2]
  simp [or_assoc, eq_comm]
theorem idxL_spec {x : Loc} : ∀ {ls : List Loc}, x ∈ ls → ls[idxL x ls]? = some x
 | y :: r, h => by
  simp only [idxL]
  cases he : Loc.eqb x y with
  | true => have := Loc.eqb_iff.1 he; subst this; rfl
  | false =>
   have hne := Loc.eqb_ne.1 he
   have := idxL_spec ((List.mem_cons.1 h).resolve_left hne)
   simpa using this
def lentS (G : Gh) (m : Mem) (ow : List Nat) : Nat → Prop := fun b => G.S b ∨ ∃ i ∈ ow, ∃ τ xs fr, getM m (.own i) = some (.sl τ xs fr) ∧ xs ≠ [] ∧ b = G.β (.own i)
def omega_ (G : Gh) (ls : List Loc) : Nat → Nat := fun j => match ls[j]? with | some l => G.β l | none => 0
theorem lent_ext (G : Gh) (m : Mem) (w : World) (ow : List Nat) : Ext G m w ⟨lentS G m ow, G.β, G.κ⟩ m w := ⟨fun _ h => .inl h, fun _ _ => rfl, fun _ o h => ⟨o, h, Ch.refl o, rfl, fun _ _ => rfl⟩⟩
def handC (μ : Loc → Option Obj) (gl : List Nat) (ls : List Loc) (x : C) : C := mapL (fun l => .outer (idxL l ls)) (giveC gl μ x)
def gamma (G : Gh) (gl : List Nat) : Nat → Nat := fun n => match srcG gl 0 n with | some i => G.β (.own i) | none => 0
def kappa (G : Gh) (gl : List Nat) : Nat → Nat := fun n => match srcG gl 0 n with | some i => G.κ i | none => 0
def handM (m : Mem) (gl : List Nat) (ls : List Loc) (bs : List A1) : Mem := outM 0 (bs.map (mapC (handC (getM m) gl ls))) ++ gvM (getM m) gl 0
def handG (G : Gh) (m : Mem) (gl : List Nat) (ls : List Loc) (ow : List Nat) : Gh := ghOf (lentS G m ow) (omega_ G ls) (gamma G gl) (kappa G gl)
def gvOf (G : Gh) (m : Mem) (gl : List Nat) : Nat → Prop := fun b => ∃ i ∈ gl, Real G m (.own i) ∧ b = G.β (.own i)
structure GOk (m : Mem) (gl ow : List Nat) : Prop where
 nd : nodupH gl = true
 live : ∀ i ∈ gl, ∃ τ xs, getM m (.own i) = some (.sl τ xs false)
 name : ∀ i ∈ gl, srcG gl 0 (gname i (idxN i gl)) = some i
 off : ∀ i ∈ ow, i ∉ gl
theorem hasN_iff {i : Nat} : ∀ {l : List Nat}, hasN i l = true ↔ i ∈ l
 | [] => by simp [hasN]
 | j :: r => by
  simp only [hasN, nat_beq]
  by_cases e : i = j
  ·subst e; simp
  ·simp [e, hasN_iff (l := r)]
theorem hasN_not {i : Nat} {l : List Nat} : hasN i l = false ↔ i ∉ l := by
 rw [← hasN_iff]; simp
theorem srcG_mem {n i : Nat} : ∀ {l : List Nat} {k : Nat}, srcG l k n = some i → i ∈ l
 | j :: r, k, h => by
  simp only [srcG] at h
  cases hb : Nat.beq (gname j k) n with
  | true => rw [hb] at h; cases h; exact List.mem_cons_self
  | false => rw [hb] at h; exact List.mem_cons_of_mem _ (srcG_mem h)
theorem srcG_idx {n i : Nat} : ∀ {l : List Nat} {k : Nat}, nodupH l = true → srcG l k n = some i → n = gname i (k + idxN i l)
 | j :: r, k, hn, h => by
  simp only [srcG] at h
  simp only [nodupH, Bool.and_eq_true, Bool.not_eq_true'] at hn
  cases hb : Nat.beq (gname j k) n with
  | true =>
   rw [hb] at h; cases h
   have := Nat.eq_of_beq_eq_true hb
   simp [idxN, this]
  | false =>
   rw [hb] at h
   have hi := srcG_mem h
   have hne : i ≠ j := fun e => by subst e; exact hasN_not.1 hn.1 hi
   have := srcG_idx hn.2 h
   simp only [idxN, nat_beq, hne, decide_false, cond_false]
   rw [this]; congr 1; omega
theorem gname_lt {i k : Nat} (h : gname i k < 4096) : i < 4096 := by
 unfold gname at h
 cases hb : Nat.blt i 4096 with
 | true => exact of_blt hb
 | false => rw [hb] at h; simp at h; omega
theorem getM_gvM {μ : Loc → Option Obj} {n : Nat} : ∀ {l : List Nat} {k : Nat}, (∀ i ∈ l, ∃ o, μ (.own i) = some o) → getM (gvM μ l k) (.own n) = match srcG l k n with | some i => μ (.own i) | none => none
 | [], _, _ => rfl
 | j :: r, k, h => by
  obtain ⟨o, ho⟩ := h j (by simp)
  simp only [gvM, ho, srcG, nat_beq]
  rw [getM_cons]
  by_cases e : gname j k = n
  ·simp [e, ho]
  ·simp only [e, decide_false, cond_false]
   rw [if_neg (by simpa using e)]
   exact getM_gvM fun i hi => h i (by simp [hi])
theorem getM_gvM_other {μ : Loc → Option Obj} {l' : Loc} (hl : ∀ i, l' ≠ .own i) : ∀ {l : List Nat} {k : Nat}, getM (gvM μ l k) l' = none
 | [], _ => rfl
 | j :: r, k => by
  simp only [gvM]
  split
  ·rw [getM_cons, if_neg (fun e => hl _ e.symm)]; exact getM_gvM_other hl
  ·exact getM_gvM_other hl
theorem handM_outer (m : Mem) (gl : List Nat) (ls : List Loc) (bs : List A1) (j : Nat) : getM (handM m gl ls bs) (.outer j) = (bs[j]?).map fun b => .bx (mapC (handC (getM m) gl ls) b) := by
 unfold handM
 rw [getM_append, getM_outM0, getM_gvM_other (fun _ => by simp), List.getElem?_map]
 cases bs[j]? <;> rfl
theorem handM_own {m : Mem} {gl ow : List Nat} (hg : GOk m gl ow) (ls : List Loc) (bs : List A1) (n : Nat) : getM (handM m gl ls bs) (.own n) = match srcG gl 0 n with | some i => getM m (.own i) | none => none := by
 unfold handM
 rw [getM_append, getM_outM_other _ _ _ (fun _ => by simp)]
 exact getM_gvM fun i hi => by obtain ⟨τ, xs, h⟩ := hg.live i hi; exact ⟨_, h⟩
theorem handM_box (m : Mem) (gl : List Nat) (ls : List Loc) (bs : List A1) (b : Nat) : getM (handM m gl ls bs) (.box b) = none := by
 unfold handM
 rw [getM_append, getM_outM_other _ _ _ (fun _ => by simp), getM_gvM_other (fun _ => by simp)]
theorem lentOf_append (gl : List Nat) : ∀ a b : List C, lentOf gl (a ++ b) = lentOf gl a ++ lentOf gl b
 | [], b => rfl
 | c :: r, b => by
  cases c <;> simp only [List.cons_append, lentOf, lentOf_append gl r b]
  rename_i i
  cases hasN i gl <;> rfl
theorem lentOf_nil : ∀ l : List C, lentOf [] l = ownsOf l
 | [] => rfl
 | c :: r => by cases c <;> simp [lentOf, ownsOf, hasN, lentOf_nil r]
theorem nA_mapC (f : C → C) (x : A1) : nA (mapC f x) = nA x := by cases x <;> simp [nA, mapC]
theorem hand_rel {B : Beg} {G : Gh} {m : Mem} {w : World} (h : MRel P B G m w) {gl ow : List Nat} (hgo : GOk m gl ow) {ls : List Loc} {bs : List A1} (hb : bs.length = ls.length) (hbs : ∀ (j : Nat) (l : Loc) (b : A1), ls[j]? = some l → bs[j]? = some b → getM m l = some (.bx b))
  {c : C} {v : Value} (how : ∀ i ∈ lentOf gl [c], i ∈ ow) (hls : ∀ l ∈ locsC c, l ∈ ls) (hr : CRel G m w c v) :
  CRel (handG G m gl ls ow) (handM m gl ls bs) w (handC (getM m) gl ls c) v := by
 have hloc : ∀ l, l ∈ ls → ∃ b, getM m l = some (.bx b) ∧ getM (handM m gl ls bs) (.outer (idxL l ls)) = some (.bx (mapC (handC (getM m) gl ls) b)) ∧ omega_ G ls (idxL l ls) = G.β l := fun l hl => by
  have hi := idxL_spec hl
  have hlt := (List.getElem?_eq_some_iff.1 hi).1
  obtain ⟨b, hb2⟩ : ∃ b, bs[idxL l ls]? = some b := ⟨bs[idxL l ls]'(by omega), List.getElem?_eq_getElem _⟩
  refine ⟨b, hbs _ l b hi hb2, ?_, by simp [omega_, hi]⟩
  rw [handM_outer]; simp [hb2]
 have hres : (∀ i ∈ ownsOf [c], i ∈ ow) → CRel ⟨lentS G m ow, G.β, G.κ⟩ m w (resolve (getM m) c) v := fun hi0 => resolve_rel h (lent_ext G m w ow) (fun i hi τ xs fr hg hne => .inr ⟨i, hi0 i hi, τ, xs, fr, hg, hne, rfl⟩) hr
 unfold handC
 cases c <;> try exact hres (fun i hi => by cases hi)
 case slo i =>
  cases hin : hasN i gl with
  | true =>
   have hmem := hasN_iff.1 hin
   obtain ⟨τ, xs, hg⟩ := hgo.live i hmem
   have hs := hgo.name i hmem
   simp only [giveC, hin, cond_true, mapL]
   simp only [CRel, hg] at hr
   simp only [CRel, handM_own hgo, hs, hg]
   obtain ⟨ad, e1, e2, e3⟩ := hr
   refine ⟨ad, ?_, ?_, fun hlt => e3 (gname_lt hlt)⟩
   ·show v = .slice ad xs.length (kappa G gl _)
    unfold kappa; rw [hs]; exact e1
   ·show ad = some ⟨gamma G gl _, 0, none⟩ ∨ kappa G gl _ = 0
    unfold gamma kappa; rw [hs]; exact e2
  | false =>
   have hr' := hres fun j hj => how j (by simp only [ownsOf] at hj; simpa [lentOf, hin] using hj)
   simp only [giveC, hin, cond_false]
   simp only [resolve] at hr' ⊢
   split <;> rename_i hg
   ·rw [hg] at hr'; exact hr'
   ·trivial
 case slv i lo hi =>
  have hr' := hres fun j hj => how j (by simp only [ownsOf] at hj; simpa [lentOf] using hj)
  simp only [giveC]
  simp only [resolve] at hr' ⊢
  split <;> rename_i hg
  ·rw [hg] at hr'; exact hr'
  ·trivial
 case ptr l off n =>
  obtain ⟨h1, rfl⟩ := hr
  obtain ⟨b, g1, g2, g3⟩ := hloc l (hls l (by simp [locsC]))
  rw [g1] at h1
  refine ⟨?_, ?_⟩
  ·show match getM (handM m gl ls bs) (.outer (idxL l ls)) with | some (.bx x) => off + n ≤ nA x | some .dead => True | _ => False
   rw [g2]
   show off + n ≤ nA (mapC _ b)
   rw [nA_mapC]; exact h1
  ·show Value.pointer (some ⟨G.β l, off, none⟩) = .pointer (some ⟨omega_ G ls (idxL l ls), off, none⟩)
   rw [g3]
 case mpp l =>
  obtain ⟨_, rfl⟩ := hr
  obtain ⟨b, _, g2, g3⟩ := hloc l (hls l (by simp [locsC]))
  exact ⟨.inl ⟨_, g2⟩, by show Value.map (some (G.β l)) = .map (some (omega_ G ls (idxL l ls))); rw [g3]⟩
 case pel => trivial
 case fn f caps =>
  obtain ⟨h1, rfl⟩ := hr
  refine ⟨fun l hl => ?_, ?_⟩
  ·obtain ⟨l0, hl0, rfl⟩ := List.mem_map.1 hl
   obtain ⟨b, _, g2, _⟩ := hloc l0 (hls l0 (by simp [locsC, hl0]))
   exact .inl ⟨_, g2⟩
  ·refine congrArg (fnV f) ?_
   unfold ptrs
   rw [List.map_map]
   apply List.map_congr_left
   intro l hl
   obtain ⟨b, _, _, g3⟩ := hloc l (hls l (by simp [locsC, hl]))
   show Value.pointer (some ⟨G.β l, 0, none⟩) = .pointer (some ⟨omega_ G ls (idxL l ls), 0, none⟩)
   rw [g3]
theorem hands_rel {B : Beg} {G : Gh} {m : Mem} {w : World} (h : MRel P B G m w) {gl ow : List Nat} (hgo : GOk m gl ow) {ls : List Loc} {bs : List A1} (hb : bs.length = ls.length) (hbs : ∀ (j : Nat) (l : Loc) (b : A1), ls[j]? = some l → bs[j]? = some b → getM m l = some (.bx b))
  {l : List C} {vs : List Value} (how : ∀ i ∈ lentOf gl l, i ∈ ow) (hls : ∀ x ∈ locsCs l, x ∈ ls) (hr : All2 (CRel G m w) l vs) :
  All2 (CRel (handG G m gl ls ow) (handM m gl ls bs) w) (l.map (handC (getM m) gl ls)) vs := by
 induction hr with
 | nil => exact .nil
 | cons h1 _ ih =>
  rename_i c _ l _ _
  refine .cons (hand_rel h hgo hb hbs (fun i hi => how i (by rw [show c :: l = [c] ++ l from rfl, lentOf_append]; exact List.mem_append_left _ hi)) (fun x hx => hls x (by simp [locsCs, hx])) h1) (ih (fun i hi => how i ?_) fun x hx => hls x (by simp [locsCs, hx]))
  rw [show c :: l = [c] ++ l from rfl, lentOf_append]; exact List.mem_append_right _ hi
theorem arr_hand {G G' : Gh} {m m' : Mem} {w : World} {τ : Ty} {xs : List (den τ)} {vs : List Value} (ha : atom τ = true) (h : All2 (CRel G m w) (arrC τ xs) vs) : All2 (CRel G' m' w) (arrC τ xs) vs := by
 cases τ <;> simp [atom] at ha
 ·rename_i kk
  have : ∀ (l : List Int) (vs : List Value), All2 (CRel G m w) (l.map fun n => C.int kk n) vs → All2 (CRel G' m' w) (l.map fun n => C.int kk n) vs := fun l => by
   induction l with
   | nil => intro vs h; cases h; exact .nil
   | cons x r ih => intro vs h; cases h with | cons h1 h2 => exact .cons h1 (ih _ h2)
  exact this _ _ h
 ·have : ∀ (l : List Bool) (vs : List Value), All2 (CRel G m w) (l.map fun n => C.bool n) vs → All2 (CRel G' m' w) (l.map fun n => C.bool n) vs := fun l => by
   induction l with
   | nil => intro vs h; cases h; exact .nil
   | cons x r ih => intro vs h; cases h with | cons h1 h2 => exact .cons h1 (ih _ h2)
  exact this _ _ h
theorem handA_rel {B : Beg} {G : Gh} {m : Mem} {w : World} (h : MRel P B G m w) {gl ow : List Nat} (hgo : GOk m gl ow) {ls : List Loc} {bs : List A1} (hb : bs.length = ls.length) (hbs : ∀ (j : Nat) (l : Loc) (b : A1), ls[j]? = some l → bs[j]? = some b → getM m l = some (.bx b))
  {x : A1} {v : Value} (how : ∀ i ∈ lentOf gl (cellsL [x]), i ∈ ow) (hls : ∀ y ∈ locsA x, y ∈ ls) (hr : A1Rel G m w x v) :
  A1Rel (handG G m gl ls ow) (handM m gl ls bs) w (mapC (handC (getM m) gl ls) x) v := by
 cases x with
 | one c => exact hand_rel h hgo hb hbs (fun i hi => how i (by simpa [cellsL] using hi)) hls hr
 | agg l => obtain ⟨vs, e, hall⟩ := hr; exact ⟨vs, e, hands_rel h hgo hb hbs (fun i hi => how i (by simpa [cellsL] using hi)) hls hall⟩
 | arr τ n xs => obtain ⟨vs, e, h1, h2, h3⟩ := hr; exact ⟨vs, e, h1, h2, arr_hand h1 h3⟩
 | lp => exact hr.elim
 | mp => exact hr.elim
theorem handCs_rel {B : Beg} {G : Gh} {m : Mem} {w : World} (h : MRel P B G m w) {gl ow : List Nat} (hgo : GOk m gl ow) {ls : List Loc} {bs : List A1} (hb : bs.length = ls.length) (hbs : ∀ (j : Nat) (l : Loc) (b : A1), ls[j]? = some l → bs[j]? = some b → getM m l = some (.bx b))
  {x : A1} {vs : List Value} (how : ∀ i ∈ lentOf gl (cellsL [x]), i ∈ ow) (hls : ∀ y ∈ locsA x, y ∈ ls) (hr : CsRel G m w x vs) :
  CsRel (handG G m gl ls ow) (handM m gl ls bs) w (mapC (handC (getM m) gl ls) x) vs := by
 cases x with
 | one c => obtain ⟨v, e, hr⟩ := hr; exact ⟨v, e, hand_rel h hgo hb hbs (fun i hi => how i (by simpa [cellsL] using hi)) hls hr⟩
 | agg l => exact hands_rel h hgo hb hbs (fun i hi => how i (by simpa [cellsL] using hi)) hls hr
 | arr τ n xs => obtain ⟨h1, h2, h3⟩ := hr; exact ⟨h1, h2, arr_hand h1 h3⟩
 | lp => exact hr.elim
 | mp => exact hr.elim
theorem MRel.hand {B : Beg} {G : Gh} {m : Mem} {w : World} (h : MRel P B G m w) {gl ow : List Nat} (hgo : GOk m gl ow) {ls : List Loc} {bs : List A1} (hnd : ls.Nodup) (hb : bs.length = ls.length) (hbs : ∀ (j : Nat) (l : Loc) (b : A1), ls[j]? = some l → bs[j]? = some b → getM m l = some (.bx b) ∧ ∀ y ∈ locsA b, y ∈ ls)
  (how : ∀ i ∈ lentOf gl (cellsL bs), i ∈ ow) :
  MRel P (begOf w (lentS G m ow) (omega_ G ls) (bs.map (mapC (handC (getM m) gl ls))).length (gvOf G m gl)) (handG G m gl ls ow) (handM m gl ls bs) w := by
 have hbs' : ∀ (j : Nat) (l : Loc) (b : A1), ls[j]? = some l → bs[j]? = some b → getM m l = some (.bx b) := fun j l b h1 h2 => (hbs j l b h1 h2).1
 have hget : ∀ l o, getM (handM m gl ls bs) l = some o → (∃ j l0 b, l = .outer j ∧ ls[j]? = some l0 ∧ bs[j]? = some b ∧ getM m l0 = some (.bx b) ∧ (∀ y ∈ locsA b, y ∈ ls) ∧ o = .bx (mapC (handC (getM m) gl ls) b) ∧ omega_ G ls j = G.β l0) ∨
   (∃ n i τ xs, l = .own n ∧ i ∈ gl ∧ srcG gl 0 n = some i ∧ getM m (.own i) = some (.sl τ xs false) ∧ o = .sl τ xs false ∧ gamma G gl n = G.β (.own i) ∧ kappa G gl n = G.κ i) := fun l o hg => by
  cases l with
  | box t => rw [handM_box] at hg; cases hg
  | own t =>
   rw [handM_own hgo] at hg
   cases hs : srcG gl 0 t with
   | none => rw [hs] at hg; cases hg
   | some i =>
    rw [hs] at hg
    have hg : getM m (.own i) = some o := hg
    obtain ⟨τ, xs, hl⟩ := hgo.live i (srcG_mem hs)
    rw [hl] at hg; cases hg
    exact .inr ⟨t, i, τ, xs, rfl, srcG_mem hs, hs, hl, rfl, by unfold gamma; rw [hs], by unfold kappa; rw [hs]⟩
  | outer j =>
   left
   rw [handM_outer] at hg
   cases hbj : bs[j]? with
   | none => simp [hbj] at hg
   | some b =>
    simp [hbj] at hg
    have hlt := (List.getElem?_eq_some_iff.1 hbj).1
    have hl0 : ls[j]? = some (ls[j]'(by omega)) := List.getElem?_eq_getElem _
    obtain ⟨g1, g2⟩ := hbs j _ b hl0 hbj
    exact ⟨j, _, b, rfl, hl0, hbj, g1, g2, hg.symm, by simp [omega_, hl0]⟩
 have hwrit : ∀ l0 b, getM m l0 = some (.bx b) → Writ G m l0 := fun l0 b hg => by unfold Writ; rw [hg]; trivial
 have hreal : ∀ l, Real (handG G m gl ls ow) (handM m gl ls bs) l → ∃ l0, Writ G m l0 ∧ (handG G m gl ls ow).β l = G.β l0 ∧ ((∃ j b, l = .outer j ∧ ls[j]? = some l0 ∧ bs[j]? = some b ∧ getM m l0 = some (.bx b)) ∨ (∃ n i, l = .own n ∧ l0 = .own i ∧ i ∈ gl ∧ srcG gl 0 n = some i)) := fun l hl => by
  obtain ⟨o, ho⟩ := hl.of_get
  rcases hget l o ho with ⟨j, l0, b, rfl, h1, h2, h3, _, _, h4⟩ | ⟨n, i, τ, xs, rfl, h1, h2, h3, rfl, h4, h5⟩
  ·exact ⟨l0, hwrit l0 b h3, h4, .inl ⟨j, b, rfl, h1, h2, h3⟩⟩
  ·refine ⟨.own i, ?_, h4, .inr ⟨n, i, rfl, rfl, h1, h2⟩⟩
   unfold Real at hl
   rw [ho] at hl
   obtain ⟨i', e, hp⟩ := hl
   cases e
   unfold Writ; rw [h3]
   exact ⟨i, rfl, by rw [← h5]; exact hp⟩
 have hnotS : ∀ l0, Writ G m l0 → (∀ i τ xs fr, l0 = .own i → getM m (.own i) = some (.sl τ xs fr) → i ∈ gl) → ¬ lentS G m ow (G.β l0) := fun l0 hw hgl hs => by
  rcases hs with hs | ⟨i, hi, τ, xs, fr, hgi, hne, e⟩
  ·exact h.wr l0 hw hs
  ·have hri : Real G m (.own i) := by
    unfold Real; rw [hgi]
    have := (h.row hgi).1
    exact ⟨i, rfl, by have := List.length_pos_iff.2 hne; omega⟩
   have := h.inj l0 (.own i) hw.real hri e
   exact hgo.off i hi (hgl i _ _ _ this hgi)
 have hltS : ∀ b, lentS G m ow b → b < w.heap.size := fun b hs => by
  rcases hs with hs | ⟨i, _, τ, xs, fr, hgi, hne, rfl⟩
  ·exact h.ltS b hs
  ·refine h.lt (.own i) ?_
   unfold Real; rw [hgi]
   have := (h.row hgi).1
   exact ⟨i, rfl, by have := List.length_pos_iff.2 hne; omega⟩
 have hSG : ∀ b, G.S b → lentS G m ow b := fun b hb => .inl hb
 refine ⟨fun l o hg => ?_, fun l l' hl hl' e => ?_, fun l hl => ?_, fun l hl => ?_, hltS, fun l hl => ?_, Nat.le_refl _, fun _ _ _ _ => rfl, fun _ h => h, fun _ h => .inl h, fun j hj => ?_, ⟨rfl, rfl⟩, fun g k xs e => ⟨hSG _ (h.tab g k xs e).1, (h.tab g k xs e).2⟩⟩
 ·rcases hget l o hg with ⟨j, l0, b, rfl, h1, h2, h3, h4, rfl, h5⟩ | ⟨n, i, τ, xs, rfl, h1, h2, h3, rfl, h4, h5⟩
  ·have hmem : ∀ i ∈ lentOf gl (cellsL [b]), i ∈ ow := fun i hi => how i (by
    have : ∀ (bs : List A1), b ∈ bs → ∀ i ∈ lentOf gl (cellsL [b]), i ∈ lentOf gl (cellsL bs) := fun bs => by
     induction bs with
     | nil => intro hb; cases hb
     | cons x r ih =>
      intro hb i hi
      have e : cellsL (x :: r) = cellsL [x] ++ cellsL r := by cases x <;> simp [cellsL]
      rw [e, lentOf_append]
      rcases List.mem_cons.1 hb with rfl | hb
      ·exact List.mem_append_left _ hi
      ·exact List.mem_append_right _ (ih hb i hi)
    exact this bs (List.mem_of_getElem? h2) i hi)
   rcases h.objs l0 _ h3 with ⟨vs, hcs, hr, hf⟩ | hlp
   case inr =>
    right
    refine hlp.map (fun _ _ => rfl) (fun g p ts st l e vs hvs => ?_) (fun _ _ _ _ _ _ _ _ hr => hr.mono hSG (fun _ _ => rfl)) (by rw [← h5]; rfl)
    subst e
    exact handCs_rel (x := .agg l) h hgo hb hbs' (fun i hi => hmem i (by simpa [cellsL, lentOf] using hi)) (fun y hy => h4 y (by simpa [locsA, locsCs, locsC] using hy)) hvs
   refine .inl ⟨vs, handCs_rel h hgo hb hbs' hmem h4 hcs, ?_, ?_⟩
   ·show w.rangeAt (omega_ G ls j) 0 vs
    rw [h5]; exact hr
   ·intro q hq
    show w.frozen? ⟨omega_ G ls j, q, none⟩ = false
    rw [h5]; exact hf q hq
  ·obtain ⟨i', e, k1, _, k3, k4⟩ := h.objs _ _ h3
   cases e
   refine ⟨n, rfl, by show _ ≤ kappa G gl n; rw [h5]; exact k1, (fun hf => nomatch hf), fun j hj => ?_, fun _ j hj => ?_⟩
   ·obtain ⟨us, hrep, hc⟩ := k3 j hj
    refine ⟨us, hrep.mono hSG (fun _ _ => rfl), ?_⟩
    show w.rangeAt (gamma G gl n) _ us
    rw [h4]; exact hc
   ·have hj : j < kappa G gl n * ncell τ := hj
    rw [h5] at hj
    show (w.cell? ⟨gamma G gl n, j, none⟩).isSome = true ∧ w.frozen? ⟨gamma G gl n, j, none⟩ = false
    rw [h4]; exact k4 rfl j hj
 ·obtain ⟨l0, hw0, e0, h0⟩ := hreal l hl
  obtain ⟨l1, hw1, e1, h1⟩ := hreal l' hl'
  rw [e0, e1] at e
  have := h.inj l0 l1 hw0.real hw1.real e
  subst this
  rcases h0 with ⟨j, b, rfl, q1, _, q2⟩ | ⟨n, i, rfl, rfl, _, q1⟩ <;> rcases h1 with ⟨j', b', rfl, q1', _, q2'⟩ | ⟨n', i', rfl, q3, _, q1'⟩
  ·have hj := (List.getElem?_eq_some_iff.1 q1).1
   have hj' := (List.getElem?_eq_some_iff.1 q1').1
   have := (List.getElem_inj (h₀ := hj) (h₁ := hj') hnd).1 (by rw [(List.getElem?_eq_some_iff.1 q1).2, (List.getElem?_eq_some_iff.1 q1').2])
   rw [this]
  ·subst q3
   obtain ⟨τ, xs, hl⟩ := hgo.live _ (srcG_mem q1')
   rw [hl] at q2; cases q2
  ·obtain ⟨τ, xs, hl⟩ := hgo.live _ (srcG_mem q1)
   rw [hl] at q2'; cases q2'
  ·cases q3
   rw [srcG_idx hgo.nd q1, srcG_idx hgo.nd q1']
 ·obtain ⟨l0, hw0, e0, h0⟩ := hreal l hl.real
  show ¬ lentS G m ow ((handG G m gl ls ow).β l)
  rw [e0]
  refine hnotS l0 hw0 fun i τ xs fr e hsl => ?_
  subst e
  rcases h0 with ⟨j, b, _, _, _, q2⟩ | ⟨n, i', _, q3, q4, _⟩
  ·rw [q2] at hsl; cases hsl
  ·cases q3; exact q4
 ·obtain ⟨l0, hw0, e0, _⟩ := hreal l hl
  rw [e0]; exact h.lt l0 hw0.real
 ·obtain ⟨l0, hw0, e0, h0⟩ := hreal l hl
  rcases h0 with ⟨j, b, rfl, _, h2, _⟩ | ⟨n, i, rfl, rfl, q1, q2⟩
  ·exact .inl ⟨j, rfl, by simpa [begOf] using (List.getElem?_eq_some_iff.1 h2).1, rfl⟩
  ·exact .inr ⟨(fun _ e => nomatch e), .inr ⟨i, q1, hw0.real, e0⟩⟩
 ·have hj' : j < bs.length := by simpa [begOf] using hj
  exact ⟨_, by rw [handM_outer]; simp [hj']; rfl⟩
end Go.Al
