/- Calls, whole. -/
import Derived.Test.YtcgmelealalhhaaGreatDoorAlCall2
namespace Go.Al
variable {P : Program} {H : Hint}
theorem frz_box {m : Mem} {is : List Nat} {l : Loc} (h : ∀ i, l ≠ .own i) : getM (setMs m (freeze (getM m) is)) l = getM m l :=
 getM_freeze is m fun i _ e => h i e.symm
theorem frz_none {m : Mem} {l : Loc} (h : getM m l = none) (is : List Nat) : getM (setMs m (freeze (getM m) is)) l = none := by
 have : ∀ (is : List Nat) (m' : Mem), getM m' l = none → getM (setMs m' (freeze (getM m) is)) l = none := fun is => by
  induction is with
  | nil => intro m' h2; exact h2
  | cons i r ih =>
   intro m' h2
   simp only [freeze]
   split
   ·rename_i hg
    have hne : Loc.own i ≠ l := fun e => by rw [e, h] at hg; cases hg
    exact ih _ (by rw [getM_cons, if_neg hne]; exact h2)
   ·exact ih _ h2
 exact this is m h
theorem frz_some {m : Mem} {l : Loc} {τ : Ty} {xs : List (den τ)} {fr : Bool} (h : getM m l = some (.sl τ xs fr)) (is : List Nat) : ∃ fr', getM (setMs m (freeze (getM m) is)) l = some (.sl τ xs fr') := by
 have : ∀ (is : List Nat) (m' : Mem), (∃ fr', getM m' l = some (.sl τ xs fr')) → ∃ fr', getM (setMs m' (freeze (getM m) is)) l = some (.sl τ xs fr') := fun is => by
  induction is with
  | nil => intro m' h2; exact h2
  | cons i r ih =>
   intro m' h2
   simp only [freeze]
   split
   ·rename_i hg
    refine ih _ ?_
    by_cases e : Loc.own i = l
    ·rw [getM_cons, if_pos e]
     rw [e, h] at hg
     cases hg
     exact ⟨true, rfl⟩
    ·rw [getM_cons, if_neg e]; exact h2
   ·exact ih _ h2
 exact this is m ⟨fr, h⟩
theorem frz_bx {m : Mem} {l : Loc} {b : A1} (h : getM m l = some (.bx b)) (is : List Nat) : getM (setMs m (freeze (getM m) is)) l = some (.bx b) := by
 have : ∀ (is : List Nat) (m' : Mem), getM m' l = some (.bx b) → getM (setMs m' (freeze (getM m) is)) l = some (.bx b) := fun is => by
  induction is with
  | nil => intro m' h2; exact h2
  | cons i r ih =>
   intro m' h2
   simp only [freeze]
   split
   ·rename_i hg
    have hne : Loc.own i ≠ l := fun e => by rw [e, h] at hg; cases hg
    exact ih _ (by rw [getM_cons, if_neg hne]; exact h2)
   ·exact ih _ h2
 exact this is m h
theorem nodupM_right : ∀ {a b : Mem}, nodupM (a ++ b) = true → nodupM b = true
 | [], _, h => h
 | (l, o) :: r, b, h => by
  simp only [List.cons_append, nodupM, Bool.and_eq_true] at h
  exact nodupM_right h.2
theorem freshM_spec {μ : Loc → Option Obj} : ∀ {m : Mem}, freshM μ m = true → ∀ i o, (Loc.own i, o) ∈ m → μ (.own i) = none
 | (.own j, o0) :: r, h, i, o, hm => by
  simp only [freshM, Bool.and_eq_true] at h
  rcases List.mem_cons.1 hm with e | hm
  ·cases e
   have := h.1
   split at this
   ·assumption
   ·cases this
  ·exact freshM_spec h.2 i o hm
 | (.box j, o0) :: r, h, i, o, hm => by
  rcases List.mem_cons.1 hm with e | hm
  ·cases e
  ·exact freshM_spec (m := r) h i o hm
 | (.outer j, o0) :: r, h, i, o, hm => by
  rcases List.mem_cons.1 hm with e | hm
  ·cases e
  ·exact freshM_spec (m := r) h i o hm
theorem cellsL_mem {b : A1} : ∀ {bs : List A1}, b ∈ bs → ∀ i ∈ ownsOf (cellsL [b]), i ∈ ownsOf (cellsL bs)
 | x :: r, hb, i, hi => by
  have e : cellsL (x :: r) = cellsL [x] ++ cellsL r := by cases x <;> simp [cellsL]
  rw [e, ownsOf_append]
  rcases List.mem_cons.1 hb with rfl | hb
  ·exact List.mem_append_left _ hi
  ·exact List.mem_append_right _ (cellsL_mem hb i hi)
theorem resolveCs_rel {B : Beg} {G : Gh} {m : Mem} {w : World} (h : MRel P B G m w) {G' : Gh} {m' : Mem} (hE : Ext G m w G' m' w) {x : A1} {vs : List Value}
  (hS : ∀ i ∈ ownsOf (cellsL [x]), ∀ τ xs fr, getM m (.own i) = some (.sl τ xs fr) → xs ≠ [] → G'.S (G.β (.own i))) (hr : CsRel G m w x vs) : CsRel G' m' w (mapC (resolve (getM m)) x) vs := by
 cases x with
 | one c => obtain ⟨v, e, hr⟩ := hr; exact ⟨v, e, resolve_rel h hE (fun i hi => hS i (by simpa [cellsL] using hi)) hr⟩
 | agg l => exact resolve_all h hE (fun i hi => hS i (by simpa [cellsL] using hi)) hr
 | arr τ n xs => obtain ⟨h1, h2, h3⟩ := hr; exact ⟨h1, h2, arr_hand h1 h3⟩
 | lp => exact hr.elim
 | mp => exact hr.elim
theorem renCs_rel {G G' : Gh} {m m' : Mem} {w : World} {f : C → C} {x : A1} {vs : List Value} (hf : ∀ c ∈ cellsL [x], ∀ v, CRel G m w c v → CRel G' m' w (f c) v) (hr : CsRel G m w x vs) : CsRel G' m' w (mapC f x) vs := by
 have hl : ∀ (l : List C) (vs : List Value), (∀ c ∈ l, ∀ v, CRel G m w c v → CRel G' m' w (f c) v) → All2 (CRel G m w) l vs → All2 (CRel G' m' w) (l.map f) vs := fun l vs hf hr => by
  induction hr with
  | nil => exact .nil
  | cons h1 _ ih => exact .cons (hf _ (by simp) _ h1) (ih fun c hc => hf c (by simp [hc]))
 cases x with
 | one c => obtain ⟨v, e, hr⟩ := hr; exact ⟨v, e, hf c (by simp [cellsL]) v hr⟩
 | agg l => exact hl l vs (fun c hc => hf c (by simpa [cellsL] using hc)) hr
 | arr τ n xs => obtain ⟨h1, h2, h3⟩ := hr; exact ⟨h1, h2, arr_hand h1 h3⟩
 | lp => exact hr.elim
 | mp => exact hr.elim
theorem renA_rel {G G' : Gh} {m m' : Mem} {w : World} {f : C → C} {x : A1} {v : Value} (hf : ∀ c ∈ cellsL [x], ∀ v, CRel G m w c v → CRel G' m' w (f c) v) (hr : A1Rel G m w x v) : A1Rel G' m' w (mapC f x) v := by
 cases x with
 | one c => exact hf c (by simp [cellsL]) v hr
 | agg l => obtain ⟨vs, e, hr⟩ := hr; exact ⟨vs, e, renCs_rel (x := .agg l) hf hr⟩
 | arr τ n xs => obtain ⟨vs, e, h1, h2, h3⟩ := hr; exact ⟨vs, e, h1, h2, arr_hand h1 h3⟩
 | lp => exact hr.elim
 | mp => exact hr.elim
theorem cellsL_in {x : A1} : ∀ {l : List A1}, x ∈ l → ∀ c ∈ cellsL [x], c ∈ cellsL l
 | y :: r, hx, c, hc => by
  have e : cellsL (y :: r) = cellsL [y] ++ cellsL r := by cases y <;> simp [cellsL]
  rw [e]
  rcases List.mem_cons.1 hx with rfl | hx
  ·exact List.mem_append_left _ hc
  ·exact List.mem_append_right _ (cellsL_in hx c hc)
theorem renAV_rel {G G' : Gh} {m m' : Mem} {w : World} {f : C → C} {x : AV} {v : Value} (hf : ∀ c ∈ cellsL (resL x), ∀ v, CRel G m w c v → CRel G' m' w (f c) v) (hr : AVRel G m w x v) : AVRel G' m' w (mapAV f x) v := by
 cases x with
 | a x => exact renA_rel hf hr
 | tup l =>
  obtain ⟨vs, e, hr⟩ := hr
  refine ⟨vs, e, ?_⟩
  have : ∀ (l' : List A1) (vs : List Value), (∀ x ∈ l', x ∈ l) → All2 (A1Rel G m w) l' vs → All2 (A1Rel G' m' w) (l'.map (mapC f)) vs := fun l' vs hs hr => by
   induction hr with
   | nil => exact .nil
   | cons h1 _ ih => exact .cons (renA_rel (fun c hc => hf c (cellsL_in (hs _ (by simp)) c hc)) h1) (ih fun x hx => hs x (by simp [hx]))
  exact this l vs (fun _ h => h) hr
theorem lentOf_of {gl : List Nat} {i : Nat} (hi : i ∉ gl) : ∀ {l : List C}, i ∈ ownsOf l → i ∈ lentOf gl l
 | [], h => by cases h
 | c :: r, h => by
  cases c <;> simp only [ownsOf, lentOf] at h ⊢ <;> try exact lentOf_of hi h
  ·rename_i j
   cases hj : hasN j gl with
   | true =>
    rcases List.mem_cons.1 h with rfl | h
    ·exact absurd (hasN_iff.1 hj) hi
    ·exact lentOf_of hi h
   | false =>
    rcases List.mem_cons.1 h with rfl | h
    ·exact List.mem_cons_self
    ·exact List.mem_cons_of_mem _ (lentOf_of hi h)
  ·rcases List.mem_cons.1 h with rfl | h
   ·exact List.mem_cons_self
   ·exact List.mem_cons_of_mem _ (lentOf_of hi h)
theorem MRel.kills {B : Beg} {G : Gh} {w : World} : ∀ {gl : List Nat} {m : Mem}, nodupH gl = true → MRel P B G m w → (∀ i ∈ gl, ∃ τ xs, getM m (.own i) = some (.sl τ xs false)) →
  MRel P B G (setMs m (deadM gl)) w ∧ Ext G m w G (setMs m (deadM gl)) w ∧ (∀ i ∈ gl, getM (setMs m (deadM gl)) (.own i) = some .dead) ∧ ∀ l, (∀ i ∈ gl, l ≠ .own i) → getM (setMs m (deadM gl)) l = getM m l
 | [], m, _, h, _ => ⟨h, Ext.refl _ _ _, (fun i hi => by cases hi), fun _ _ => rfl⟩
 | j :: r, m, hn, h, hl => by
  simp only [nodupH, Bool.and_eq_true, Bool.not_eq_true'] at hn
  have hnj := hasN_not.1 hn.1
  obtain ⟨τ, xs, hg⟩ := hl j (by simp)
  obtain ⟨h1, h2⟩ := h.kill hg
  obtain ⟨k1, k2, k3, k4⟩ := MRel.kills (gl := r) hn.2 h1 fun i hi => by
   obtain ⟨τ, xs, hg⟩ := hl i (by simp [hi])
   exact ⟨τ, xs, by rw [getM_cons, if_neg (fun e => by cases e; exact hnj hi)]; exact hg⟩
  simp only [deadM, setMs]
  refine ⟨k1, h2.trans k2, fun i hi => ?_, fun l hl' => ?_⟩
  ·rcases List.mem_cons.1 hi with rfl | hi
   ·rw [k4 _ (fun i hi e => by cases e; exact hnj hi), getM_cons, if_pos rfl]
   ·exact k3 i hi
  ·rw [k4 l fun i hi => hl' i (by simp [hi]), getM_cons, if_neg (fun e => hl' j (by simp) e.symm)]
theorem call_back {B : Beg} {G : Gh} {m : Mem} {w : World} (h : MRel P B G m w) {gl ow : List Nat} (hgo : GOk m gl ow) {ls : List Loc} {bs : List A1} (hb : bs.length = ls.length)
  (hbs : ∀ (j : Nat) (l : Loc) (b : A1), ls[j]? = some l → bs[j]? = some b → getM m l = some (.bx b) ∧ ∀ y ∈ locsA b, y ∈ ls) (how : ∀ i ∈ lentOf gl (cellsL bs), i ∈ ow)
  {t : Nat} {res : AV} {m' : Mem} (hrst : ∀ i ∈ restO m' 0 bs, i ∉ gl) (hres : (cellsL (resL res)).all resOk = true) (hok : memOk bs m' = true) (hn1 : nodupM m' = true) (hfr : freshM (getM m) (backM t ls m') = true) (hfb : freshB (getM m) t m' = true)
  (hn2 : nodupM (restM (getM m) m' 0 ls bs ++ backM t ls m') = true) {w' : World} {v : Value} {G' : Gh} {hbs' : List A1} (hlenB : hbs'.length = ls.length) (hnAB : ∀ (j : Nat) (b b' : A1), bs[j]? = some b → hbs'[j]? = some b' → nA b' = nA b)
  (hM' : MRel P (begOf w (lentS G m ow) (omega_ G ls) hbs'.length (gvOf G m gl)) G' (m' ++ outM 0 hbs') w')
  (hv : AVRel G' (m' ++ outM 0 hbs') w' res v)
  (hun : ∀ j, j < hbs'.length → getM m' (.outer j) = none → w'.heap[omega_ G ls j]? = w.heap[omega_ G ls j]?) :
  ∃ Gn, MRel P B Gn (setMs m (freeze (getM m) (bif lies res m' then ow else restO m' 0 bs) ++ (deadM gl ++ (restM (getM m) m' 0 ls bs ++ backM t ls m')))) w' ∧
   Ext G m w Gn (setMs m (freeze (getM m) (bif lies res m' then ow else restO m' 0 bs) ++ (deadM gl ++ (restM (getM m) m' 0 ls bs ++ backM t ls m')))) w' ∧
   AVRel Gn (setMs m (freeze (getM m) (bif lies res m' then ow else restO m' 0 bs) ++ (deadM gl ++ (restM (getM m) m' 0 ls bs ++ backM t ls m')))) w' (mapAV (renOwn t ls) res) v := by
 rw [setMs_append, setMs_append]
 generalize his : (bif lies res m' then ow else restO m' 0 bs) = is
 have hisg : ∀ i ∈ is, i ∉ gl := fun i hi => by
  rw [← his] at hi
  cases hl : lies res m' with
  | true => rw [hl] at hi; exact hgo.off i hi
  | false => rw [hl] at hi; exact hrst i hi
 obtain ⟨G1, hM0, hE0, hS1⟩ := h.frz is
 have hlive0 : ∀ i ∈ gl, ∃ τ xs, getM (setMs m (freeze (getM m) is)) (.own i) = some (.sl τ xs false) := fun i hi => by
  obtain ⟨τ, xs, hg⟩ := hgo.live i hi
  exact ⟨τ, xs, by rw [getM_freeze is m fun j hj e => by cases e; exact hisg _ hj hi]; exact hg⟩
 obtain ⟨hM1, hEk, hdead, hoth⟩ := MRel.kills hgo.nd hM0 hlive0
 have hE1 := hE0.trans hEk
 have hfbx : ∀ l b, getM m l = some (.bx b) → getM (setMs (setMs m (freeze (getM m) is)) (deadM gl)) l = some (.bx b) := fun l b hg => by
  rw [hoth l fun i hi e => by subst e; obtain ⟨τ, xs, hl⟩ := hgo.live i hi; rw [hl] at hg; cases hg]
  exact frz_bx hg is
 have hfno : ∀ l, getM m l = none → getM (setMs (setMs m (freeze (getM m) is)) (deadM gl)) l = none := fun l hg => by
  rw [hoth l fun i hi e => by subst e; obtain ⟨τ, xs, hl⟩ := hgo.live i hi; rw [hl] at hg; cases hg]
  exact frz_none hg is
 have hgv : ∀ b, gvOf G m gl b → (∀ l, Real G1 (setMs (setMs m (freeze (getM m) is)) (deadM gl)) l → G1.β l ≠ b) ∧ B.fr b ∧ ¬ G1.S b := fun b hb => by
  obtain ⟨i, hi, hre, rfl⟩ := hb
  obtain ⟨τ, xs, hg⟩ := hgo.live i hi
  obtain ⟨τ', xs', hg0⟩ := hlive0 i hi
  obtain ⟨_, _, _, hbi, hki⟩ := hE0.live _ _ hg
  have hki := hki i rfl
  have hW : Writ G1 (setMs m (freeze (getM m) is)) (.own i) := by
   unfold Writ; rw [hg0]
   unfold Real at hre; rw [hg] at hre
   obtain ⟨i', e, hp⟩ := hre
   cases e
   exact ⟨i, rfl, by rw [hki]; exact hp⟩
  refine ⟨fun l hl e => ?_, ?_, ?_⟩
  ·have hne : l ≠ .own i := fun e => by
    subst e
    unfold Real at hl; rw [hdead i hi] at hl; exact hl
   have hl0 : Real G1 (setMs m (freeze (getM m) is)) l := by
    by_cases hx : ∃ j ∈ gl, l = .own j
    ·obtain ⟨j, hj, rfl⟩ := hx
     unfold Real at hl; rw [hdead j hj] at hl; exact hl.elim
    ·unfold Real at hl ⊢
     rw [hoth l fun j hj e => hx ⟨j, hj, e⟩] at hl; exact hl
   exact hne (hM0.inj l _ hl0 hW.real (by rw [e, hbi]))
  ·rcases h.new _ hre with ⟨j, e, _⟩ | ⟨_, hf⟩
   ·cases e
   ·exact hf
  ·rw [← hbi]; exact hM0.wr _ hW
 generalize hm1 : setMs (setMs m (freeze (getM m) is)) (deadM gl) = m1 at *
 have hfrB : ∀ b, (begOf w (lentS G m ow) (omega_ G ls) hbs'.length (gvOf G m gl)).fr b → (∀ l, Real G1 m1 l → G1.β l ≠ b) ∧ B.fr b ∧ ¬ G1.S b := fun b hb => by
  rcases hb with hb | hb
  ·have hb : w.heap.size ≤ b := hb
   refine ⟨fun l hl e => ?_, .inl (Nat.le_trans h.grow hb), fun hs => ?_⟩
   ·have := hM1.lt l hl; omega
   ·have := hM1.ltS b hs; omega
  ·exact hgv b hb
 have hβ1 : ∀ l o, getM m l = some o → G1.β l = G.β l := fun l o ho => by obtain ⟨_, _, _, hb, _⟩ := hE1.live l o ho; exact hb
 have hbox1 : ∀ j l b, ls[j]? = some l → bs[j]? = some b → getM m1 l = some (.bx b) ∧ Writ G1 m1 l ∧ G1.β l = omega_ G ls j := fun j l b h1 h2 => by
  have hg := (hbs j l b h1 h2).1
  have hg1 := hfbx l b hg
  exact ⟨hg1, by unfold Writ; rw [hg1]; trivial, by rw [hβ1 l _ hg]; simp [omega_, h1]⟩
 have hbox : ∀ l, l ∈ ls → ∃ j b, ls[j]? = some l ∧ bs[j]? = some b := fun l hl => by
  obtain ⟨j, hj, e⟩ := List.getElem_of_mem hl
  exact ⟨j, bs[j]'(by omega), by rw [List.getElem?_eq_getElem hj, e], List.getElem?_eq_getElem _⟩
 have hboxj : ∀ j, j < ls.length → ∃ l b, ls[j]? = some l ∧ bs[j]? = some b := fun j hj => ⟨_, bs[j]'(by omega), List.getElem?_eq_getElem hj, List.getElem?_eq_getElem _⟩
 have hgetM' : ∀ i, getM (m' ++ outM 0 hbs') (.own i) = getM m' (.own i) := fun i => by
  rw [getM_append, getM_outM_other _ _ _ (fun _ => by simp)]
  cases getM m' (.own i) <;> rfl
 have hnb : nodupM (backM t ls m') = true := nodupM_right hn2
 -- what lies at the places that the call names
 have hback : ∀ i o, getM m' (.own i) = some o → getM (backM t ls m') (.own (t * 64 + i)) = some o ∧ getM (restM (getM m) m' 0 ls bs ++ backM t ls m') (.own (t * 64 + i)) = some o := fun i o hg => by
  have := backM_own (t := t) (ls := ls) (get_mem hg)
  exact ⟨mem_get hnb this, mem_get hn2 (List.mem_append_right _ this)⟩
 have hfresh : ∀ k o, getM (backM t ls m') (.own k) = some o → getM m (.own k) = none := fun k o hg => freshM_spec hfr k o (get_mem hg)
 have hold : ∀ k o, getM m1 (.own k) = some o → getM (backM t ls m') (.own k) = none := fun k o hg => by
  cases hgb : getM (backM t ls m') (.own k) with
  | none => rfl
  | some o' => rw [hfno _ (hfresh k o' hgb)] at hg; cases hg
 have hbxN : ∀ b, bxN t 0 ≤ bxN t b ∧ bxN t b - bxN t 0 = b := fun b => by unfold bxN; omega
 have hbxK : ∀ k, bxN t 0 ≤ k → bxN t (k - bxN t 0) = k := fun k hk => by unfold bxN at *; omega
 have hgetB : ∀ b, getM (m' ++ outM 0 hbs') (.box b) = getM m' (.box b) := fun b => by
  rw [getM_append, getM_outM_other _ _ _ (fun _ => by simp)]
  cases getM m' (.box b) <;> rfl
 have hbackB : ∀ b v, getM m' (.box b) = some (.bx v) → getM (restM (getM m) m' 0 ls bs ++ backM t ls m') (.box (bxN t b)) = some (.bx (mapC (renOwn t ls) v)) := fun b v hg => by
  have := backM_box (t := t) (ls := ls) (get_mem hg)
  exact mem_get hn2 (List.mem_append_right _ this)
 have hfreshB : ∀ b o, getM m' (.box b) = some o → getM m1 (.box (bxN t b)) = none := fun b o hg => hfno _ (freshB_spec hfb b o (get_mem hg))
 generalize hlie : lies res m' = lie at *
 let Gn : Gh := Gh.back G1 G' (fun b => G1.S b ∨ (lie = true ∧ G'.S b)) t (backM t ls m') m'
 have hGS : ∀ b, Gn.S b ↔ (G1.S b ∨ (lie = true ∧ G'.S b)) := fun b => Iff.rfl
 have hGβ : ∀ l o, getM m1 l = some o → Gn.β l = G1.β l ∧ ∀ i, l = .own i → Gn.κ i = G1.κ i := fun l o hg => by
  cases l with
  | box j =>
   refine ⟨?_, fun i e => nomatch e⟩
   show (if bxN t 0 ≤ j ∧ (getM m' (.box (j - bxN t 0))).isSome = true then G'.β (.box (j - bxN t 0)) else G1.β (.box j)) = _
   rw [if_neg]
   rintro ⟨h1, h2⟩
   obtain ⟨o2, ho2⟩ := Option.isSome_iff_exists.1 h2
   have := hfreshB _ _ ho2
   rw [hbxK j h1, hg] at this; cases this
  | outer j => exact ⟨rfl, fun i e => nomatch e⟩
  | own k =>
   have hk := hold k o hg
   refine ⟨?_, fun i e => ?_⟩
   ·show (match getM (backM t ls m') (.own k) with | some _ => G'.β (.own (k - t * 64)) | none => G1.β (.own k)) = _
    rw [hk]
   ·cases e
    show (match getM (backM t ls m') (.own k) with | some _ => G'.κ (k - t * 64) | none => G1.κ k) = _
    rw [hk]
 have hGown : ∀ i o, getM m' (.own i) = some o → Gn.β (.own (t * 64 + i)) = G'.β (.own i) ∧ Gn.κ (t * 64 + i) = G'.κ i := fun i o hg => by
  have hk := (hback i o hg).1
  refine ⟨?_, ?_⟩
  ·show (match getM (backM t ls m') (.own (t * 64 + i)) with | some _ => G'.β (.own (t * 64 + i - t * 64)) | none => G1.β (.own (t * 64 + i))) = _
   rw [hk]; simp
  ·show (match getM (backM t ls m') (.own (t * 64 + i)) with | some _ => G'.κ (t * 64 + i - t * 64) | none => G1.κ (t * 64 + i)) = _
   rw [hk]; simp
 have hGbox : ∀ b o, getM m' (.box b) = some o → Gn.β (.box (bxN t b)) = G'.β (.box b) := fun b o hg => by
  show (if bxN t 0 ≤ bxN t b ∧ (getM m' (.box (bxN t b - bxN t 0))).isSome = true then G'.β (.box (bxN t b - bxN t 0)) else G1.β (.box (bxN t b))) = _
  rw [(hbxN b).2, if_pos ⟨(hbxN b).1, by rw [hg]; rfl⟩]
 have hcls : ∀ l o', getM (restM (getM m) m' 0 ls bs ++ backM t ls m') l = some o' →
   (∃ j b, ls[j]? = some l ∧ bs[j]? = some b ∧ getM m' (.outer j) = none ∧ o' = .bx (mapC (resolve (getM m)) b)) ∨
   (∃ j b v, ls[j]? = some l ∧ bs[j]? = some b ∧ getM m' (.outer j) = some (.bx v) ∧ (Loc.outer j, Obj.bx v) ∈ m' ∧ o' = .bx (mapC (renOwn t ls) v) ∧ nA v = nA b ∧ (cellsL [v]).all resOk = true) ∨
   (∃ i τ xs, l = .own (t * 64 + i) ∧ getM m' (.own i) = some (.sl τ xs false) ∧ (Loc.own i, Obj.sl τ xs false) ∈ m' ∧ o' = .sl τ xs false ∧ getM m1 l = none) ∨
   (∃ b v, l = .box (bxN t b) ∧ getM m' (.box b) = some (.bx v) ∧ (Loc.box b, Obj.bx v) ∈ m' ∧ o' = .bx (mapC (renOwn t ls) v) ∧ getM m1 l = none ∧ (cellsL [v]).all resOk = true) := fun l o' hg => by
  rcases List.mem_append.1 (get_mem hg) with hm | hm
  ·obtain ⟨j, b, h1, h2, h3, h4⟩ := restM_spec hm
   exact .inl ⟨j, b, h1, h2, by rw [Nat.zero_add] at h3; exact h3, h4⟩
  ·rcases backM_spec hm with ⟨j, v, h1, h2, h3⟩ | ⟨i, h1, h2⟩ | ⟨b, v, h1, h2, h3⟩
   case inr.inr =>
    rcases memOk_spec hok _ _ h1 with ⟨_, _, _, e1, _⟩ | ⟨_, _, _, e1, _⟩ | ⟨b', v', e1, e2, h6⟩
    ·cases e1
    ·cases e1
    ·cases e1; cases e2
     exact .inr (.inr (.inr ⟨b, v, h2, mem_get hn1 h1, h1, h3, by rw [h2]; exact hfreshB _ _ (mem_get hn1 h1), h6⟩))
   ·rcases memOk_spec hok _ _ h1 with ⟨j', v', b, e1, e2, h4, h5, h6⟩ | ⟨i, τ, xs, e1, _⟩ | ⟨_, _, e1, _⟩
    case inr.inr => cases e1
    ·cases e1; cases e2
     have hj := (List.getElem?_eq_some_iff.1 h4).1
     refine .inr (.inl ⟨j, b, v, ?_, h4, mem_get hn1 h1, h1, h3, h5, h6⟩)
     rw [h2, List.getElem?_eq_getElem (by omega)]
     simp [nthL, List.getD, List.getElem?_eq_getElem (show j < ls.length by omega)]
    ·cases e1
   ·rcases memOk_spec hok _ _ h1 with ⟨j', v', b, e1, _⟩ | ⟨i', τ, xs, e1, e2⟩ | ⟨_, _, e1, _⟩
    case inr.inr => cases e1
    ·cases e1
    ·cases e1; subst e2
     exact .inr (.inr (.inl ⟨i, τ, xs, h2, mem_get hn1 h1, h1, rfl, by rw [h2]; exact hfno _ (hfresh _ _ (hback i _ (mem_get hn1 h1)).1)⟩))
 have hmn : ∀ l, getM (setMs m1 (restM (getM m) m' 0 ls bs ++ backM t ls m')) l = match getM (restM (getM m) m' 0 ls bs ++ backM t ls m') l with | some o => some o | none => getM m1 l := fun l => setMs_get _ _ hn2 l
 generalize hmw : restM (getM m) m' 0 ls bs ++ backM t ls m' = mw at *
 generalize hmnn : setMs m1 mw = mn at *
 have hkeep : ∀ b, b < w.heap.size → ¬ gvOf G m gl b → (∀ l, l ∈ ls → b ≠ G1.β l) → w'.heap[b]? = w.heap[b]? := fun b hb1 hng hne => by
  refine hM'.kept b hb1 (fun j hj e => ?_) hng
  obtain ⟨l, b0, h1, h2⟩ := hboxj j (by have : hbs'.length = ls.length := hlenB; have hj : j < hbs'.length := hj; omega)
  exact hne l (List.mem_of_getElem? h1) (by rw [(hbox1 j l b0 h1 h2).2.2]; exact e)
 have hE : Ext G1 m1 w Gn mn w' := by
  refine ⟨fun b hb => .inl hb, fun b hb => hkeep b (hM1.ltS b hb) (fun hg => (hgv b hg).2.2 hb) fun l hl e => ?_, fun l o ho => ?_⟩
  ·obtain ⟨j, b0, h1, h2⟩ := hbox l hl
   exact hM1.wr l (hbox1 j l b0 h1 h2).2.1 (e ▸ hb)
  ·obtain ⟨g1, g2⟩ := hGβ l o ho
   have hl := hmn l
   cases hg : getM mw l with
   | none => rw [hg] at hl; exact ⟨o, by rw [hl, ho], Ch.refl o, g1, g2⟩
   | some o' =>
    rw [hg] at hl
    rcases hcls l o' hg with ⟨j, b, h1, h2, _, rfl⟩ | ⟨j, b, v, h1, h2, _, _, rfl, h3, _⟩ | ⟨i, τ, xs, _, _, _, _, hn⟩ | ⟨_, _, _, _, _, _, hn, _⟩
    case inr.inr.inr => rw [hn] at ho; cases ho
    ·have := (hbox1 j l b h1 h2).1
     rw [ho] at this; cases this
     exact ⟨_, hl, (nA_mapC _ _).symm, g1, g2⟩
    ·have := (hbox1 j l b h1 h2).1
     rw [ho] at this; cases this
     exact ⟨_, hl, by show nA b = _; rw [nA_mapC, h3], g1, g2⟩
    ·rw [hn] at ho; cases ho
 have hsz := hM'.grow
 have hSw : ∀ l, Writ G1 m1 l → ¬ Gn.S (G1.β l) := fun l hl hs => by
  rcases hs with hs | ⟨hli, hs⟩
  ·exact hM1.wr l hl hs
  ·rcases hM'.s1 _ hs with hs | hge
   ·rcases hs with hs | ⟨i, hi, τ, xs, fr, hg, hne, e⟩
    ·exact hM1.wr l hl (hE1.S _ hs)
    ·subst hli
     refine hM1.wr l hl ?_
     rw [e]
     exact hS1 i (by rw [← his]; exact hi) τ xs fr hg hne
   ·exact (hfrB _ hge).1 l hl.real rfl
 have hown : ∀ i o, getM (m' ++ outM 0 hbs') (.own i) = some o → getM mn (.own (t * 64 + i)) = some o ∧ Gn.β (.own (t * 64 + i)) = G'.β (.own i) ∧ Gn.κ (t * 64 + i) = G'.κ i := fun i o hg => by
  rw [hgetM'] at hg
  refine ⟨?_, hGown i o hg⟩
  rw [hmn, (hback i o hg).2]
 have hloc0 : ∀ j x, getM (m' ++ outM 0 hbs') (.outer j) = some (.bx x) → ∃ y, getM mn (nthL ls j) = some (.bx y) ∧ nA y = nA x ∧ Gn.β (nthL ls j) = G'.β (.outer j) := fun j x hx => by
  have hre : Real G' (m' ++ outM 0 hbs') (.outer j) := by unfold Real; rw [hx]; trivial
  rcases hM'.new _ hre with ⟨j', e, hj, e2⟩ | ⟨hno, _⟩
  case inr => exact absurd rfl (hno j)
  cases e
  have hj : j < hbs'.length := hj
  obtain ⟨l, b, h1, h2⟩ := hboxj j (by omega)
  obtain ⟨k1, k2, k3⟩ := hbox1 j l b h1 h2
  have hnl : nthL ls j = l := by simp [nthL, List.getD, h1]
  rw [hnl]
  have hnx : nA x = nA b := by
   rw [getM_append] at hx
   cases hgo : getM m' (.outer j) with
   | some o =>
    rw [hgo] at hx
    cases hx
    rcases memOk_spec hok _ _ (get_mem hgo) with ⟨j', v', b', q1, q2, q3, q4, _⟩ | ⟨_, _, _, q1, _⟩ | ⟨_, _, q1, _⟩
    ·cases q1; cases q2
     rw [h2] at q3; cases q3; exact q4
    ·cases q1
    ·cases q1
   | none =>
    rw [hgo] at hx
    simp only at hx
    rw [getM_outM0] at hx
    cases hbj : hbs'[j]? with
    | none => rw [hbj] at hx; cases hx
    | some b' =>
     rw [hbj] at hx
     simp only [Option.map_some, Option.some.injEq, Obj.bx.injEq] at hx
     subst hx
     exact hnAB j b b' h2 hbj
  have hβl : Gn.β l = G'.β (.outer j) := by rw [(hGβ l _ k1).1, k3]; exact e2.symm
  have hl := hmn l
  cases hg : getM mw l with
  | none => rw [hg] at hl; exact ⟨b, hl.trans k1, hnx.symm, hβl⟩
  | some o' =>
   rw [hg] at hl
   have hsame : ∀ (j2 : Nat) (b2 : A1), ls[j2]? = some l → bs[j2]? = some b2 → b2 = b := fun j2 b2 q1 q2 => by
    have := (hbox1 j2 l b2 q1 q2).1
    rw [k1] at this; cases this; rfl
   rcases hcls l o' hg with ⟨j2, b2, q1, q2, _, rfl⟩ | ⟨j2, b2, v, q1, q2, _, _, rfl, q3, _⟩ | ⟨i, τ, xs, _, _, _, _, hn⟩ | ⟨_, _, _, _, _, _, hn, _⟩
   case inr.inr.inr => rw [hn] at k1; cases k1
   ·exact ⟨_, hl, by rw [nA_mapC, hsame j2 b2 q1 q2, hnx], hβl⟩
   ·exact ⟨_, hl, by rw [nA_mapC, q3, hsame j2 b2 q1 q2, hnx], hβl⟩
   ·rw [hn] at k1; cases k1
 have hloc : ∀ l x, getM (m' ++ outM 0 hbs') l = some (.bx x) → ∃ y, getM mn (backL t ls l) = some (.bx y) ∧ nA y = nA x ∧ Gn.β (backL t ls l) = G'.β l := fun l x hx => by
  cases l with
  | outer j => exact hloc0 j x hx
  | own i =>
   rw [hgetM'] at hx
   rcases memOk_spec hok _ _ (get_mem hx) with ⟨_, _, _, q1, _⟩ | ⟨_, _, _, _, q1⟩ | ⟨_, _, q1, _⟩ <;> cases q1
  | box b =>
   rw [hgetB] at hx
   refine ⟨mapC (renOwn t ls) x, ?_, nA_mapC _ _, hGbox b _ hx⟩
   rw [show backL t ls (.box b) = .box (bxN t b) from rfl, hmn, hbackB b x hx]
 have hnd : ∀ l, getM (m' ++ outM 0 hbs') l ≠ some .dead ∨ ∃ i, l = .own i := fun l => by
  cases l with
  | own i => exact .inr ⟨i, rfl⟩
  | box b =>
   left
   intro hx
   rw [hgetB] at hx
   rcases memOk_spec hok _ _ (get_mem hx) with ⟨_, _, _, q1, _⟩ | ⟨_, _, _, q1, _⟩ | ⟨_, _, _, q1, _⟩ <;> cases q1
  | outer j =>
   left
   intro hx
   rw [getM_append] at hx
   cases hgo : getM m' (.outer j) with
   | some o =>
    rw [hgo] at hx
    cases hx
    rcases memOk_spec hok _ _ (get_mem hgo) with ⟨_, _, _, _, q1, _⟩ | ⟨_, _, _, _, q1⟩ | ⟨_, _, _, q1, _⟩ <;> cases q1
   | none =>
    rw [hgo] at hx
    simp only at hx
    rw [getM_outM0] at hx
    cases hbj : hbs'[j]? <;> rw [hbj] at hx <;> cases hx
 have hren : ∀ c v, resOk c = true → (lie = false → mayLie c = false) → CRel G' (m' ++ outM 0 hbs') w' c v → CRel Gn mn w' (renOwn t ls c) v := fun c v h1 h2 hr =>
  ren_rel lie hnd (fun hl b hb => (hGS b).2 (.inr ⟨hl, hb⟩)) hloc hown h1 h2 hr
 have hsok : ∀ (l0 : Loc) (v : A1), (l0, Obj.bx v) ∈ m' → SOk G' w' Gn w' v := fun l0 v hm κ ka τ va xs e y us hr => by
  cases hl2 : lie with
  | true => exact hr.mono (fun b hb => (hGS b).2 (.inr ⟨hl2, hb⟩)) (fun _ _ => rfl)
  | false =>
   rw [hl2] at hlie
   simp only [lies, Bool.or_eq_false_iff] at hlie
   have := (memLies_spec hlie.2 _ _ hm).2
   subst e
   exact hr.flat (by simpa [mpLies] using this)
 have hnew : MRel P B Gn mn w' := by
  refine hM1.stepOff (hio := hM'.io) hE hsz (gvOf G m gl) (fun b hb => ⟨(hgv b hb).1, (hgv b hb).2.1⟩) (· ∈ ls) (fun l hl => ?_) (fun b hb1 hng hne _ => hkeep b hb1 hng hne) (fun l o' ho' => ?_) (fun l hl => ?_) (fun l l' h1 h2 g1 g2 e => ?_) (fun l hl => ?_) (fun b hb => ?_) (fun b hb => ?_)
  ·obtain ⟨j, b0, h1, h2⟩ := hbox l hl
   exact (hbox1 j l b0 h1 h2).2.1
  ·have hl := hmn l
   cases hg : getM mw l with
   | none =>
    rw [hg] at hl
    rw [hl] at ho'
    by_cases hls : l ∈ ls
    ·obtain ⟨j, b, h1, h2⟩ := hbox l hls
     obtain ⟨k1, k2, k3⟩ := hbox1 j l b h1 h2
     rw [k1] at ho'; cases ho'
     have hout : getM m' (.outer j) = none := by
      cases hgo : getM m' (.outer j) with
      | none => rfl
      | some o2 =>
       rcases memOk_spec hok _ _ (get_mem hgo) with ⟨j', v', b', e1, e2, h4, _, _⟩ | ⟨_, _, _, e1, _⟩ | ⟨_, _, e1, _⟩
       case inr.inr => cases e1
       ·cases e1; subst e2
        have hmm := backM_outer (t := t) (ls := ls) (get_mem hgo)
        have hnl : nthL ls j = l := by simp [nthL, List.getD, h1]
        rw [hnl] at hmm
        have := mem_get hn2 (by rw [← hmw]; exact List.mem_append_right _ hmm)
        rw [hg] at this; cases this
       ·cases e1
     refine .inr (hE.O (hGβ l _ k1).1 (hGβ l _ k1).2 ?_ (hM1.objs l _ k1))
     rw [k3]
     refine hun j ?_ hout
     have := (List.getElem?_eq_some_iff.1 h1).1
     omega
    ·exact .inl ⟨ho', hls⟩
   | some o2 =>
    rw [hg] at hl
    rw [hl] at ho'; cases ho'
    rcases hcls l o' hg with ⟨j, b, h1, h2, h3, rfl⟩ | ⟨j, b, v, h1, h2, h3, h4, rfl, h5, h6⟩ | ⟨i, τ, xs, rfl, h1, h2, rfl, hn⟩ | ⟨b, v, rfl, h1, h4, rfl, hn, h6⟩
    case inr.inr.inr =>
     right
     have hgo : getM (m' ++ outM 0 hbs') (.box b) = some (.bx v) := by rw [hgetB, h1]
     have hβo : Gn.β (.box (bxN t b)) = G'.β (.box b) := hGbox b _ h1
     have hrn : ∀ c ∈ cellsL [v], ∀ u, CRel G' (m' ++ outM 0 hbs') w' c u → CRel Gn mn w' (renOwn t ls c) u := fun c hc u hcv => by
      refine hren c u (List.all_eq_true.1 h6 c hc) (fun hl => ?_) hcv
      rw [hl] at hlie
      simp only [lies, Bool.or_eq_false_iff] at hlie
      have := (memLies_spec hlie.2 _ _ h4).1
      exact Bool.eq_false_iff.2 (List.any_eq_false.1 this c hc)
     rcases hM'.objs _ _ hgo with ⟨vs, hcs, hr, hf⟩ | hlp
     case inr =>
      right
      refine hlp.map (fun _ _ => rfl) (fun g p ts st l e vs hvs => ?_) (hsok _ _ h4) (by rw [hβo])
      subst e
      exact renCs_rel (x := .agg l) (fun c hc => hrn c (by simp only [cellsL, List.append_nil] at hc ⊢; exact List.mem_cons_of_mem _ hc)) hvs
     rw [← hβo] at hr hf
     exact .inl ⟨vs, renCs_rel hrn hcs, hr, hf⟩
    ·right
     obtain ⟨k1, k2, k3⟩ := hbox1 j l b h1 h2
     have hb2 : w'.heap[G.β l]? = w.heap[G.β l]? := by
      rw [← hβ1 l _ (hbs j l b h1 h2).1, k3]
      refine hun j ?_ h3
      have := (List.getElem?_eq_some_iff.1 h1).1
      omega
     have hβn : Gn.β l = G.β l := by rw [(hGβ l _ k1).1, hβ1 l _ (hbs j l b h1 h2).1]
     have hSi : ∀ i ∈ ownsOf (cellsL [b]), ∀ τ xs fr, getM m (.own i) = some (.sl τ xs fr) → xs ≠ [] → G1.S (G.β (.own i)) := fun i hi τ xs fr hg hne => by
      refine hS1 i ?_ τ xs fr hg hne
      rw [← his]
      cases lie with
      | true => exact how i (lentOf_of (hrst i (restO_of h2 (by rw [Nat.zero_add]; exact h3) i hi)) (cellsL_mem (List.mem_of_getElem? h2) i hi))
      | false => exact restO_of h2 (by rw [Nat.zero_add]; exact h3) i hi
     rcases h.objs l _ (hbs j l b h1 h2).1 with ⟨vs, hcs, hr, hf⟩ | hlp
     case inr =>
      right
      refine hlp.map (fun _ _ => rfl) (fun g p ts st l e vs hvs => ?_) (fun _ _ _ _ _ _ _ _ hr => hr.mono (fun b hb => hE.S b (hE1.S b hb)) (fun b hb => hE.heap b (hE1.S b hb))) (by rw [hβn]; exact hb2)
      subst e
      exact hE.Cs (resolveCs_rel (x := .agg l) h hE1 (fun i hi => hSi i (by simpa [cellsL, ownsOf] using hi)) hvs)
     refine .inl ⟨vs, hE.Cs (resolveCs_rel h hE1 hSi hcs), by rw [hβn]; exact rangeAt_same hr hb2, fun q hq => ?_⟩
     ·rw [hβn, World.frozen?_of_block (a := ⟨G.β l, q, none⟩) hb2]; exact hf q hq
    ·right
     obtain ⟨k1, k2, k3⟩ := hbox1 j l b h1 h2
     have hgo : getM (m' ++ outM 0 hbs') (.outer j) = some (.bx v) := by rw [getM_append, h3]
     have hβo : G'.β (.outer j) = Gn.β l := by
      rw [(hGβ l _ k1).1, k3]
      rcases hM'.new (.outer j) (by unfold Real; rw [hgo]; trivial) with ⟨j', e, _, e2⟩ | ⟨hno, _⟩
      ·cases e; exact e2
      ·exact absurd rfl (hno j)
     have hrn : ∀ c ∈ cellsL [v], ∀ u, CRel G' (m' ++ outM 0 hbs') w' c u → CRel Gn mn w' (renOwn t ls c) u := fun c hc u hcv => by
      refine hren c u (List.all_eq_true.1 h6 c hc) (fun hl => ?_) hcv
      rw [hl] at hlie
      simp only [lies, Bool.or_eq_false_iff] at hlie
      have := (memLies_spec hlie.2 _ _ h4).1
      exact Bool.eq_false_iff.2 (List.any_eq_false.1 this c hc)
     rcases hM'.objs _ _ hgo with ⟨vs, hcs, hr, hf⟩ | hlp
     case inr =>
      right
      refine hlp.map (fun _ _ => rfl) (fun g p ts st l e vs hvs => ?_) (hsok _ _ h4) (by rw [hβo])
      subst e
      exact renCs_rel (x := .agg l) (fun c hc => hrn c (by simp only [cellsL, List.append_nil] at hc ⊢; exact List.mem_cons_of_mem _ hc)) hvs
     rw [hβo] at hr hf
     exact .inl ⟨vs, renCs_rel hrn hcs, hr, hf⟩
    ·right
     obtain ⟨i', e, k1, _, k3, k4⟩ := hM'.objs _ _ (by rw [hgetM']; exact h1)
     cases e
     obtain ⟨g1, g2⟩ := hGown i _ h1
     refine ⟨t * 64 + i, rfl, by rw [g2]; exact k1, (fun hf => nomatch hf), fun j hj => ?_, fun _ j hj => ?_⟩
     ·obtain ⟨us, hrep, hc⟩ := k3 j hj
      refine ⟨us, ?_, by rw [g1]; exact hc⟩
      cases lie with
      | true => exact hrep.mono (fun b hb => .inr ⟨rfl, hb⟩) (fun _ _ => rfl)
      | false =>
       simp only [lies, Bool.or_eq_false_iff] at hlie
       exact hrep.flat (memLies_spec hlie.2 _ _ h2)
     ·rw [g1]; rw [g2] at hj; exact k4 rfl j hj
  ·have hl' := hmn l
   cases hg : getM mw l with
   | none =>
    rw [hg] at hl'
    left
    obtain ⟨o, ho⟩ := hl.of_get
    have ho1 : getM m1 l = some o := hl'.symm.trans ho
    obtain ⟨g1, g2⟩ := hGβ l o ho1
    unfold Real at hl ⊢
    rw [ho] at hl; rw [ho1]
    cases o with
    | bx _ => trivial
    | dead => exact hl
    | sl τ xs fr => obtain ⟨i, e, hp⟩ := hl; exact ⟨i, e, by rw [← g2 i e]; exact hp⟩
   | some o' =>
    rcases hcls l o' hg with ⟨j, b, h1, h2, h3, rfl⟩ | ⟨j, b, v, h1, h2, h3, h4, rfl, h5, h6⟩ | ⟨i, τ, xs, rfl, h1, h2, rfl, hn⟩ | ⟨b, v, rfl, h1, h4, rfl, hn, h6⟩
    case inr.inr.inr =>
     right
     have g1 := hGbox b _ h1
     have hre : Real G' (m' ++ outM 0 hbs') (.box b) := by unfold Real; rw [hgetB, h1]; trivial
     have hge : (begOf w (lentS G m ow) (omega_ G ls) hbs'.length (gvOf G m gl)).fr (G'.β (.box b)) := by
      rcases hM'.new _ hre with ⟨j, e, _⟩ | ⟨_, hge⟩
      ·cases e
      ·exact hge
     refine ⟨(fun _ e => nomatch e), by rw [g1]; exact (hfrB _ hge).2.1, by rw [g1]; exact hM'.lt _ hre, fun l' hl' e => ?_⟩
     exact (hfrB _ hge).1 l' hl' (by rw [e, g1])
    ·exact .inl (hbox1 j l b h1 h2).2.1.real
    ·exact .inl (hbox1 j l b h1 h2).2.1.real
    ·right
     obtain ⟨g1, g2⟩ := hGown i _ h1
     have hre : Real G' (m' ++ outM 0 hbs') (.own i) := by
      unfold Real at hl ⊢
      rw [hgetM', h1]
      rw [hl', hg] at hl
      obtain ⟨i', e, hp⟩ := hl
      cases e
      exact ⟨i, rfl, by rw [← g2]; exact hp⟩
     have hge : (begOf w (lentS G m ow) (omega_ G ls) hbs'.length (gvOf G m gl)).fr (G'.β (.own i)) := by
      rcases hM'.new _ hre with ⟨j, e, _⟩ | ⟨_, hge⟩
      ·cases e
      ·exact hge
     refine ⟨(fun _ e => nomatch e), by rw [g1]; exact (hfrB _ hge).2.1, by rw [g1]; exact hM'.lt _ hre, fun l' hl' e => ?_⟩
     exact (hfrB _ hge).1 l' hl' (by rw [e, g1])
  ·have key : ∀ l, Real Gn mn l → ¬ Real G1 m1 l → (∃ i, l = .own (t * 64 + i) ∧ Real G' (m' ++ outM 0 hbs') (.own i) ∧ Gn.β l = G'.β (.own i)) ∨ (∃ b, l = .box (bxN t b) ∧ Real G' (m' ++ outM 0 hbs') (.box b) ∧ Gn.β l = G'.β (.box b)) := fun l hl hnl => by
    have hl' := hmn l
    cases hg : getM mw l with
    | none =>
     rw [hg] at hl'
     exfalso
     obtain ⟨o, ho⟩ := hl.of_get
     have ho1 : getM m1 l = some o := hl'.symm.trans ho
     obtain ⟨g1, g2⟩ := hGβ l o ho1
     apply hnl
     unfold Real at hl ⊢
     rw [ho] at hl; rw [ho1]
     cases o with
     | bx _ => trivial
     | dead => exact hl
     | sl τ xs fr => obtain ⟨i, e, hp⟩ := hl; exact ⟨i, e, by rw [← g2 i e]; exact hp⟩
    | some o' =>
     rcases hcls l o' hg with ⟨j, b, h1, h2, h3, rfl⟩ | ⟨j, b, v, h1, h2, h3, h4, rfl, h5, h6⟩ | ⟨i, τ, xs, rfl, h1, h2, rfl, hn⟩ | ⟨b, v, rfl, h1, h4, rfl, hn, h6⟩
     case inr.inr.inr => exact .inr ⟨b, rfl, by unfold Real; rw [hgetB, h1]; trivial, hGbox b _ h1⟩
     ·exact absurd (hbox1 j l b h1 h2).2.1.real hnl
     ·exact absurd (hbox1 j l b h1 h2).2.1.real hnl
     ·obtain ⟨g1, g2⟩ := hGown i _ h1
      refine .inl ⟨i, rfl, ?_, g1⟩
      unfold Real at hl ⊢
      rw [hgetM', h1]
      rw [hl', hg] at hl
      obtain ⟨i', e, hp⟩ := hl
      cases e
      exact ⟨i, rfl, by rw [← g2]; exact hp⟩
   rcases key l h1 g1 with ⟨i, rfl, r1, e1⟩ | ⟨i, rfl, r1, e1⟩ <;> rcases key l' h2 g2 with ⟨i', rfl, r2, e2⟩ | ⟨i', rfl, r2, e2⟩ <;>
   ·rw [e1, e2] at e
    have := hM'.inj _ _ r1 r2 e
    cases this; try rfl
  ·have hl' := hmn l
   cases hg : getM mw l with
   | none =>
    rw [hg] at hl'
    obtain ⟨o, ho⟩ := hl.real.of_get
    have ho1 : getM m1 l = some o := hl'.symm.trans ho
    obtain ⟨g1, g2⟩ := hGβ l o ho1
    rw [g1]
    refine hSw l ?_
    unfold Writ at hl ⊢
    rw [ho] at hl; rw [ho1]
    cases o with
    | bx _ => trivial
    | dead => exact hl
    | sl τ xs fr =>
     cases fr with
     | true => exact hl
     | false => obtain ⟨i, e, hp⟩ := hl; exact ⟨i, e, by rw [← g2 i e]; exact hp⟩
   | some o' =>
    rcases hcls l o' hg with ⟨j, b, h1, h2, h3, rfl⟩ | ⟨j, b, v, h1, h2, h3, h4, rfl, h5, h6⟩ | ⟨i, τ, xs, rfl, h1, h2, rfl, hn⟩ | ⟨b, v, rfl, h1, h4, rfl, hn, h6⟩
    case inr.inr.inr =>
     have g1 := hGbox b _ h1
     have hwr : Writ G' (m' ++ outM 0 hbs') (.box b) := by unfold Writ; rw [hgetB, h1]; trivial
     have hge : (begOf w (lentS G m ow) (omega_ G ls) hbs'.length (gvOf G m gl)).fr (G'.β (.box b)) := by
      rcases hM'.new _ hwr.real with ⟨j, e, _⟩ | ⟨_, hge⟩
      ·cases e
      ·exact hge
     rw [g1]
     rintro (hs | ⟨_, hs⟩)
     ·exact (hfrB _ hge).2.2 hs
     ·exact hM'.wr _ hwr hs
    ·obtain ⟨k1, k2, _⟩ := hbox1 j l b h1 h2
     rw [(hGβ l _ k1).1]; exact hSw l k2
    ·obtain ⟨k1, k2, _⟩ := hbox1 j l b h1 h2
     rw [(hGβ l _ k1).1]; exact hSw l k2
    ·obtain ⟨g1, g2⟩ := hGown i _ h1
     have hwr : Writ G' (m' ++ outM 0 hbs') (.own i) := by
      unfold Writ at hl ⊢
      rw [hgetM', h1]
      rw [hl', hg] at hl
      obtain ⟨i', e, hp⟩ := hl
      cases e
      exact ⟨i, rfl, by rw [← g2]; exact hp⟩
     have hge : (begOf w (lentS G m ow) (omega_ G ls) hbs'.length (gvOf G m gl)).fr (G'.β (.own i)) := by
      rcases hM'.new _ hwr.real with ⟨j, e, _⟩ | ⟨_, hge⟩
      ·cases e
      ·exact hge
     rw [g1]
     rintro (hs | ⟨_, hs⟩)
     ·exact (hfrB _ hge).2.2 hs
     ·exact hM'.wr _ hwr hs
  ·rcases hb with hb | ⟨_, hb⟩
   ·exact Nat.lt_of_lt_of_le (hM1.ltS b hb) hsz
   ·exact hM'.ltS b hb
  ·rcases hb with hb | ⟨hli, hb⟩
   ·exact .inl hb
   ·rcases hM'.s1 _ hb with hs | hge
    ·left
     rcases hs with hs | ⟨i, hi, τ, xs, fr, hg, hne, e⟩
     ·exact hE1.S _ hs
     ·rw [e]
      refine hS1 i ?_ τ xs fr hg hne
      rw [← his, hli]; exact hi
    ·exact .inr (hfrB _ hge).2.1
 refine ⟨Gn, hnew, hE1.trans hE, renAV_rel (fun c hc v hcv => hren c v (List.all_eq_true.1 hres c hc) (fun hl => ?_) hcv) hv⟩
 rw [hl] at hlie
 simp only [lies, Bool.or_eq_false_iff] at hlie
 exact Bool.eq_false_iff.2 (List.any_eq_false.1 hlie.1 c hc)
end Go.Al
