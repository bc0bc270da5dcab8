/- Templates: a state is what its template says. -/
import Derived.Test.YtcgmelealalhhaaGreatDoorAlTm
namespace Go.Al
variable {P : Program} {H : Hint}
theorem encCs_len : ∀ (ts : List TC) (x : TCs ts), (encCs ts x).length = ts.length
 | [], _ => rfl | _ :: r, x => by simp [encCs, encCs_len r]
theorem encAs_len : ∀ (ts : List TA) (x : TAs ts), (encAs ts x).length = ts.length
 | [], _ => rfl | _ :: r, x => by simp [encAs, encAs_len r]
theorem nA_enc (t : TA) (y : t.T) : nA (encA t y) = nT t := by
 cases t with
 | one c => rfl
 | agg l => exact encCs_len l y
 | arr τ n => rfl
 | lp => rfl
 | mp => rfl
section
variable {B : Beg} {G : Gh} {m : Mem} {w : World} {G1 : Gh} {m1 : Mem} {G' : Gh} {m' : Mem} {f : Loc → Option TA}
structure Link (G : Gh) (m : Mem) (w : World) (G1 : Gh) (m1 : Mem) (G' : Gh) (m' : Mem) (f : Loc → Option TA) (is : List Nat) (E : List Ent) : Prop where
 ext : Ext G m w G1 m1 w
 S : G'.S = G1.S
 fz : ∀ i ∈ is, ∀ τ xs fr, getM m (.own i) = some (.sl τ xs fr) → xs ≠ [] → G1.S (G.β (.own i))
 ent : ∀ e ∈ E, getM m' (.own e.1) = some e.2.2 ∧ match e.2.1 with | some j => G'.β (.own e.1) = G.β (.own j) ∧ G'.κ e.1 = G.κ j | none => G'.κ e.1 = 0
 loc : ∀ l t, f l = some t → ∃ y, getM m' l = some (.bx y) ∧ nA y = nT t ∧ G'.β l = G.β l
theorem decC_rel (h : MRel P B G m w) {is : List Nat} {E : List Ent} (L : Link G m w G1 m1 G' m' f is E) {t : TC} {c : C} {x : t.T} {v : Value} (hfz : ∀ i ∈ fzC t c, i ∈ is) (hent : ∀ e ∈ entC t c x, e ∈ E) (hok : okC f t = true)
  (hd : decC (getM m) t c = some x) (hr : CRel G m w c v) : CRel G' m' w (encC t x) v := by
 cases t with
 | und => trivial
 | v τ =>
  have h1 := resolve_rel h L.ext (fun i hi => L.fz i (hfz i hi)) hr
  have h2 := dc1_rel hd h1
  exact c1_rel (by rw [L.S]; exact h2)
 | vn τ =>
  have h1 := resolve_rel h L.ext (fun i hi => L.fz i (hfz i hi)) hr
  simp only [decC] at hd
  split at hd
  ·rename_i hc
   cases hd
   rw [hc] at h1
   exact ⟨none, 0, h1, Nat.le_refl _, fun i hi => absurd hi (Nat.not_lt_zero _), fun b e => by cases e; rfl, fun e => nomatch e⟩
  ·rename_i τ' xs b ex hc
   split at hd
   ·rename_i e'
    subst e'
    cases hd
    rw [hc] at h1
    obtain ⟨ad, c, e1, e2, e3, e4, _⟩ := h1
    refine ⟨ad, c, e1, e2, ?_, e4, fun e => nomatch e⟩
    rw [L.S]; exact e3
   ·cases hd
  ·cases hd
 | vx τ =>
  have h1 := resolve_rel h L.ext (fun i hi => L.fz i (hfz i hi)) hr
  simp only [decC] at hd
  split at hd
  ·rename_i τ' xs nl hc
   split at hd
   ·rename_i e'
    subst e'
    cases hd
    rw [hc] at h1
    obtain ⟨ad, c, e1, e2, e3, _, e5⟩ := h1
    refine ⟨ad, c, e1, e2, ?_, (fun b e => nomatch e), e5⟩
    rw [L.S]; exact e3
   ·cases hd
  ·cases hd
 | own i τ =>
  cases c <;> simp only [decC] at hd <;> try (cases hd; done)
  ·obtain ⟨h96, hd⟩ := cond_some hd
   have h96 := Nat.le_of_ble_eq_true h96
   cases hd
   obtain ⟨e1, e2⟩ := L.ent _ (hent _ (by simp [entC]; rfl))
   simp only at e1 e2
   simp only [CRel] at hr
   subst hr
   simp only [encC, CRel, e1]
   exact ⟨none, by rw [e2]; rfl, .inr e2, fun hlt => absurd hlt (by omega)⟩
  ·rename_i j
   split at hd
   ·rename_i τ' xs hg0
    obtain ⟨h96, hg⟩ := cond_some hg0
    have h96 := Nat.le_of_ble_eq_true h96
    split at hd
    ·rename_i e'
     subst e'
     cases hd
     obtain ⟨e1, e2, e3⟩ := L.ent _ (hent _ (by simp [entC]; rfl))
     simp only at e1 e2 e3
     simp only [CRel, hg] at hr
     simp only [encC, CRel, e1, e2, e3]
     obtain ⟨ad, q1, q2, _⟩ := hr
     exact ⟨ad, q1, q2, fun hlt => absurd hlt (by omega)⟩
    ·cases hd
   ·cases hd
 | ptr l o r =>
  cases c <;> simp only [decC] at hd <;> try (cases hd; done)
  rename_i l' o' r'
  obtain ⟨hc, _⟩ := cond_some hd
  simp only [Bool.and_eq_true] at hc
  have e1 := Loc.eqb_iff.1 hc.1.1
  have e2 := Nat.eq_of_beq_eq_true hc.1.2
  subst e1; subst e2
  obtain ⟨_, rfl⟩ := hr
  simp only [okC] at hok
  split at hok
  ·rename_i t ht
   obtain ⟨y, y1, y2, y3⟩ := L.loc _ _ ht
   refine ⟨?_, by rw [y3]⟩
   rw [y1]
   show o + r ≤ nA y
   rw [y2]; exact Nat.le_of_ble_eq_true hok
  ·cases hok
 | fn g caps =>
  cases c <;> simp only [decC] at hd <;> try (cases hd; done)
  rename_i g' caps'
  obtain ⟨⟨e1, e2⟩, _⟩ := ite_some hd
  subst e1; subst e2
  obtain ⟨_, rfl⟩ := hr
  simp only [okC] at hok
  have key : ∀ l ∈ caps', ∃ y, getM m' l = some (.bx y) ∧ G'.β l = G.β l := fun l hl => by
   have := List.all_eq_true.1 hok l hl
   split at this
   ·rename_i t ht
    obtain ⟨y, y1, _, y3⟩ := L.loc _ _ ht
    exact ⟨y, y1, y3⟩
   ·cases this
  refine ⟨fun l hl => by obtain ⟨y, y1, _⟩ := key l hl; exact .inl ⟨y, y1⟩, ?_⟩
  refine congrArg (fnV _) ?_
  unfold ptrs
  exact List.map_congr_left fun l hl => by obtain ⟨y, _, y3⟩ := key l hl; rw [y3]
 | ifc t τ ag =>
  cases c <;> simp only [decC] at hd <;> try (cases hd; done)
  rename_i t' τ' ag' x'
  split at hd
  ·rename_i e
   obtain ⟨e1, e2, e3⟩ := e
   subst e1; subst e2; subst e3
   cases hd
   obtain ⟨us, h1, h2⟩ := hr
   exact ⟨us, by rw [L.S]; exact h1.mono L.ext.S L.ext.heap, h2⟩
  ·cases hd
 | fnb t τ ag =>
  cases c <;> simp only [decC] at hd <;> try (cases hd; done)
  rename_i t' τ' ag' x'
  split at hd
  ·rename_i e
   obtain ⟨e1, e2, e3⟩ := e
   subst e1; subst e2; subst e3
   cases hd
   obtain ⟨hf, us, h1, h2⟩ := hr
   exact ⟨hf, us, by rw [L.S]; exact h1.mono L.ext.S L.ext.heap, h2⟩
  ·cases hd
 | nils =>
  cases c <;> simp only [decC] at hd <;> try (cases hd; done)
  exact hr
 | nilm =>
  cases c <;> simp only [decC] at hd <;> try (cases hd; done)
  exact hr
 | mpp l =>
  cases c <;> simp only [decC] at hd <;> try (cases hd; done)
  obtain ⟨hc, _⟩ := cond_some hd
  have e1 := Loc.eqb_iff.1 hc
  subst e1
  obtain ⟨_, rfl⟩ := hr
  simp only [okC] at hok
  split at hok
  ·rename_i t ht
   obtain ⟨y, y1, _, y3⟩ := L.loc _ _ ht
   exact ⟨.inl ⟨y, y1⟩, by rw [y3]⟩
  ·cases hok
theorem decCs_rel (h : MRel P B G m w) {is : List Nat} {E : List Ent} (L : Link G m w G1 m1 G' m' f is E) : ∀ {ts : List TC} {cs : List C} {x : TCs ts} {vs : List Value}, (∀ i ∈ fzCs ts cs, i ∈ is) → (∀ e ∈ entCs ts cs x, e ∈ E) →
  ts.all (okC f) = true → decCs (getM m) ts cs = some x → All2 (CRel G m w) cs vs → All2 (CRel G' m' w) (encCs ts x) vs
 | [], [], _, _, _, _, _, _, hr => by cases hr; exact .nil
 | [], _ :: _, _, _, _, _, _, h, _ => by simp [decCs] at h
 | _ :: _, [], _, _, _, _, _, h, _ => by simp [decCs] at h
 | t :: r, c :: cs, x, vs, hfz, hent, hok, hd, hr => by
  simp only [decCs] at hd
  split at hd
  ·rename_i y z hy hz
   cases hd
   cases hr with
   | cons h1 h2 =>
    simp only [List.all_cons, Bool.and_eq_true] at hok
    exact .cons (decC_rel h L (fun i hi => hfz i (List.mem_append_left _ hi)) (fun e he => hent e (List.mem_append_left _ he)) hok.1 hy h1)
     (decCs_rel h L (fun i hi => hfz i (List.mem_append_right _ hi)) (fun e he => hent e (List.mem_append_right _ he)) hok.2 hz h2)
  ·cases hd
theorem castArr {τ τ' : Ty} (e : τ' = τ) (n : Nat) (xs : List (den τ')) : A1.arr τ n (e ▸ xs) = A1.arr τ' n xs := by subst e; rfl
theorem decA_Cs (h : MRel P B G m w) {is : List Nat} {E : List Ent} (L : Link G m w G1 m1 G' m' f is E) {t : TA} {v : A1} {x : t.T} {vs : List Value} (hfz : ∀ i ∈ fzA t v, i ∈ is) (hent : ∀ e ∈ entA t v x, e ∈ E)
  (hok : okA f t = true) (hd : decA (getM m) t v = some x) (hr : CsRel G m w v vs) : CsRel G' m' w (encA t x) vs := by
 cases t <;> cases v <;> try (first | exact hr.elim | (simp only [decA] at hd; cases hd; done))
 ·obtain ⟨u, e, hr⟩ := hr
  exact ⟨u, e, decC_rel h L hfz hent hok hd hr⟩
 ·exact decCs_rel h L hfz hent hok hd hr
 ·simp only [decA] at hd
  split at hd
  ·rename_i e
   obtain ⟨e1, e2⟩ := e
   subst e1; subst e2
   cases hd
   obtain ⟨h1, h2, h3⟩ := hr
   exact ⟨h1, h2, arr_hand h1 h3⟩
  ·cases hd
theorem decA_Lp (h : MRel P B G m w) {is : List Nat} {E : List Ent} (L : Link G m w G1 m1 G' m' f is E) {t : TA} {v : A1} {x : t.T} {b : Nat} (hfz : ∀ i ∈ fzA t v, i ∈ is) (hent : ∀ e ∈ entA t v x, e ∈ E)
  (hok : okA f t = true) (hd : decA (getM m) t v = some x) (hr : LpRel P G m w b v) : LpRel P G' m' w b (encA t x) := by
 cases t <;> cases v <;> try (first | exact hr.elim | (simp only [decA] at hd; cases hd; done))
 ·obtain ⟨n, cs', rfl, rfl, rfl, rfl, h2, rfl⟩ := decLp hd
  obtain ⟨q, n, ps, st, l, k1, k2, k3, k4, k5, k6, k7⟩ := hr
  cases k5
  exact ⟨q, n, ps, _, _, k1, k2, k3, k4, rfl, k6, decCs_rel h L hfz hent hok h2 k7⟩
 ·simp only [decA] at hd
  split at hd
  ·rename_i e
   obtain ⟨e1, e2, e3, e4⟩ := e
   subst e1; subst e2; subst e3; subst e4
   cases hd
   exact ⟨hr.1, hr.2.imp (fun y us hy => by rw [L.S]; exact hy.mono L.ext.S L.ext.heap) rfl⟩
  ·cases hd
theorem decA_rel (h : MRel P B G m w) {is : List Nat} {E : List Ent} (L : Link G m w G1 m1 G' m' f is E) {t : TA} {v : A1} {x : t.T} {u : Value} (hfz : ∀ i ∈ fzA t v, i ∈ is) (hent : ∀ e ∈ entA t v x, e ∈ E)
  (hok : okA f t = true) (hd : decA (getM m) t v = some x) (hr : A1Rel G m w v u) : A1Rel G' m' w (encA t x) u := by
 cases t <;> cases v <;> try (first | exact hr.elim | (simp only [decA] at hd; cases hd; done))
 ·exact decC_rel h L hfz hent hok hd hr
 ·obtain ⟨us, e, hr⟩ := hr
  exact ⟨us, e, decCs_rel h L hfz hent hok hd hr⟩
 ·simp only [decA] at hd
  split at hd
  ·rename_i e
   obtain ⟨e1, e2⟩ := e
   subst e1; subst e2
   cases hd
   obtain ⟨us, e, h1, h2, h3⟩ := hr
   exact ⟨us, e, h1, h2, arr_hand h1 h3⟩
  ·cases hd
end
theorem decAs_get {μ : Loc → Option Obj} : ∀ {ts : List TA} {vs : List A1} {x : TAs ts}, decAs μ ts vs = some x → ∀ (p : Nat) (v : A1), vs[p]? = some v →
  ∃ t y, ts[p]? = some t ∧ (encAs ts x)[p]? = some (encA t y) ∧ decA μ t v = some y ∧ (∀ e ∈ entA t v y, e ∈ entAs ts vs x) ∧ (∀ i ∈ fzA t v, i ∈ fzAs ts vs)
 | [], [], _, _, p, v, hv => by simp at hv
 | [], _ :: _, _, h, _, _, _ => by simp [decAs] at h
 | _ :: _, [], _, h, _, _, _ => by simp [decAs] at h
 | t :: r, c :: cs, x, h, p, v, hv => by
  simp only [decAs] at h
  split at h
  ·rename_i y z hy hz
   cases h
   cases p with
   | zero =>
    simp at hv; subst hv
    exact ⟨t, y, rfl, rfl, hy, fun e he => List.mem_append_left _ he, fun i hi => List.mem_append_left _ hi⟩
   | succ p =>
    obtain ⟨t', y', g1, g2, g3, g4, g5⟩ := decAs_get hz p v (by simpa using hv)
    exact ⟨t', y', g1, g2, g3, fun e he => List.mem_append_right _ (g4 e he), fun i hi => List.mem_append_right _ (g5 i hi)⟩
  ·cases h
theorem decAs_len {μ : Loc → Option Obj} : ∀ {ts : List TA} {vs : List A1} {x : TAs ts}, decAs μ ts vs = some x → ts.length = vs.length
 | [], [], _, _ => rfl
 | [], _ :: _, _, h => by simp [decAs] at h
 | _ :: _, [], _, h => by simp [decAs] at h
 | t :: r, c :: cs, x, h => by
  simp only [decAs] at h
  split at h
  ·rename_i y z hy hz
   simp [decAs_len hz]
  ·cases h
theorem gatM_get {s : St} : ∀ {ls : List Loc} {b : List A1}, gatM s ls = some b → b.length = ls.length ∧ ∀ (p : Nat) (l : Loc), ls[p]? = some l → ∃ v, b[p]? = some v ∧ getM s.mem l = some (.bx v)
 | [], b, h => by simp [gatM] at h; subst h; exact ⟨rfl, fun p l hl => by simp at hl⟩
 | t :: r, b, h => by
  simp only [gatM] at h
  split at h
  ·rename_i x l hx hl
   cases h
   obtain ⟨i1, i2⟩ := gatM_get hl
   refine ⟨by simp [i1], fun p l' hp => ?_⟩
   cases p with
   | zero => simp at hp; subst hp; exact ⟨x, rfl, hx⟩
   | succ p => exact i2 p l' (by simpa using hp)
  ·cases h
theorem gatR_get {s : St} : ∀ {ls : List Nat} {b : List A1}, gatR s ls = some b → b.length = ls.length ∧ ∀ (p : Nat) (l : Nat), ls[p]? = some l → ∃ v, b[p]? = some v ∧ getR s.regs l = .a v
 | [], b, h => by simp [gatR] at h; subst h; exact ⟨rfl, fun p l hl => by simp at hl⟩
 | t :: r, b, h => by
  simp only [gatR] at h
  split at h
  ·rename_i x l hx hl
   cases h
   obtain ⟨i1, i2⟩ := gatR_get hl
   refine ⟨by simp [i1], fun p l' hp => ?_⟩
   cases p with
   | zero => simp at hp; subst hp; exact ⟨x, rfl, hx⟩
   | succ p => exact i2 p l' (by simpa using hp)
  ·cases h
theorem zipR_get : ∀ (ls : List Nat) (b : List A1) (t : Nat), getR (zipR ls b) t = .a (.one .und) ∨ ∃ (p : Nat) (v : A1), ls[p]? = some t ∧ b[p]? = some v ∧ getR (zipR ls b) t = .a v
 | [], b, t => .inl (by simp [zipR, getR])
 | _ :: _, [], t => .inl (by simp [zipR, getR])
 | l :: r, v :: b, t => by
  simp only [zipR, getR, nat_beq]
  by_cases e : l = t
  ·subst e; exact .inr ⟨0, v, rfl, rfl, by simp⟩
  ·simp only [e, decide_false, cond_false]
   rcases zipR_get r b t with h | ⟨p, v', h1, h2, h3⟩
   ·exact .inl h
   ·exact .inr ⟨p + 1, v', by simpa using h1, by simpa using h2, h3⟩
theorem zipM_get : ∀ (ls : List Loc) (b : List A1) (t : Loc) (o : Obj), getM (zipM ls b) t = some o → ∃ (p : Nat) (v : A1), ls[p]? = some t ∧ b[p]? = some v ∧ o = .bx v
 | [], b, t, o, h => by simp [zipM, getM] at h
 | _ :: _, [], t, o, h => by simp [zipM, getM] at h
 | l :: r, v :: b, t, o, h => by
  rw [zipM, getM_cons] at h
  by_cases e : l = t
  ·subst e; rw [if_pos rfl] at h; cases h; exact ⟨0, v, rfl, rfl, rfl⟩
  ·rw [if_neg e] at h
   obtain ⟨p, v', h1, h2, h3⟩ := zipM_get r b t o h
   exact ⟨p + 1, v', by simpa using h1, by simpa using h2, h3⟩
theorem zipM_of : ∀ {ls : List Loc} {b : List A1} {t : Loc}, b.length = ls.length → t ∈ ls → ∃ v, getM (zipM ls b) t = some (.bx v)
 | l :: r, v :: b, t, hl, h => by
  rw [zipM, getM_cons]
  by_cases e : l = t
  ·subst e; exact ⟨v, by simp⟩
  ·rw [if_neg e]
   exact zipM_of (by simpa using hl) ((List.mem_cons.1 h).resolve_left fun h => e h.symm)
 | l :: r, [], t, hl, h => by simp at hl
theorem tmOf_get : ∀ {ls : List Loc} {ts : List TA} {b : List A1} {l : Loc} {t : TA}, tmOf ls ts l = some t → b.length = ls.length → (∀ (p : Nat) (t : TA) (v : A1), ts[p]? = some t → b[p]? = some v → nA v = nT t) → ∃ y, getM (zipM ls b) l = some (.bx y) ∧ nA y = nT t ∧ l ∈ ls
 | [], _, _, _, _, h, _, _ => by simp [tmOf] at h
 | _ :: _, [], _, _, _, h, _, _ => by simp [tmOf] at h
 | _ :: _, _ :: _, [], _, _, _, hl, _ => by simp at hl
 | l :: ls, t :: ts, v :: b, x, t', h, hl, hn => by
  simp only [tmOf] at h
  rw [zipM, getM_cons]
  cases he : Loc.eqb l x with
  | true =>
   rw [he] at h
   cases h
   have := Loc.eqb_iff.1 he
   subst this
   exact ⟨v, by simp, hn 0 t v rfl rfl, List.mem_cons_self⟩
  | false =>
   rw [he] at h
   rw [if_neg (Loc.eqb_ne.1 he)]
   obtain ⟨y, h1, h2, h3⟩ := tmOf_get (b := b) h (by simpa using hl) fun p t v h1 h2 => hn (p + 1) t v (by simpa using h1) (by simpa using h2)
   exact ⟨y, h1, h2, List.mem_cons_of_mem _ h3⟩
theorem fsts_map (E : List Ent) : fsts (E.map entSrc) = E.map (·.1) := by
 induction E with
 | nil => rfl
 | cons e r ih => obtain ⟨i, s, o⟩ := e; simp only [List.map_cons, entSrc, fsts, ← ih]
theorem somes_mem {E : List Ent} {e : Ent} {j : Nat} (he : e ∈ E) (hj : e.2.1 = some j) : j ∈ somes (E.map entSrc) := by
 induction E with
 | nil => cases he
 | cons x r ih =>
  obtain ⟨i, s, o⟩ := x
  rcases List.mem_cons.1 he with rfl | he
  ·simp only at hj; subst hj; exact List.mem_cons_self
  ·have := ih he
   cases s with
   | none => exact this
   | some q => exact List.mem_cons_of_mem _ this
theorem names_inj {E : List Ent} (h : nodupN (fsts (E.map entSrc)) = true) : ∀ e ∈ E, ∀ e' ∈ E, e.1 = e'.1 → e = e' := by
 rw [fsts_map] at h
 induction E with
 | nil => intro e he; cases he
 | cons x r ih =>
  obtain ⟨h1, h2⟩ := srcOf_nodup h
  intro e he e' he' heq
  rcases List.mem_cons.1 he with h3 | h3 <;> rcases List.mem_cons.1 he' with h4 | h4
  ·rw [h3, h4]
  ·exact absurd (List.mem_map.2 ⟨e', h4, by rw [← heq, h3]⟩) h1
  ·exact absurd (List.mem_map.2 ⟨e, h3, by rw [heq, h4]⟩) h1
  ·exact ih h2 e h3 e' h4 heq
theorem srcs_inj {E : List Ent} (h : nodupN (somes (E.map entSrc)) = true) : ∀ e ∈ E, ∀ e' ∈ E, ∀ j, e.2.1 = some j → e'.2.1 = some j → e = e' := by
 induction E with
 | nil => intro e he; cases he
 | cons x r ih =>
  obtain ⟨i, s, o⟩ := x
  intro e he e' he' j hj hj'
  have tail : nodupN (somes (r.map entSrc)) = true := by
   cases s with
   | none => exact h
   | some q => exact (srcOf_nodup h).2
  rcases List.mem_cons.1 he with h3 | h3 <;> rcases List.mem_cons.1 he' with h4 | h4
  ·rw [h3, h4]
  ·have hs : s = some j := by rw [h3] at hj; exact hj
   rw [hs] at h
   exact absurd (somes_mem h4 hj') (srcOf_nodup (l := somes (r.map entSrc)) h).1
  ·have hs : s = some j := by rw [h4] at hj'; exact hj'
   rw [hs] at h
   exact absurd (somes_mem h3 hj) (srcOf_nodup (l := somes (r.map entSrc)) h).1
  ·exact ih tail e h3 e' h4 j hj hj'
theorem objs_get {E : List Ent} (h : nodupN (fsts (E.map entSrc)) = true) : ∀ e ∈ E, getM (E.map entObj) (.own e.1) = some e.2.2 := by
 rw [fsts_map] at h
 induction E with
 | nil => intro e he; cases he
 | cons x r ih =>
  obtain ⟨h1, h2⟩ := srcOf_nodup h
  intro e he
  rw [List.map_cons, show entObj x = (.own x.1, x.2.2) from rfl, getM_cons]
  rcases List.mem_cons.1 he with rfl | he
  ·rw [if_pos rfl]
  ·have hne : Loc.own x.1 ≠ Loc.own e.1 := fun e' => h1 (List.mem_map.2 ⟨e, he, (Loc.own.inj e').symm⟩)
   rw [if_neg hne]; exact ih h2 e he
theorem objs_mem {E : List Ent} {l : Loc} {o : Obj} (h : getM (E.map entObj) l = some o) : ∃ e ∈ E, l = .own e.1 ∧ o = e.2.2 := by
 obtain ⟨e, he, heq⟩ := List.mem_map.1 (get_mem h)
 cases heq
 exact ⟨e, he, rfl, rfl⟩
def lookS : List (Nat × Option Nat) → Nat → Option Nat
 | [], _ => none | (k, s) :: r, i => bif Nat.beq k i then s else lookS r i
theorem lookS_get {E : List Ent} (h : nodupN (fsts (E.map entSrc)) = true) : ∀ e ∈ E, lookS (E.map entSrc) e.1 = e.2.1 := by
 rw [fsts_map] at h
 induction E with
 | nil => intro e he; cases he
 | cons x r ih =>
  obtain ⟨h1, h2⟩ := srcOf_nodup h
  intro e he
  rw [List.map_cons, show entSrc x = (x.1, x.2.1) from rfl, lookS, nat_beq]
  rcases List.mem_cons.1 he with rfl | he
  ·simp
  ·have hne : x.1 ≠ e.1 := fun e' => h1 (List.mem_map.2 ⟨e, he, e'.symm⟩)
   simp only [hne, decide_false, cond_false]; exact ih h2 e he
end Go.Al
