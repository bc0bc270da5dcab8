/- Calls: what comes back. -/
import Derived.Test.YtcgmelealalhhaaGreatDoorAlCall
namespace Go.Al
variable {P : Program} {H : Hint}
theorem setMs_get : ∀ (wr : List (Loc × Obj)) (m : Mem), nodupM wr = true → ∀ l, getM (setMs m wr) l = match getM wr l with | some o => some o | none => getM m l
 | [], m, _, l => rfl
 | (l0, o) :: r, m, h, l => by
  simp only [nodupM, Bool.and_eq_true] at h
  rw [setMs, setMs_get r _ h.2 l, getM_cons, getM_cons]
  by_cases e : l0 = l
  ·subst e
   have : getM r l0 = none := by
    have := h.1
    split at this <;> first | assumption | cases this
   simp [this]
  ·simp [e]
theorem mem_get {m : Mem} (h : nodupM m = true) {l : Loc} {o : Obj} (hm : (l, o) ∈ m) : getM m l = some o := by
 induction m with
 | nil => cases hm
 | cons x r ih =>
  obtain ⟨l0, o0⟩ := x
  simp only [nodupM, Bool.and_eq_true] at h
  rw [getM_cons]
  rcases List.mem_cons.1 hm with e | hm
  ·cases e; simp
  ·have := ih h.2 hm
   by_cases e : l0 = l
   ·subst e; rw [this] at h; exact absurd h.1 (by simp)
   ·rw [if_neg e]; exact this
theorem get_mem {m : Mem} {l : Loc} {o : Obj} (h : getM m l = some o) : (l, o) ∈ m := by
 induction m with
 | nil => cases h
 | cons x r ih =>
  obtain ⟨l0, o0⟩ := x
  rw [getM_cons] at h
  by_cases e : l0 = l
  ·subst e; rw [if_pos rfl] at h; cases h; exact List.mem_cons_self
  ·rw [if_neg e] at h; exact List.mem_cons_of_mem _ (ih h)
theorem memOk_spec {bs : List A1} : ∀ {m : Mem}, memOk bs m = true → ∀ l o, (l, o) ∈ m → (∃ j v b, l = .outer j ∧ o = .bx v ∧ bs[j]? = some b ∧ nA v = nA b ∧ (cellsL [v]).all resOk = true) ∨ (∃ i τ xs, l = .own i ∧ o = .sl τ xs false) ∨
  (∃ b v, l = .box b ∧ o = .bx v ∧ (cellsL [v]).all resOk = true)
 | [], _, l, o, hm => by cases hm
 | (.outer j, .bx v) :: r, h, l, o, hm => by
  simp only [memOk, Bool.and_eq_true] at h
  rcases List.mem_cons.1 hm with e | hm
  ·cases e
   left
   have h1 := h.1.1
   split at h1
   ·rename_i b hb
    exact ⟨j, v, b, rfl, rfl, hb, Nat.eq_of_beq_eq_true h1, h.1.2⟩
   ·cases h1
  ·exact memOk_spec h.2 l o hm
 | (.own i, .sl τ xs false) :: r, h, l, o, hm => by
  simp only [memOk] at h
  rcases List.mem_cons.1 hm with e | hm
  ·cases e; exact .inr (.inl ⟨i, τ, xs, rfl, rfl⟩)
  ·exact memOk_spec h l o hm
 | (.box b, .bx v) :: r, h, l, o, hm => by
  simp only [memOk, Bool.and_eq_true] at h
  rcases List.mem_cons.1 hm with e | hm
  ·cases e; exact .inr (.inr ⟨b, v, rfl, rfl, h.1⟩)
  ·exact memOk_spec h.2 l o hm
 | (.outer _, .sl ..) :: _, h, _, _, _ => by simp [memOk] at h
 | (.outer _, .dead) :: _, h, _, _, _ => by simp [memOk] at h
 | (.own _, .bx _) :: _, h, _, _, _ => by simp [memOk] at h
 | (.own _, .dead) :: _, h, _, _, _ => by simp [memOk] at h
 | (.own _, .sl _ _ true) :: _, h, _, _, _ => by simp [memOk] at h
 | (.box _, .sl ..) :: _, h, _, _, _ => by simp [memOk] at h
 | (.box _, .dead) :: _, h, _, _, _ => by simp [memOk] at h
theorem backM_spec {t : Nat} {ls : List Loc} : ∀ {m : Mem} {l : Loc} {o : Obj}, (l, o) ∈ backM t ls m → (∃ j v, (Loc.outer j, Obj.bx v) ∈ m ∧ l = nthL ls j ∧ o = .bx (mapC (renOwn t ls) v)) ∨ (∃ i, (Loc.own i, o) ∈ m ∧ l = .own (t * 64 + i)) ∨
  (∃ b v, (Loc.box b, Obj.bx v) ∈ m ∧ l = .box (bxN t b) ∧ o = .bx (mapC (renOwn t ls) v))
 | [], l, o, h => by cases h
 | (l0, o0) :: r, l, o, h => by
  have tail : (l, o) ∈ backM t ls r → (∃ j v, (Loc.outer j, Obj.bx v) ∈ (l0, o0) :: r ∧ l = nthL ls j ∧ o = .bx (mapC (renOwn t ls) v)) ∨ (∃ i, (Loc.own i, o) ∈ (l0, o0) :: r ∧ l = .own (t * 64 + i)) ∨
    (∃ b v, (Loc.box b, Obj.bx v) ∈ (l0, o0) :: r ∧ l = .box (bxN t b) ∧ o = .bx (mapC (renOwn t ls) v)) := fun h => by
   rcases backM_spec h with ⟨j', v', h1, h2⟩ | ⟨i, h1, h2⟩ | ⟨b, v, h1, h2⟩
   ·exact .inl ⟨j', v', List.mem_cons_of_mem _ h1, h2⟩
   ·exact .inr (.inl ⟨i, List.mem_cons_of_mem _ h1, h2⟩)
   ·exact .inr (.inr ⟨b, v, List.mem_cons_of_mem _ h1, h2⟩)
  cases l0 with
  | own i =>
   rcases List.mem_cons.1 h with e | h
   ·cases e; exact .inr (.inl ⟨i, List.mem_cons_self, rfl⟩)
   ·exact tail h
  | outer j =>
   cases o0 with
   | bx v =>
    rcases List.mem_cons.1 h with e | h
    ·cases e; exact .inl ⟨j, v, List.mem_cons_self, rfl, rfl⟩
    ·exact tail h
   | sl _ _ _ => exact tail h
   | dead => exact tail h
  | box b =>
   cases o0 with
   | bx v =>
    rcases List.mem_cons.1 h with e | h
    ·cases e; exact .inr (.inr ⟨b, v, List.mem_cons_self, rfl, rfl⟩)
    ·exact tail h
   | sl _ _ _ => exact tail h
   | dead => exact tail h
theorem backM_sub {t : Nat} {ls : List Loc} {l0 : Loc} {o0 : Obj} {r : Mem} {x : Loc × Obj} (h : x ∈ backM t ls r) : x ∈ backM t ls ((l0, o0) :: r) := by
 cases l0 with
 | own j => exact List.mem_cons_of_mem _ h
 | box j => cases o0 <;> first | exact List.mem_cons_of_mem _ h | exact h
 | outer j => cases o0 <;> first | exact List.mem_cons_of_mem _ h | exact h
theorem backM_own {t : Nat} {ls : List Loc} : ∀ {m : Mem} {i : Nat} {o : Obj}, (Loc.own i, o) ∈ m → (Loc.own (t * 64 + i), o) ∈ backM t ls m
 | (l0, o0) :: r, i, o, h => by
  rcases List.mem_cons.1 h with e | h
  ·cases e; exact List.mem_cons_self
  ·exact backM_sub (backM_own h)
theorem backM_outer {t : Nat} {ls : List Loc} : ∀ {m : Mem} {j : Nat} {v : A1}, (Loc.outer j, Obj.bx v) ∈ m → (nthL ls j, Obj.bx (mapC (renOwn t ls) v)) ∈ backM t ls m
 | (l0, o0) :: r, j, v, h => by
  rcases List.mem_cons.1 h with e | h
  ·cases e; exact List.mem_cons_self
  ·exact backM_sub (backM_outer h)
theorem backM_box {t : Nat} {ls : List Loc} : ∀ {m : Mem} {b : Nat} {v : A1}, (Loc.box b, Obj.bx v) ∈ m → (Loc.box (bxN t b), Obj.bx (mapC (renOwn t ls) v)) ∈ backM t ls m
 | (l0, o0) :: r, b, v, h => by
  rcases List.mem_cons.1 h with e | h
  ·cases e; exact List.mem_cons_self
  ·exact backM_sub (backM_box h)
theorem freshB_spec {μ : Loc → Option Obj} {t : Nat} : ∀ {m : Mem}, freshB μ t m = true → ∀ b o, (Loc.box b, o) ∈ m → μ (.box (bxN t b)) = none
 | (.box j, o0) :: r, h, i, o, hm => by
  simp only [freshB, Bool.and_eq_true] at h
  rcases List.mem_cons.1 hm with e | hm
  ·cases e
   have := h.1
   split at this
   ·assumption
   ·cases this
  ·exact freshB_spec h.2 i o hm
 | (.own j, o0) :: r, h, i, o, hm => by
  rcases List.mem_cons.1 hm with e | hm
  ·cases e
  ·exact freshB_spec (m := r) h i o hm
 | (.outer j, o0) :: r, h, i, o, hm => by
  rcases List.mem_cons.1 hm with e | hm
  ·cases e
  ·exact freshB_spec (m := r) h i o hm
theorem restM_spec {μ : Loc → Option Obj} {m : Mem} : ∀ {ls : List Loc} {bs : List A1} {k : Nat} {l : Loc} {o : Obj}, (l, o) ∈ restM μ m k ls bs → ∃ j b, ls[j]? = some l ∧ bs[j]? = some b ∧ getM m (.outer (k + j)) = none ∧ o = .bx (mapC (resolve μ) b)
 | [], bs, k, l, o, h => by cases bs <;> cases h
 | l0 :: ls, [], k, l, o, h => by cases h
 | l0 :: ls, b :: bs, k, l, o, h => by
  have skip : (l, o) ∈ restM μ m (k + 1) ls bs → ∃ j b', (l0 :: ls)[j]? = some l ∧ (b :: bs)[j]? = some b' ∧ getM m (.outer (k + j)) = none ∧ o = .bx (mapC (resolve μ) b') := fun h => by
   obtain ⟨j, b', h1, h2, h3, h4⟩ := restM_spec h
   exact ⟨j + 1, b', by simpa using h1, by simpa using h2, by rw [show k + (j + 1) = k + 1 + j by omega]; exact h3, h4⟩
  simp only [restM] at h
  split at h
  ·rename_i hg _
   rcases List.mem_cons.1 h with e | h
   ·cases e; exact ⟨0, b, rfl, rfl, hg, rfl⟩
   ·exact skip h
  ·exact skip h
theorem restM_of {μ : Loc → Option Obj} {m : Mem} : ∀ {ls : List Loc} {bs : List A1} {k j : Nat} {l : Loc} {b : A1}, ls[j]? = some l → bs[j]? = some b → getM m (.outer (k + j)) = none → ownsOf (cellsL [b]) ≠ [] → (l, Obj.bx (mapC (resolve μ) b)) ∈ restM μ m k ls bs
 | [], bs, k, j, l, b, h, _, _, _ => by simp at h
 | l0 :: ls, [], k, j, l, b, _, h, _, _ => by simp at h
 | l0 :: ls, b0 :: bs, k, j, l, b, h1, h2, h3, h4 => by
  simp only [restM]
  cases j with
  | zero =>
   simp at h1 h2; subst h1; subst h2
   rw [show k + 0 = k from rfl] at h3
   split
   ·exact List.mem_cons_self
   ·rename_i hn
    exfalso
    cases ho : ownsOf (cellsL [b0]) with
    | nil => exact h4 ho
    | cons a r => exact hn a r h3 ho
  | succ j =>
   have := restM_of (μ := μ) (m := m) (k := k + 1) (j := j) (by simpa using h1) (by simpa using h2) (by rw [show k + 1 + j = k + (j + 1) by omega]; exact h3) h4
   split
   ·exact List.mem_cons_of_mem _ this
   ·exact this
theorem restO_of {m : Mem} : ∀ {bs : List A1} {k j : Nat} {b : A1}, bs[j]? = some b → getM m (.outer (k + j)) = none → ∀ i ∈ ownsOf (cellsL [b]), i ∈ restO m k bs
 | [], k, j, b, h, _, i, _ => by simp at h
 | b0 :: bs, k, j, b, h, h3, i, hi => by
  simp only [restO]
  cases j with
  | zero =>
   simp at h; subst h
   rw [show k + 0 = k from rfl] at h3
   rw [h3]; exact List.mem_append_left _ hi
  | succ j =>
   have := restO_of (m := m) (k := k + 1) (j := j) (by simpa using h) (by rw [show k + 1 + j = k + (j + 1) by omega]; exact h3) i hi
   split
   ·exact List.mem_append_right _ this
   ·exact this
theorem restO_sub {m : Mem} : ∀ {bs : List A1} {k : Nat}, ∀ i ∈ restO m k bs, i ∈ ownsOf (cellsL bs)
 | [], k, i, h => by cases h
 | b :: bs, k, i, h => by
  have e : cellsL (b :: bs) = cellsL [b] ++ cellsL bs := by cases b <;> simp [cellsL]
  rw [e, ownsOf_append]
  simp only [restO] at h
  split at h
  ·rcases List.mem_append.1 h with h | h
   ·exact List.mem_append_left _ h
   ·exact List.mem_append_right _ (restO_sub i h)
  ·exact List.mem_append_right _ (restO_sub i h)
theorem Rep.flat {S S' : Nat → Prop} {w w' : World} : ∀ {τ : Ty} {x : den τ} {vs : List Value}, flatT τ = true → Rep S w τ x vs → Rep S' w' τ x vs
 | .int _, _, _, _, h => h
 | .bool, _, _, _, h => h
 | .str, _, _, _, h => h
 | .pair a b, x, vs, hf, h => by
  simp only [flatT, Bool.and_eq_true] at hf
  obtain ⟨v1, v2, rfl, h1, h2⟩ := h
  exact ⟨v1, v2, rfl, h1.flat hf.1, h2.flat hf.2⟩
 | .list _, _, _, hf, _ => by simp [flatT] at hf
 | .alt .., _, _, hf, _ => by simp [flatT] at hf
def Gh.back (G1 G' : Gh) (S : Nat → Prop) (t : Nat) (mb m' : Mem) : Gh :=
 ⟨S, fun l => match l with | .own k => (match getM mb (.own k) with | some _ => G'.β (.own (k - t * 64)) | none => G1.β l) | .box k => (if bxN t 0 ≤ k ∧ (getM m' (.box (k - bxN t 0))).isSome = true then G'.β (.box (k - bxN t 0)) else G1.β l) | _ => G1.β l,
  fun k => match getM mb (.own k) with | some _ => G'.κ (k - t * 64) | none => G1.κ k⟩
theorem memLies_spec {m : Mem} (h : memLies m = false) : ∀ l o, (l, o) ∈ m → match o with | .bx v => (cellsL [v]).any mayLie = false ∧ mpLies v = false | .sl τ _ _ => flatT τ = true | .dead => True := by
 induction m with
 | nil => intro l o hm; cases hm
 | cons x r ih =>
  obtain ⟨l0, o0⟩ := x
  intro l o hm
  cases o0 with
  | bx v =>
   simp only [memLies, Bool.or_eq_false_iff] at h
   rcases List.mem_cons.1 hm with e | hm
   ·cases e; exact h.1
   ·exact ih h.2 l o hm
  | sl τ xs fr =>
   simp only [memLies, Bool.or_eq_false_iff, Bool.not_eq_false'] at h
   rcases List.mem_cons.1 hm with e | hm
   ·cases e; exact h.1
   ·exact ih h.2 l o hm
  | dead =>
   rcases List.mem_cons.1 hm with e | hm
   ·cases e; trivial
   ·exact ih h l o hm
theorem ren_rel {G' : Gh} {mm : Mem} {w' : World} {Gn : Gh} {mn : Mem} {t : Nat} {ls : List Loc} (lie : Bool) (hnd : ∀ l, getM mm l ≠ some .dead ∨ ∃ i, l = .own i) (hSl : lie = true → ∀ b, G'.S b → Gn.S b)
  (hloc : ∀ l x, getM mm l = some (.bx x) → ∃ y, getM mn (backL t ls l) = some (.bx y) ∧ nA y = nA x ∧ Gn.β (backL t ls l) = G'.β l)
  (hown : ∀ i o, getM mm (.own i) = some o → getM mn (.own (t * 64 + i)) = some o ∧ Gn.β (.own (t * 64 + i)) = G'.β (.own i) ∧ Gn.κ (t * 64 + i) = G'.κ i) {c : C} {v : Value} (hok : resOk c = true) (hl : lie = false → mayLie c = false)
  (hr : CRel G' mm w' c v) : CRel Gn mn w' (renOwn t ls c) v := by
 cases c <;> simp only [resOk] at hok <;> try (cases hok; done)
 case int => exact hr
 case bool => exact hr
 case str => exact hr
 case nils => exact hr
 case nili => exact hr
 case nilf => exact hr
 case slo i =>
  simp only [renOwn, CRel] at hr ⊢
  cases hg : getM mm (.own i) with
  | none => rw [hg] at hr; exact hr.elim
  | some o =>
   obtain ⟨h1, h2, h3⟩ := hown i o hg
   rw [hg] at hr; rw [h1, h2, h3]
   cases o with
   | sl τ xs fr =>
    obtain ⟨ad, e1, e2, e3⟩ := hr
    exact ⟨ad, e1, e2, fun hlt => e3 (by omega)⟩
   | bx _ => exact hr
   | dead => exact hr
 case ptr l off room =>
  have hno : ∀ i, l ≠ .own i := fun i e => by subst e; cases hok
  obtain ⟨h1, rfl⟩ := hr
  split at h1
  ·rename_i x hx
   obtain ⟨y, y1, y2, y3⟩ := hloc l x hx
   refine ⟨?_, by show Value.pointer (some ⟨G'.β l, off, none⟩) = .pointer (some ⟨Gn.β (backL t ls l), off, none⟩); rw [y3]⟩
   show match getM mn (backL t ls l) with | some (.bx x) => off + room ≤ nA x | some .dead => True | _ => False
   rw [y1]
   show off + room ≤ nA y
   rw [y2]; exact h1
  ·rename_i hx
   rcases hnd l with h | ⟨i, e⟩
   ·exact absurd hx h
   ·exact absurd e (hno i)
  ·exact h1.elim
 case nilm => exact hr
 case mpp l =>
  have hno : ∀ i, l ≠ .own i := fun i e => by subst e; cases hok
  obtain ⟨h1, rfl⟩ := hr
  rcases h1 with ⟨x, hx⟩ | hx
  ·obtain ⟨y, y1, _, y3⟩ := hloc l x hx
   exact ⟨.inl ⟨y, y1⟩, by show Value.map (some (G'.β l)) = .map (some (Gn.β (backL t ls l))); rw [y3]⟩
  ·rcases hnd l with h | ⟨i, e⟩
   ·exact absurd hx h
   ·exact absurd e (hno i)
 case fn g caps =>
  obtain ⟨h1, rfl⟩ := hr
  have key : ∀ l ∈ caps, ∃ y, getM mn (backL t ls l) = some (.bx y) ∧ Gn.β (backL t ls l) = G'.β l := fun l hlc => by
   have ho := List.all_eq_true.1 hok l hlc
   have hno : ∀ i, l ≠ .own i := fun i e => by subst e; cases ho
   rcases h1 _ hlc with ⟨x, hx⟩ | hx
   ·obtain ⟨y, y1, _, y3⟩ := hloc l x hx
    exact ⟨y, y1, y3⟩
   ·rcases hnd l with h | ⟨i, e⟩
    ·exact absurd hx h
    ·exact absurd e (hno i)
  refine ⟨fun l hlc => ?_, ?_⟩
  ·obtain ⟨l0, hl0, rfl⟩ := List.mem_map.1 hlc
   obtain ⟨y, y1, _⟩ := key l0 hl0
   exact .inl ⟨y, y1⟩
  ·refine congrArg (fnV _) ?_
   unfold ptrs
   rw [List.map_map]
   exact List.map_congr_left fun l hlc => by
    obtain ⟨y, _, y3⟩ := key l hlc
    show Value.pointer (some ⟨G'.β l, 0, none⟩) = .pointer (some ⟨Gn.β (backL t ls l), 0, none⟩)
    rw [y3]
 all_goals
  cases lie with
  | false => exact absurd (hl rfl) (by simp [mayLie])
  | true =>
   have hS := hSl rfl
   first
    | (obtain ⟨ad, c, e, h1, h2, h3⟩ := hr; exact ⟨ad, c, e, h1, fun i hi => by obtain ⟨b, o, us, g1, g2, g3, g4⟩ := h2 i hi; exact ⟨b, o, us, g1, hS b g2, g3.mono hS (fun _ _ => rfl), g4⟩, h3⟩)
    | (obtain ⟨us, g1, g2⟩ := hr; exact ⟨us, g1.mono hS (fun _ _ => rfl), g2⟩)
    | (obtain ⟨hf, us, g1, g2⟩ := hr; exact ⟨hf, us, g1.mono hS (fun _ _ => rfl), g2⟩)
    | (rename_i x; cases x <;> (obtain ⟨us, g1, g2⟩ := hr; exact ⟨us, g1.mono hS (fun _ _ => rfl), g2⟩))
end Go.Al
