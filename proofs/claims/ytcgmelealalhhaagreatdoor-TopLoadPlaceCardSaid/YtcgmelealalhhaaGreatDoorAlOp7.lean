/- Operations that lay new objects. -/
import Derived.Test.YtcgmelealalhhaaGreatDoorAlMem
namespace Go.Al
variable {P : Program} {H : Hint}
theorem setMs_append (m : Mem) (a b : List (Loc × Obj)) : setMs m (a ++ b) = setMs (setMs m a) b := by
 induction a generalizing m with
 | nil => rfl
 | cons x r ih => obtain ⟨l, o⟩ := x; exact ih _
theorem freeze_congr {μ μ' : Loc → Option Obj} : ∀ {is : List Nat}, (∀ i ∈ is, μ (.own i) = μ' (.own i)) → freeze μ is = freeze μ' is
 | [], _ => rfl
 | i :: r, h => by
  have h1 := h i (by simp)
  have h2 := freeze_congr (is := r) fun j hj => h j (by simp [hj])
  simp only [freeze, h1, h2]
theorem freeze_step {m : Mem} {i : Nat} {τ : Ty} {xs : List (den τ)} {fr : Bool} (hg : getM m (.own i) = some (.sl τ xs fr)) : ∀ (r : List Nat), freeze (getM ((.own i, .sl τ xs true) :: m)) r = freeze (getM m) r
 | [] => rfl
 | j :: r => by
  have ih := freeze_step hg r
  simp only [freeze, ih, getM_cons]
  by_cases e : i = j
  ·subst e; simp [hg]
  ·rw [if_neg (by simpa using e)]
theorem MRel.frz {B : Beg} {w : World} : ∀ (is : List Nat) {G : Gh} {m : Mem}, MRel P B G m w → ∃ G', MRel P B G' (setMs m (freeze (getM m) is)) w ∧ Ext G m w G' (setMs m (freeze (getM m) is)) w ∧
  (∀ i ∈ is, ∀ τ xs fr, getM m (.own i) = some (.sl τ xs fr) → xs ≠ [] → G'.S (G.β (.own i)))
 | [], G, m, h => ⟨G, h, Ext.refl _ _ _, fun i hi => by cases hi⟩
 | i :: r, G, m, h => by
  have skip : (∀ τ xs fr, getM m (.own i) ≠ some (.sl τ xs fr)) → freeze (getM m) (i :: r) = freeze (getM m) r := fun hn => by
   simp only [freeze]
   try (split <;> first | rfl | exact (hn _ _ _ ‹_›).elim)
  by_cases hex : ∃ τ xs fr, getM m (.own i) = some (.sl τ xs fr)
  ·obtain ⟨τ, xs, fr, hg⟩ := hex
   obtain ⟨h1, hE1⟩ := h.frz1 hg
   obtain ⟨G', h2, hE2, h3⟩ := MRel.frz r h1
   have e : setMs m (freeze (getM m) (i :: r)) = setMs ((.own i, .sl τ xs true) :: m) (freeze (getM ((.own i, .sl τ xs true) :: m)) r) := by
    rw [freeze_step hg]
    simp only [freeze, hg]; rfl
   rw [e]
   refine ⟨G', h2, hE1.trans hE2, fun j hj τ' xs' fr' hg' hne => ?_⟩
   rcases List.mem_cons.1 hj with rfl | hj
   ·rw [hg] at hg'; cases hg'
    refine hE2.S _ (.inr ⟨?_, rfl⟩)
    obtain ⟨i', e', hl, _⟩ := h.objs _ _ hg
    cases e'
    unfold Real; rw [hg]
    exact ⟨_, rfl, by have := List.length_pos_iff.2 hne; omega⟩
   ·by_cases e2 : i = j
    ·subst e2
     rw [hg] at hg'; cases hg'
     exact h3 i hj τ xs true (by rw [getM_cons, if_pos rfl]) hne
    ·exact h3 j hj τ' xs' fr' (by rw [getM_cons, if_neg (by simpa using e2)]; exact hg') hne
  ·have hn : ∀ τ xs fr, getM m (.own i) ≠ some (.sl τ xs fr) := fun τ xs fr hg => hex ⟨τ, xs, fr, hg⟩
   rw [skip hn]
   obtain ⟨G', h2, hE2, h3⟩ := MRel.frz r h
   refine ⟨G', h2, hE2, fun j hj τ' xs' fr' hg' hne => ?_⟩
   rcases List.mem_cons.1 hj with rfl | hj
   ·exact (hn _ _ _ hg').elim
   ·exact h3 j hj τ' xs' fr' hg' hne
theorem MRel.row {B : Beg} {G : Gh} {m : Mem} {w : World} (h : MRel P B G m w) {i : Nat} {τ : Ty} {xs : List (den τ)} {fr : Bool} (hg : getM m (.own i) = some (.sl τ xs fr)) :
  xs.length ≤ G.κ i ∧ ∀ j (hj : j < xs.length), ∃ us, Rep G.S w τ xs[j] us ∧ w.rangeAt (G.β (.own i)) (j * ncell τ) us := by
 obtain ⟨i', e, h1, _, h3, _⟩ := h.objs _ _ hg
 cases e; exact ⟨h1, h3⟩
theorem resolve_rel {B : Beg} {G : Gh} {m : Mem} {w : World} (h : MRel P B G m w) {G' : Gh} {m' : Mem} (hE : Ext G m w G' m' w) {c : C} {v : Value}
  (hS : ∀ i ∈ ownsOf [c], ∀ τ xs fr, getM m (.own i) = some (.sl τ xs fr) → xs ≠ [] → G'.S (G.β (.own i))) (hr : CRel G m w c v) : CRel G' m' w (resolve (getM m) c) v := by
 cases c <;> try exact hE.C hr
 case slo i =>
  simp only [resolve]
  cases hg : getM m (.own i) with
  | none => trivial
  | some o =>
   cases o with
   | bx _ => trivial
   | dead => trivial
   | sl τ xs fr =>
    simp only [CRel, hg] at hr
    obtain ⟨ad, rfl, had, hnn⟩ := hr
    obtain ⟨h1, h3⟩ := h.row hg
    refine ⟨ad, G.κ i, rfl, h1, fun j hj => ?_, (fun b e => ?_), (fun e => nomatch e)⟩
    case refine_2 =>
     cases hlt : Nat.blt i 4096 with
     | false => rw [hlt] at e; cases e
     | true =>
      rw [hlt] at e
      cases e
      have := hnn (by simpa [Nat.blt_eq] using hlt)
      cases ad with
      | none => exact absurd rfl this
      | some _ => rfl
    have hne : xs ≠ [] := fun e => by subst e; exact absurd hj (Nat.not_lt_zero _)
    obtain ⟨us, hrep, hc⟩ := h3 j hj
    rcases had with had | h0
    ·exact ⟨_, 0, us, had, hS i (by simp [ownsOf]) τ xs fr hg hne, hrep.mono hE.S hE.heap, by rw [Nat.zero_add]; exact hc⟩
    ·omega
 case slv i lo hi =>
  simp only [resolve]
  cases hg : getM m (.own i) with
  | none => trivial
  | some o =>
   cases o with
   | bx _ => trivial
   | dead => trivial
   | sl τ xs fr =>
    simp only [CRel, hg] at hr
    obtain ⟨g1, g2, ad, rfl, had⟩ := hr
    obtain ⟨h1, h3⟩ := h.row hg
    have hlen := cut_len xs lo hi g2
    refine ⟨ad, G.κ i - lo, by rw [hlen], by rw [hlen]; omega, fun j hj => ?_, (fun _ e => nomatch e), (fun e => nomatch e)⟩
    obtain ⟨hj2, e⟩ := cut_get xs lo hi j hj
    rw [hlen] at hj
    have hne : xs ≠ [] := fun e => by subst e; exact absurd hj2 (Nat.not_lt_zero _)
    obtain ⟨us, hrep, hc⟩ := h3 (lo + j) hj2
    rcases had with had | h0
    ·refine ⟨_, lo * ncell τ, us, had, hS i (by simp [ownsOf]) τ xs fr hg hne, ?_, by rw [← Nat.add_mul]; exact hc⟩
     rw [e]; exact hrep.mono hE.S hE.heap
    ·omega
theorem ownsOf_mem {l : List C} {c : C} (hc : c ∈ l) : ∀ i ∈ ownsOf [c], i ∈ ownsOf l := by
 induction l with
 | nil => cases hc
 | cons d r ih =>
  intro i hi
  rcases List.mem_cons.1 hc with rfl | hc
  ·cases c <;> simp [ownsOf] at hi ⊢ <;> simp [hi]
  ·have := ih hc i hi
   cases d <;> simp [ownsOf, this]
theorem resolve_all {B : Beg} {G : Gh} {m : Mem} {w : World} (h : MRel P B G m w) {G' : Gh} {m' : Mem} (hE : Ext G m w G' m' w) {l : List C} {vs : List Value}
  (hS : ∀ i ∈ ownsOf l, ∀ τ xs fr, getM m (.own i) = some (.sl τ xs fr) → xs ≠ [] → G'.S (G.β (.own i))) (hr : All2 (CRel G m w) l vs) : All2 (CRel G' m' w) (l.map (resolve (getM m))) vs := by
 have : ∀ (l' : List C) (vs : List Value), (∀ c ∈ l', c ∈ l) → All2 (CRel G m w) l' vs → All2 (CRel G' m' w) (l'.map (resolve (getM m))) vs := fun l' vs hs hr => by
  induction hr with
  | nil => exact .nil
  | cons h1 _ ih =>
   exact .cons (resolve_rel h hE (fun i hi => hS i (ownsOf_mem (hs _ (by simp)) i hi)) h1) (ih fun c hc => hs c (by simp [hc]))
 exact this l vs (fun _ h => h) hr
theorem resolve_congr' {μ μ' : Loc → Option Obj} {c : C} (h : ∀ i ∈ ownsOf [c], μ (.own i) = μ' (.own i)) : resolve μ c = resolve μ' c := by
 cases c <;> simp [resolve, ownsOf] at h ⊢ <;> rw [h]
theorem resolves_congr {μ μ' : Loc → Option Obj} {l : List C} (h : ∀ i ∈ ownsOf l, μ (.own i) = μ' (.own i)) : l.map (resolve μ) = l.map (resolve μ') :=
 List.map_congr_left fun _ hc => resolve_congr' fun i hi => h i (ownsOf_mem hc i hi)
theorem heap_alloc_old {w : World} {o : Go.Obj} {b : Nat} (h : b < w.heap.size) : (w.alloc o).heap[b]? = w.heap[b]? := by
 show (w.heap.push o)[b]? = _
 rw [Array.getElem?_push, if_neg (Nat.ne_of_lt h)]
theorem MRel.newBox {B : Beg} {G : Gh} {m : Mem} {w : World} (h : MRel P B G m w) {t : Nat} (hm : getM m (.box t) = none) {z : A1} {vs : List Value} (hz : CsRel G m w z vs) (ty : Nat) :
  MRel P B (G.add (.box t) w.heap.size 0) ((.box t, .bx z) :: m) (w.alloc (.cells vs.toArray ty)) ∧ Ext G m w (G.add (.box t) w.heap.size 0) ((.box t, .bx z) :: m) (w.alloc (.cells vs.toArray ty)) := by
 have hE : Ext G m w (G.add (.box t) w.heap.size 0) ((.box t, .bx z) :: m) (w.alloc (.cells vs.toArray ty)) := Ext.fresh _ _ _ hm fun b hb => heap_alloc_old (h.ltS b hb)
 refine ⟨h.fresh hm (fun _ e => nomatch e) (by simp) (fun b hb _ => heap_alloc_old hb) (.inl h.grow) (by simp) (fun hs => Nat.lt_irrefl _ (h.ltS _ hs)) (fun l hl e => by have := h.lt l hl; omega) ?_ ?_, hE⟩
 ·refine .inl ⟨vs, hE.Cs hz, fun j v hv => ?_, fun j hj => ?_⟩
  ·simp only [Gh.add, if_true, Nat.zero_add]
   rw [World.cell?_alloc_new]; simpa using hv
  ·simp only [Gh.add, if_true]
   exact World.frozen?_alloc_new w _ ty j
 ·unfold Real; rw [getM_cons, if_pos rfl]; trivial
theorem CsRel.len {G : Gh} {m : Mem} {w : World} {z : A1} {vs : List Value} (h : CsRel G m w z vs) : vs.length = nA z := by
 cases z with
 | one c => obtain ⟨v, rfl, _⟩ := h; rfl
 | agg l => exact (All2.length h).symm
 | arr τ n xs => obtain ⟨h1, h2, h3⟩ := h; rw [← h3.length, arrC_len h1]; exact h2
 | lp => exact h.elim
 | mp => exact h.elim
theorem zeroA_rel {t : Nat} {z : A1} (h : zeroA P t = some z) : ∃ i v, P.info? t = some i ∧ i.zero = some v ∧ ∀ G m w, CsRel G m w z v.cells.toList := by
 unfold zeroA at h
 split at h
 case h_2 => cases h
 rename_i i hi
 split at h
 ·rename_i cs hz
  have hall : ∀ (G : Gh) (m : Mem) (w : World), All2 (CRel G m w) (cs.toList.map constC) cs.toList := fun G m w => by
   have : ∀ l : List Value, All2 (CRel G m w) (l.map constC) l := fun l => by
    induction l with
    | nil => exact .nil
    | cons v r ih => exact .cons (constC_rel G m w v) ih
   exact this _
  split at h
  ·exact ⟨i, _, hi, hz, fun G m w => (atomsC_rel (hall G m w) h).1⟩
  ·cases h; exact ⟨i, _, hi, hz, fun G m w => hall G m w⟩
 ·rename_i v hnot hz
  cases h
  refine ⟨i, v, hi, hz, fun G m w => ?_⟩
  have : v.cells = #[v] := by cases v <;> first | rfl | exact (hnot _ rfl).elim
  rw [this]
  exact ⟨v, rfl, constC_rel G m w v⟩
 ·cases h
section
variable {R : Type} {calls : Nat → Option CallS} {ρ : Operand → AV} {μ : Loc → Option Obj} {o : Oper} {k : Eff → Option R} {r : R}
theorem noneM_iff {μ : Loc → Option Obj} {l : Loc} (h : noneM μ l = true) : μ l = none := by
 unfold noneM at h; split at h <;> first | assumption | cases h
theorem op_alloc {e : Nat} (ho : o.op = .alloc e) (h : opK P H calls ρ μ o k = some r) : ∃ e, k e = some r ∧ Sound P o ρ μ e := by
 simp only [opK, ho] at h
 split at h
 case h_2 => cases h
 rename_i z hz
 obtain ⟨hn, h⟩ := cond_some h
 have hn := noneM_iff hn
 obtain ⟨i, v, hi, hv, hrel⟩ := zeroA_rel hz
 refine ⟨_, h, fun s hρ hμ => SemO.of fun B G a w hw => ?_⟩
 have hm : getM s.mem (.box (o.dst.getD 0)) = none := by rw [hμ _ (by simp [keys])]; exact hn
 obtain ⟨h1, hE⟩ := hw.mem.newBox hm (hrel G s.mem w) e
 refine ⟨.pointer (some ⟨w.heap.size, 0, none⟩), _, _, .inl ?_, h1, hE, ?_, by simp [Gh.add]⟩
 ·simp [execOp, ho, Instr.alloc, zeroValue, typeInfo, hi, hv, newVar, newRow]
 ·simp only [setMs, getM_cons, if_pos]
  show 0 + nA z ≤ nA z
  omega
theorem alive_congr {μ μ' : Loc → Option Obj} {c : C} (h : ∀ i ∈ ownsOf [c], μ (.own i) = μ' (.own i)) : alive μ c = alive μ' c := by
 cases c <;> simp [alive, ownsOf] at h ⊢ <;> rw [h]
theorem alives_congr {μ μ' : Loc → Option Obj} {l : List C} (h : ∀ i ∈ ownsOf l, μ (.own i) = μ' (.own i)) : l.all (alive μ) = l.all (alive μ') := by
 have : ∀ l' : List C, (∀ c ∈ l', c ∈ l) → l'.all (alive μ) = l'.all (alive μ') := fun l' hs => by
  induction l' with
  | nil => rfl
  | cons c r ih =>
   simp only [List.all_cons]
   rw [alive_congr fun i hi => h i (ownsOf_mem (hs c (by simp)) i hi), ih fun d hd => hs d (by simp [hd])]
 exact this l fun _ h => h
theorem cells_congr {μ μ' : Loc → Option Obj} {z : A1} {l : List C} (hc : cells μ z = some l) (h : ∀ i ∈ ownsOf l, μ (.own i) = μ' (.own i)) : cells μ' z = some l := by
 cases z with
 | one c =>
  simp only [cells] at hc ⊢
  obtain ⟨ha, hc⟩ := cond_some hc
  cases hc
  rw [← alive_congr h, ha]; rfl
 | agg l' =>
  simp only [cells] at hc ⊢
  obtain ⟨ha, hc⟩ := cond_some hc
  cases hc
  rw [← alives_congr h, ha]; rfl
 | arr τ n xs => exact hc
 | lp => cases hc
 | mp => cases hc
theorem ownLs_mem {l : List Nat} {i : Nat} (h : i ∈ l) : Loc.own i ∈ ownLs l := by
 induction l with
 | nil => cases h
 | cons j r ih =>
  rcases List.mem_cons.1 h with rfl | h
  ·exact List.mem_cons_self
  ·exact List.mem_cons_of_mem _ (ih h)
theorem asA1_some {x : AV} {z : A1} (h : asA1 x = some z) : x = .a z := by
 unfold asA1 at h
 split at h <;> first | (cases h; rfl) | cases h
theorem arrB_rel {G : Gh} {m : Mem} {w : World} (e : Nat) {z : A1} {vs : List Value} (h : CsRel G m w z vs) : CsRel G m w (arrB P e z) vs := by
 unfold arrB
 split
 ·rename_i l hu
  cases ha : atomsC l with
  | some y => exact (atomsC_rel h ha).1
  | none => exact h
 ·exact h
theorem op_box {e : Nat} {x : Operand} (ho : o.op = .box e x) (h : opK P H calls ρ μ o k = some r) : ∃ e, k e = some r ∧ Sound P o ρ μ e := by
 simp only [opK, ho] at h
 have hops : o.op.operands = #[x] := by rw [ho]; rfl
 split at h
 case h_2 => cases h
 rename_i z hz
 split at h
 case h_2 => cases h
 rename_i l hl
 obtain ⟨hn, h⟩ := cond_some h
 have hn := noneM_iff hn
 refine ⟨_, h, fun s hρ hμ => SemO.of fun B G a w hw => ?_⟩
 have hm : getM s.mem (.box (o.dst.getD 0)) = none := by rw [hμ _ (by simp [keys])]; exact hn
 have ex := hw.ev x
 rw [hρ x (by rw [hops]; simp), asA1_some hz] at ex
 have hl' : cells (getM s.mem) z = some l := cells_congr hl fun i hi => (hμ _ (by simp [ownLs_mem hi])).symm
 obtain ⟨_, hcs, _⟩ := cells_rel hl' ex
 obtain ⟨h1, hE⟩ := hw.mem.newBox hm (arrB_rel e hcs) e
 refine ⟨.pointer (some ⟨w.heap.size, 0, none⟩), _, _, .inl ?_, h1, hE, ?_, by simp [Gh.add]⟩
 ·simp [execOp, ho, Instr.box, newVar, newRow]
 ·simp only [setMs, getM_cons, if_pos]
  show 0 + nA (arrB P e z) ≤ nA (arrB P e z)
  omega
theorem op_makeInterface {ty : Nat} {x : Operand} (ho : o.op = .makeInterface ty x) (h : opK P H calls ρ μ o k = some r) : ∃ e, k e = some r ∧ Sound P o ρ μ e := by
 simp only [opK, ho] at h
 have hops : o.op.operands = #[x] := by rw [ho]; rfl
 split at h
 case h_1 => cases h
 case h_3 => cases h
 rename_i τ v d hnot hty hx hu
 split at h
 case h_2 => cases h
 rename_i l fl hl hfl
 split at h
 case h_2 => cases h
 rename_i y hy
 refine ⟨_, h, fun s hρ hμ => SemO.of fun B G a w hw => ?_⟩
 have hown : ∀ i ∈ ownsOf l, getM s.mem (.own i) = μ (.own i) := fun i hi => hμ _ (by simp [ownLs_mem hi])
 have ex := hw.ev x
 rw [hρ x (by rw [hops]; simp), hx] at ex
 have hl' : cells (getM s.mem) v = some l := cells_congr hl fun i hi => (hown i hi).symm
 obtain ⟨hall, _, _⟩ := cells_rel hl' ex
 obtain ⟨G', hM, hE, hS⟩ := hw.mem.frz (ownsOf l)
 have hfz : freeze μ (ownsOf l) = freeze (getM s.mem) (ownsOf l) := freeze_congr fun i hi => (hown i hi).symm
 have hrs : l.map (resolve μ) = l.map (resolve (getM s.mem)) := resolves_congr fun i hi => (hown i hi).symm
 rw [hrs] at hy
 have hall' := resolve_all hw.mem hE hS hall
 have hrep := dcAll_rel hy hall'
 have hv : a.eval x = (if fl = true then Value.agg (a.eval x).cells.toList.toArray else (a.eval x).cells.toList.headD undef) := by
  cases v with
  | one c =>
   cases hfl
   have hc1 : alive (getM s.mem) c = true := by simp only [cells] at hl'; exact (cond_some hl').1
   simp [one_cells (alive_one hc1 ex)]
  | agg l2 => cases hfl; obtain ⟨vs, e, _⟩ := ex; simp [e, Value.cells]
  | arr τ2 n xs => cases hfl
  | lp => cases hfl
  | mp => cases hfl
 refine ⟨.iface ty (a.eval x), w, G', .inl ?_, by rw [hfz]; exact hM, by rw [hfz]; exact hE, ?_⟩
 ·simp only [execOp, ho, Sem.run_bind, Instr.makeInterface, run_underlying hu, Result.andThen_ok]
  cases d <;> first | rfl | (exact (hnot _ rfl).elim)
 ·rw [hfz]
  exact ⟨_, hrep, by unfold ifv; rw [← hv]⟩
end
end Go.Al
