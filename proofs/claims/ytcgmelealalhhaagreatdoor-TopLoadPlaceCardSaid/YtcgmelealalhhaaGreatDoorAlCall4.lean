/- Calls: the operation. -/
import Derived.Test.YtcgmelealalhhaaGreatDoorAlCall3
namespace Go.Al
variable {P : Program} {H : Hint}
def CallOk (P : Program) (g : FuncId) (c : CallS) : Prop :=
 ∀ (R : Type) (as bs : List A1) (gs : Mem) (k : AV → Mem → Option R) (r : R), c.run R as bs gs k = some r → ∃ res m', k res m' = some r ∧ ACalls P g as bs gs res m'
def Enters (P : Program) (g : FuncId) : Prop := ∀ args w, (callFunc g args).run P w = .ok (.enter g args) w
def CallsOk (P : Program) (calls : Nat → Option CallS) : Prop := ∀ g c, calls g = some c → (g < yB → Enters P g) ∧ CallOk P g c
theorem Enters.of {g : FuncId} {fn : Func} (hf : P.funcs[g]? = some fn) (hn : (fn.name == "runtime.NumGoroutine") = false) (hb : fn.body.isSome = true) : Enters P g := fun args w => by
 have h1 : fn.name ≠ "runtime.NumGoroutine" := by simpa using hn
 obtain ⟨c, hc⟩ := Option.isSome_iff_exists.1 hb
 simp [callFunc, hf, h1, hc]
theorem locsCs_mem {l : List C} {c : C} (hc : c ∈ l) : ∀ x ∈ locsC c, x ∈ locsCs l := by
 induction l with
 | nil => cases hc
 | cons d r ih =>
  intro x hx
  simp only [locsCs]
  rcases List.mem_cons.1 hc with rfl | hc
  ·exact List.mem_append_left _ hx
  ·exact List.mem_append_right _ (ih hc x hx)
theorem locsA_mem {a : A1} : ∀ {l : List A1}, a ∈ l → ∀ x ∈ locsA a, x ∈ locsCs (cellsL l)
 | y :: r, ha, x, hx => by
  have key : ∀ c ∈ cellsL [a], c ∈ cellsL (y :: r) := cellsL_in ha
  cases a with
  | one c => exact locsCs_mem (key c (by simp [cellsL])) x hx
  | agg l =>
   have : ∀ (l' : List C), (∀ c ∈ l', c ∈ l) → ∀ x ∈ locsCs l', x ∈ locsCs (cellsL (y :: r)) := fun l' => by
    induction l' with
    | nil => intro _ x hx; cases hx
    | cons c q ih =>
     intro hs x hx
     simp only [locsCs] at hx
     rcases List.mem_append.1 hx with hx | hx
     ·exact locsCs_mem (key c (by simp [cellsL, hs])) x hx
     ·exact ih (fun c hc => hs c (by simp [hc])) x hx
   exact this l (fun _ h => h) x hx
  | lp g p ts l =>
   have : ∀ (l' : List C), (∀ c ∈ l', c ∈ l) → ∀ x ∈ locsCs l', x ∈ locsCs (cellsL (y :: r)) := fun l' => by
    induction l' with
    | nil => intro _ x hx; cases hx
    | cons c q ih =>
     intro hs x hx
     simp only [locsCs] at hx
     rcases List.mem_append.1 hx with hx | hx
     ·exact locsCs_mem (key c (by simp [cellsL, hs])) x hx
     ·exact ih (fun c hc => hs c (by simp [hc])) x hx
   exact this l (fun _ h => h) x hx
  | arr τ n xs => cases hx
  | mp => cases hx
theorem closeL_spec {μ : Loc → Option Obj} : ∀ (n : Nat) (ls : List Loc), ls.Nodup → (closeL μ n ls).Nodup ∧ ∀ x ∈ ls, x ∈ closeL μ n ls
 | 0, ls, h => ⟨h, fun _ hx => hx⟩
 | n + 1, ls, h => by
  obtain ⟨h1, h2⟩ := addLs_spec (locsM μ ls) ls h
  obtain ⟨h3, h4⟩ := closeL_spec n _ h1
  exact ⟨h3, fun x hx => h4 x ((h2 x).2 (.inl hx))⟩
theorem mapC_congr {f g : C → C} {x : A1} (h : ∀ c ∈ cellsL [x], f c = g c) : mapC f x = mapC g x := by
 cases x with
 | one c => simp only [mapC]; rw [h c (by simp [cellsL])]
 | agg l => simp only [mapC]; rw [List.map_congr_left fun c hc => h c (by simpa [cellsL] using hc)]
 | arr τ n xs => rfl
 | lp g p ts l => simp only [mapC]; rw [List.map_congr_left fun c hc => h c (by simpa [cellsL] using hc)]
 | mp => rfl
theorem mem_ownLs {is : List Nat} {i : Nat} (h : i ∈ is) : Loc.own i ∈ ownLs is := by
 induction is with
 | nil => cases h
 | cons j r ih =>
  rcases List.mem_cons.1 h with rfl | h
  ·exact List.mem_cons_self
  ·exact List.mem_cons_of_mem _ (ih h)
theorem bxs_congr {μ μ' : Loc → Option Obj} {all : List Loc} : ∀ {ls : List Loc}, (∀ l ∈ ls, μ l = μ' l) → bxs μ all ls = bxs μ' all ls
 | [], _ => rfl
 | l :: r, h => by
  simp only [bxs, h l (by simp), bxs_congr (ls := r) fun x hx => h x (by simp [hx])]
theorem restM_congr {μ μ' : Loc → Option Obj} {m : Mem} : ∀ {ls : List Loc} {bs : List A1} {k : Nat}, (∀ i ∈ ownsOf (cellsL bs), μ (.own i) = μ' (.own i)) → restM μ m k ls bs = restM μ' m k ls bs
 | [], bs, k, _ => by cases bs <;> rfl
 | l :: ls, [], k, _ => rfl
 | l :: ls, b :: bs, k, h => by
  have e : cellsL (b :: bs) = cellsL [b] ++ cellsL bs := by cases b <;> simp [cellsL]
  have h1 : mapC (Go.Al.resolve μ) b = mapC (Go.Al.resolve μ') b := mapC_congr fun c hc => resolve_congr' fun i hi => h i (by
   rw [e, ownsOf_append]; exact List.mem_append_left _ (ownsOf_mem hc i hi))
  have h2 := restM_congr (μ := μ) (μ' := μ') (m := m) (ls := ls) (bs := bs) (k := k + 1) fun i hi => h i (by rw [e, ownsOf_append]; exact List.mem_append_right _ hi)
  simp only [restM, h1, h2]
theorem freshM_congr {μ μ' : Loc → Option Obj} : ∀ {m : Mem}, (∀ l ∈ keys m, μ l = μ' l) → freshM μ m = freshM μ' m
 | [], _ => rfl
 | (.own j, o0) :: r, h => by
  simp only [freshM, h (.own j) (by simp [keys]), freshM_congr (m := r) fun l hl => h l (by simp [keys, hl])]
 | (.box j, o0) :: r, h => by
  simp only [freshM]; exact freshM_congr (m := r) fun l hl => h l (by simp [keys, hl])
 | (.outer j, o0) :: r, h => by
  simp only [freshM]; exact freshM_congr (m := r) fun l hl => h l (by simp [keys, hl])
theorem gvM_congr {μ μ' : Loc → Option Obj} : ∀ {l : List Nat} {k : Nat}, (∀ i ∈ l, μ (.own i) = μ' (.own i)) → gvM μ l k = gvM μ' l k
 | [], _, _ => rfl
 | i :: r, k, h => by simp only [gvM, h i (by simp), gvM_congr (l := r) fun j hj => h j (by simp [hj])]
theorem givesOf_live {μ : Loc → Option Obj} {all : List Nat} : ∀ {l : List C} {i : Nat}, i ∈ givesOf μ all l → liveO μ i = true
 | c :: r, i, h => by
  cases c <;> simp only [givesOf] at h <;> try exact givesOf_live h
  rename_i j
  cases hb : (liveO μ j && Nat.beq (countN j all) 1) with
  | true =>
   rw [hb] at h
   rcases List.mem_cons.1 h with rfl | h
   ·exact (Bool.and_eq_true _ _ ▸ hb : _ ∧ _).1
   ·exact givesOf_live h
  | false => rw [hb] at h; exact givesOf_live h
theorem lentOf_sub {gl : List Nat} {i : Nat} : ∀ {l : List C}, i ∈ lentOf gl l → i ∈ ownsOf l
 | c :: r, h => by
  cases c <;> simp only [ownsOf, lentOf] at h ⊢ <;> try exact lentOf_sub h
  ·rename_i j
   cases hj : hasN j gl with
   | true => rw [hj] at h; exact List.mem_cons_of_mem _ (lentOf_sub h)
   | false =>
    rw [hj] at h
    rcases List.mem_cons.1 h with rfl | h
    ·exact List.mem_cons_self
    ·exact List.mem_cons_of_mem _ (lentOf_sub h)
  ·rcases List.mem_cons.1 h with rfl | h
   ·exact List.mem_cons_self
   ·exact List.mem_cons_of_mem _ (lentOf_sub h)
theorem giveC_congr {gl : List Nat} {μ μ' : Loc → Option Obj} {c : C} (h : ∀ i ∈ lentOf gl [c], μ (.own i) = μ' (.own i)) : giveC gl μ c = giveC gl μ' c := by
 cases c <;> try rfl
 ·rename_i i
  cases hi : hasN i gl with
  | true => simp only [giveC, hi, cond_true]
  | false =>
   simp only [giveC, hi, cond_false]
   exact resolve_congr' fun j hj => h j (by simpa [lentOf, hi, ownsOf] using hj)
 ·simp only [giveC]
  exact resolve_congr' fun j hj => h j (by simpa [lentOf, ownsOf] using hj)
theorem lentL_mem {gl : List Nat} {b : A1} : ∀ {bs : List A1}, b ∈ bs → ∀ i ∈ lentOf gl (cellsL [b]), i ∈ lentOf gl (cellsL bs)
 | x :: r, hb, i, hi => by
  have e : cellsL (x :: r) = cellsL [x] ++ cellsL r := by cases x <;> simp [cellsL]
  rw [e, lentOf_append]
  rcases List.mem_cons.1 hb with rfl | hb
  ·exact List.mem_append_left _ hi
  ·exact List.mem_append_right _ (lentL_mem hb i hi)
theorem lentC_mem {gl : List Nat} {c : C} : ∀ {l : List C}, c ∈ l → ∀ i ∈ lentOf gl [c], i ∈ lentOf gl l
 | x :: r, hc, i, hi => by
  rw [show x :: r = [x] ++ r from rfl, lentOf_append]
  rcases List.mem_cons.1 hc with rfl | hc
  ·exact List.mem_append_left _ hi
  ·exact List.mem_append_right _ (lentC_mem hc i hi)
section
variable {R : Type} {calls : Nat → Option CallS} {ρ : Operand → AV} {μ : Loc → Option Obj} {o : Oper} {k : Eff → Option R} {r : R}
theorem goes_enter {g : Nat} {cargs : List Value} {a : Act} {w : World} {rd : Option Nat} {K : Act → World → Prop} {Q : Exit → Act → World → Prop} (hg : g < yB) (hrun : (execOp a.eval o).run P w = .ok (.enter g cargs.toArray) w) :
  ∀ (R : Ending → World → Prop), Goes P g cargs w R → (∀ e w', R e w' → ∃ v, e = .returned v ∧ K (a.put o.dst v) w') → o.wpIn (fw rd) 0 P a w K Q := fun R hG hR => by
 refine ⟨fun _ _ => trivial, ?_⟩
 rw [Oper.semAt_eq _ _ _ (no_defer hrun fun d e => nomatch e), hrun, Oper.uponIn_enter]
 refine ⟨fun h => by simp [fw, Fence.wide] at h, ?_⟩
 rw [Goes, if_pos hg] at hG
 have h1 : CallsIn Fence.wide 0 P g cargs.toArray w R := callsIn_wide.2 hG
 have h2 : CallsIn (fw rd) 0 P g cargs.toArray w R := h1
 refine h2.mono fun e w' he => ?_
 obtain ⟨v, rfl, hk⟩ := hR e w' he
 exact hk
theorem goes_yield {g : Nat} {args : List Value} {b : Nat} {a : Act} {w : World} {rd : Option Nat} {K : Act → World → Prop} {Q : Exit → Act → World → Prop} (hg : ¬ g < yB) (hrun : (execOp a.eval o).run P w = (Instr.yield b args.toArray).run P w) :
  ∀ (R : Ending → World → Prop), Goes P g (args ++ [.pointer (some ⟨b, 0, none⟩)]) w R → (∀ e w', R e w' → ∃ v, e = .returned v ∧ K (a.put o.dst v) w') → o.wpIn (fw rd) 0 P a w K Q := fun R hG hR => by
 rw [Goes, if_neg hg] at hG
 obtain ⟨b', rest, fn, tmps, assign, body, h1, h2, h3⟩ := hG
 obtain ⟨rfl, e⟩ := List.append_inj' h1 rfl
 cases e
 rw [h2] at hrun
 refine ⟨fun _ _ => trivial, ?_⟩
 rw [Oper.semAt_eq _ _ _ (no_defer hrun fun d e => nomatch e), hrun, Oper.uponIn_round]
 refine ⟨fun h => by simp [fw, Fence.wide] at h, ?_⟩
 have h3 : RoundIn (fw rd) 0 P b fn tmps assign body w R := h3
 refine h3.mono fun e w' he => ?_
 obtain ⟨v, rfl, hk⟩ := hR e w' he
 exact hk
theorem keys_mem {l : Loc} {o : Obj} : ∀ {m : Mem}, (l, o) ∈ m → l ∈ keys m
 | (l0, o0) :: r, h => by
  rcases List.mem_cons.1 h with e | h
  ·cases e; exact List.mem_cons_self
  ·exact List.mem_cons_of_mem _ (keys_mem h)
theorem freshB_congr {μ μ' : Loc → Option Obj} {t : Nat} : ∀ {m : Mem}, (∀ b o, (Loc.box b, o) ∈ m → μ (.box (bxN t b)) = μ' (.box (bxN t b))) → freshB μ t m = freshB μ' t m
 | [], _ => rfl
 | (.box j, o0) :: r, h => by
  simp only [freshB, h j o0 List.mem_cons_self, freshB_congr (m := r) fun b o hb => h b o (List.mem_cons_of_mem _ hb)]
 | (.own j, o0) :: r, h => by
  simp only [freshB]; exact freshB_congr (m := r) fun b o hb => h b o (List.mem_cons_of_mem _ hb)
 | (.outer j, o0) :: r, h => by
  simp only [freshB]; exact freshB_congr (m := r) fun b o hb => h b o (List.mem_cons_of_mem _ hb)
theorem callK_core {g : FuncId} {c : CallS} (hc : CallOk P g c) {t : Nat} {args : List AV} (h : callK c t μ args k = some r) :
  ∃ e as, args = as.map .a ∧ k e = some r ∧ (∀ l ∈ locsCs (cellsL as), l ∈ e.rd) ∧ ∀ s : St, (∀ l ∈ e.rd ++ keys e.wr, getM s.mem l = μ l) →
   ∀ (B : Beg) (G : Gh) (a : Act) (w : World) (K : Value → World → Prop) (cargs : List Value), WRel P B G s a w →
    All2 (A1Rel G s.mem w) as cargs → (∀ G' v w', WRel P B G' ⟨s.regs, setMs s.mem e.wr⟩ a w' → Ext G s.mem w G' (setMs s.mem e.wr) w' → AVRel G' (setMs s.mem e.wr) w' e.val v → K v w') → Goes P g cargs w (fun en w' => ∃ v, en = .returned v ∧ K v w') := by
 unfold callK at h
 split at h
 ·cases h
 rename_i as has
 have hargs := a1s_some has
 simp only at h
 split at h
 ·cases h
 rename_i bs hbs
 obtain ⟨res, m', h1, hA⟩ := hc _ _ _ _ _ _ h
 obtain ⟨hcond, hk⟩ := cond_some h1
 clear h1 h
 generalize hls : closeL μ 3 (addLs [] (locsCs (cellsL as))) = ls at *
 have hglive : ∀ i ∈ givesOf μ (ownsOf (cellsL as) ++ ownsOf (cellsL bs)) (cellsL bs), liveO μ i = true := fun i hi => givesOf_live hi
 generalize hgl : givesOf μ (ownsOf (cellsL as) ++ ownsOf (cellsL bs)) (cellsL bs) = gl at *
 generalize how : lentOf gl (cellsL as) ++ lentOf gl (cellsL bs) = ow at *
 obtain ⟨a1, a2⟩ := addLs_spec (locsCs (cellsL as)) [] List.nodup_nil
 obtain ⟨a3, a4⟩ := closeL_spec (μ := μ) 3 _ a1
 rw [hls] at a3 a4
 have hlsmem : ∀ x, x ∈ locsCs (cellsL as) → x ∈ ls := fun x hx => a4 x ((a2 x).2 (.inr hx))
 have hnd : ls.Nodup := a3
 refine ⟨_, as, hargs, hk, fun l hl => List.mem_append_left _ (hlsmem l hl), fun s hμ B G a w K cargs hw hcargs hK => ?_⟩
 have hμl : ∀ l ∈ ls, μ l = getM s.mem l := fun l hl => (hμ l (by simp [hl])).symm
 have hμo : ∀ i ∈ ow, μ (.own i) = getM s.mem (.own i) := fun i hi => (hμ _ (List.mem_append_left _ (List.mem_append_right _ (mem_ownLs (List.mem_append_left _ hi))))).symm
 have hμg : ∀ i ∈ gl, μ (.own i) = getM s.mem (.own i) := fun i hi => (hμ _ (List.mem_append_left _ (List.mem_append_right _ (mem_ownLs (List.mem_append_right _ hi))))).symm
 have hμw : ∀ l ∈ keys (freeze μ (bif lies res m' then ow else restO m' 0 bs) ++ (deadM gl ++ (restM μ m' 0 ls bs ++ backM t ls m'))), μ l = getM s.mem l := fun l hl => (hμ l (List.mem_append_right _ hl)).symm
 have howA : ∀ i ∈ lentOf gl (cellsL as), i ∈ ow := fun i hi => by rw [← how]; exact List.mem_append_left _ hi
 have howB : ∀ i ∈ lentOf gl (cellsL bs), i ∈ ow := fun i hi => by rw [← how]; exact List.mem_append_right _ hi
 obtain ⟨hcond, hgok⟩ : _ ∧ givOk gl ow (restO m' 0 bs) = true := by
  rw [Bool.and_eq_true] at hcond; exact hcond
 unfold givOk at hgok
 simp only [Bool.and_eq_true] at hgok
 obtain ⟨⟨⟨hg1, hg2⟩, hg3⟩, hg4⟩ := hgok
 have hrst : ∀ i ∈ restO m' 0 bs, i ∉ gl := fun i hi => by
  have := List.all_eq_true.1 hg4 i hi
  exact hasN_not.1 (by simpa using this)
 have hallB : ∀ i ∈ ownsOf (cellsL bs), μ (.own i) = getM s.mem (.own i) := fun i hi => by
  by_cases hig : i ∈ gl
  ·exact hμg i hig
  ·exact hμo i (howB i (lentOf_of hig hi))
 have hgo : GOk s.mem gl ow := by
  refine ⟨hg1, fun i hi => ?_, fun i hi => ?_, fun i hi => ?_⟩
  ·have := hglive i hi
   unfold liveO at this
   rw [hμg i hi] at this
   split at this
   ·rename_i τ xs hg; exact ⟨τ, xs, hg⟩
   ·cases this
  ·have := List.all_eq_true.1 hg2 i hi
   split at this
   ·rename_i j hj; rw [hj, Nat.eq_of_beq_eq_true this]
   ·cases this
  ·have := List.all_eq_true.1 hg3 i hi
   exact hasN_not.1 (by simpa using this)
 have hsub : ∀ i ∈ (bif lies res m' then ow else restO m' 0 bs), i ∈ ow := fun i hi => by
  cases hl : lies res m' with
  | true => rw [hl] at hi; exact hi
  | false => rw [hl] at hi; exact howB i (lentOf_of (hrst i hi) (restO_sub i hi))
 rw [bxs_congr hμl] at hbs
 have hfz : freeze μ (bif lies res m' then ow else restO m' 0 bs) = freeze (getM s.mem) (bif lies res m' then ow else restO m' 0 bs) := freeze_congr fun i hi => hμo i (hsub i hi)
 have hrm : restM μ m' 0 ls bs = restM (getM s.mem) m' 0 ls bs := restM_congr hallB
 have hfr : freshM μ (backM t ls m') = freshM (getM s.mem) (backM t ls m') := freshM_congr fun l hl => hμw l (by
  rw [keys_append, keys_append, keys_append]; exact List.mem_append_right _ (List.mem_append_right _ (List.mem_append_right _ hl)))
 have hfbb : freshB μ t m' = freshB (getM s.mem) t m' := freshB_congr fun b o hb => hμw _ (by
  rw [keys_append, keys_append, keys_append]
  refine List.mem_append_right _ (List.mem_append_right _ (List.mem_append_right _ ?_))
  have hbm : (Loc.box b, o) ∈ m' := hb
  simp only [Bool.and_eq_true] at hcond
  rcases memOk_spec hcond.1.1.1.1.2 _ _ hbm with ⟨_, _, _, e, _⟩ | ⟨_, _, _, e, _⟩ | ⟨_, v, e, e2, _⟩
  ·cases e
  ·cases e
  ·cases e; subst e2; exact keys_mem (backM_box hbm))
 have hcells : ∀ (l : List A1), (∀ i ∈ lentOf gl (cellsL l), i ∈ ow) → l.map (mapC fun x => mapL (fun l => .outer (idxL l ls)) (giveC gl μ x)) = l.map (mapC (handC (getM s.mem) gl ls)) := fun l hl =>
  List.map_congr_left fun x hx => mapC_congr fun c hc => by
   show mapL _ (giveC gl μ c) = mapL _ (giveC gl (getM s.mem) c)
   rw [giveC_congr (μ := μ) (μ' := getM s.mem) fun i hi => hμo i (hl i (lentL_mem hx i (lentC_mem hc i hi)))]
 rw [hcells as howA, hcells bs howB, gvM_congr hμg] at hA
 rw [hfr, hfbb, hrm] at hcond
 rw [hfz, hrm] at hK
 simp only [Bool.and_eq_true] at hcond
 obtain ⟨⟨⟨⟨⟨c1, c2⟩, c3⟩, c4⟩, c4b⟩, c5⟩ := hcond
 obtain ⟨hb, hbs2⟩ := bxs_some hbs
 have hbs' : ∀ (j : Nat) (l : Loc) (b : A1), ls[j]? = some l → bs[j]? = some b → getM s.mem l = some (.bx b) := fun j l b h1 h2 => (hbs2 j l b h1 h2).1
 have hM := hw.mem.hand hgo hnd hb hbs2 howB
 have hargs2 : All2 (A1Rel (handG G s.mem gl ls ow) (handM s.mem gl ls bs) w) (as.map (mapC (handC (getM s.mem) gl ls))) cargs := by
  have : ∀ (l : List A1) (vs : List Value), (∀ x ∈ l, x ∈ as) → All2 (A1Rel G s.mem w) l vs →
    All2 (A1Rel (handG G s.mem gl ls ow) (handM s.mem gl ls bs) w) (l.map (mapC (handC (getM s.mem) gl ls))) vs := fun l vs hs hr => by
   induction hr with
   | nil => exact .nil
   | cons h1 _ ih =>
    refine .cons (handA_rel hw.mem hgo hb hbs' (fun i hi => howA i (lentL_mem (hs _ (by simp)) i hi)) (fun y hy => hlsmem y (locsA_mem (hs _ (by simp)) y hy)) h1) (ih fun x hx => hs x (by simp [hx]))
  exact this as cargs (fun _ h => h) hcargs
 have hC := hA w _ _ _ _ _ cargs hM hargs2
 refine hC.mono fun e w' he => ?_
 obtain ⟨v, G', rfl, hM', hv, hun⟩ := he
 obtain ⟨Gn, n1, n2, n3⟩ := call_back hw.mem hgo (t := t) hb hbs2 howB hrst c1 c2 c3 c4 c4b c5 (by simp [hb]) (fun j b b' h1 h2 => by rw [List.getElem?_map, h1] at h2; cases h2; exact nA_mapC _ _) hM' hv hun
 exact ⟨v, rfl, hK Gn v w' ⟨fun t => n2.AV (hw.regs t), hw.size, hw.nod.ext n2, n1⟩ n2 n3⟩
theorem callK_sound {g : FuncId} {c : CallS} (hc : CallOk P g c) {args : List AV} (h : callK c (o.dst.getD 0) μ args k = some r) :
  ∃ e as, args = as.map .a ∧ k e = some r ∧ (∀ l ∈ locsCs (cellsL as), l ∈ e.rd) ∧ ∀ s : St, (∀ l ∈ e.rd ++ keys e.wr, getM s.mem l = μ l) →
   ∀ (B : Beg) (G : Gh) (a : Act) (w : World) (K : Act → World → Prop) (Q : Exit → Act → World → Prop) (cargs : List Value), WRel P B G s a w → (∀ d, o.dst = some d → d < B.nt) →
    All2 (A1Rel G s.mem w) as cargs → (∀ (R : Ending → World → Prop), Goes P g cargs w R → (∀ e w', R e w' → ∃ v, e = .returned v ∧ K (a.put o.dst v) w') → o.wpIn (fw B.rd) 0 P a w K Q) → (∀ G' a' w', WRel P B G' (s.app o.dst e) a' w' → K a' w') → o.wpIn (fw B.rd) 0 P a w K Q := by
 obtain ⟨e, as, h1, h2, h3, h4⟩ := callK_core hc h
 refine ⟨e, as, h1, h2, h3, fun s hμ B G a w K Q cargs hw hd hcargs hrun hK => ?_⟩
 refine hrun _ (h4 s hμ B G a w (fun v w' => K (a.put o.dst v) w') cargs hw hcargs fun G' v w' hreg _ hv => hK G' _ w' ?_) fun e w' he => he
 unfold St.app
 cases hdst : o.dst with
 | none => exact hreg
 | some d => exact hreg.put (hd d hdst) hv
end
end Go.Al
