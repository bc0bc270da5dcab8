/- Functions. -/
import Derived.Test.YtcgmelealalhhaaGreatDoorAlMark
namespace Go.Al
variable {P : Program} {H : Hint}
def loadA (P : Program) (s : St) (a ty : Nat) : Option A1 := match sizeT P ty, aggT P ty, asC (getR s.regs a) with
 | some n, some g, .ptr l off room => bif Nat.ble n room && Nat.ble 1 n then (match getM s.mem l with | some (.bx v) => takeCells g n off v | _ => none) else none
 | _, _, _ => none
def resL0 (P : Program) (s : St) : List ResultVar → Option (List AV)
 | [] => some []
 | .tmp t :: r => match resL0 P s r with | some l => some (getR s.regs t :: l) | none => none
 | .cell a ty :: r => match loadA P s a ty, resL0 P s r with | some x, some l => some (.a x :: l) | _, _ => none
def numR : Nat → List AV → List (Nat × AV)
 | _, [] => [] | i, x :: r => (i, x) :: numR (i + 1) r
def fnK (P : Program) (rs : List ResultVar) (T : Tm) : X → St → Option T.T := fun x s => match x with
 | .ext _ => none
 | _ => match resL0 P s rs with | some l => T.dec ⟨numR 0 l, s.mem⟩ | none => none
def fnKv (P : Program) (rs : List ResultVar) {T : Tm} (V : Vw T) : X → St → Option V.Y := fun x s => match fnK P rs T x s with | some t => some (V.fromT t) | none => none
def resOf (T : Tm) (y : T.T) : AV := match (encAs T.ts y).take T.rk.length with | [x] => .a x | l => .tup l
def memOf (T : Tm) (y : T.T) : Mem := (T.enc y).mem
def callOf (nt : Nat) {Ti To : Tm} (Vi : Vw Ti) (Vo : Vw To) (F : Vi.Y → Option Vo.Y) : CallS := ⟨fun _ as bs gs k => bif Nat.ble as.length nt then (match Vi.dec ⟨numR 0 (as.map .a), outM 0 bs ++ gs⟩ with
 | some x => andThen (F x) fun y => k (resOf To (Vo.outT y)) (memOf To (Vo.outT y))
 | none => none) else none⟩
theorem MRel.nt {B : Beg} {G : Gh} {m : Mem} {w : World} (h : MRel P B G m w) (k : Nat) : MRel P { B with nt := k } G m w :=
 ⟨h.objs, h.inj, h.wr, h.lt, h.ltS, h.new, h.grow, h.kept, h.s0, h.s1, h.outs, h.io, h.tab⟩
theorem numR_get : ∀ (l : List AV) (i t : Nat), getR (numR i l) t = if i ≤ t then (l[t - i]?).getD (.a (.one .und)) else .a (.one .und)
 | [], i, t => by simp [numR, getR]
 | x :: r, i, t => by
  simp only [numR, getR, nat_beq]
  by_cases e : i = t
  ·subst e; simp
  ·simp only [e, decide_false, cond_false]
   rw [numR_get r (i + 1) t]
   by_cases h : i + 1 ≤ t
   ·rw [if_pos h, if_pos (by omega), show t - i = (t - (i + 1)) + 1 by omega, List.getElem?_cons_succ]
   ·rw [if_neg h, if_neg (by omega)]
theorem loadA_run {B : Beg} {G : Gh} {s : St} {a : Act} {w : World} (hw : WRel P B G s a w) {t ty : Nat} {x : A1} (h : loadA P s t ty = some x) :
  ∃ q, (do loadVar ty (← asAddr (a.tmps.getD t undef)) : Sem Value).run P w = .ok q w ∧ A1Rel G s.mem w x q := by
 unfold loadA at h
 split at h
 case h_2 => cases h
 rename_i n g l off room hs ha hx
 obtain ⟨hb, h⟩ := cond_some h
 simp only [Bool.and_eq_true] at hb
 have hb1 := Nat.le_of_ble_eq_true hb.1
 have hb2 := Nat.le_of_ble_eq_true hb.2
 split at h
 case h_2 => cases h
 rename_i v hm
 have ex := asC_rel (hw.regs t)
 rw [hx] at ex
 obtain ⟨e1, e2⟩ := ex
 rw [hm] at e1
 obtain ⟨vs, hcs, hrange, _⟩ := (hw.mem.objs l _ hm).cells (take_lp h)
 obtain ⟨q, hq, hqr⟩ := run_load_rel (o := 0) hs ha hcs hrange (fun τ N xs e => by subst e; have e1 : off + room ≤ N := e1; omega) h
 rw [Nat.zero_add] at hq
 refine ⟨q, ?_, hqr⟩
 rw [e2]
 simpa [Instr.loadAt, Instr.sureAddr, asAddr] using hq
theorem resL0_run {B : Beg} {G : Gh} {s : St} {a : Act} {w : World} (hw : WRel P B G s a w) : ∀ {rs : List ResultVar} {l : List AV}, resL0 P s rs = some l → ∃ vs : List Value, l.length = rs.length ∧
  (rs.mapM (fun | .tmp t => pure (a.tmps.getD t undef) | .cell b t => do loadVar t (← asAddr (a.tmps.getD b undef)) : ResultVar → Sem Value)).run P w = .ok vs w ∧ All2 (AVRel G s.mem w) l vs
 | [], l, h => by
  cases h
  exact ⟨[], rfl, by simp, .nil⟩
 | .tmp t :: r, l, h => by
  simp only [resL0] at h
  split at h
  ·rename_i l' hl
   cases h
   obtain ⟨vs, h0, h1, h2⟩ := resL0_run hw hl
   refine ⟨a.tmps.getD t undef :: vs, by simp [h0], ?_, .cons (hw.regs t) h2⟩
   rw [List.mapM_cons, Sem.run_bind]
   simp only [Sem.run_pure, Result.andThen]
   rw [Sem.run_bind, h1]; rfl
  ·cases h
 | .cell b t :: r, l, h => by
  simp only [resL0] at h
  split at h
  ·rename_i x l' hx hl
   cases h
   obtain ⟨vs, h0, h1, h2⟩ := resL0_run hw hl
   obtain ⟨q, hq, hqr⟩ := loadA_run hw hx
   refine ⟨q :: vs, by simp [h0], ?_, .cons hqr h2⟩
   rw [List.mapM_cons, Sem.run_bind, hq]
   show Sem.run P (do let bs ← _; pure (q :: bs)) w = _
   rw [Sem.run_bind, h1]; rfl
  ·cases h
theorem zipR_at {t : Nat} {v : A1} : ∀ {ls : List Nat} {b : List A1} {p : Nat}, ls.Nodup → ls[p]? = some t → b[p]? = some v → getR (zipR ls b) t = .a v
 | [], _, p, _, h, _ => by simp at h
 | l :: r, [], p, _, _, h => by simp at h
 | l :: r, x :: b, p, hn, h1, h2 => by
  simp only [zipR, getR, nat_beq]
  cases p with
  | zero => simp at h1 h2; subst h1; subst h2; simp
  | succ p =>
   have hm : t ∈ r := List.mem_of_getElem? (by simpa using h1)
   have hne : l ≠ t := fun e => (List.nodup_cons.1 hn).1 (e ▸ hm)
   simp only [hne, decide_false, cond_false]
   exact zipR_at (List.nodup_cons.1 hn).2 (by simpa using h1) (by simpa using h2)
theorem fn_core (hm : P.follows .mixedOrders = true) {calls : Nat → Option CallS} {orc : Nat → Option Orc} {n : Nat} (hE : EqOk P H) (hC : CallsOk P calls) {g : FuncId} {fn : Func} {body : Code} (hf : P.funcs[g]? = some fn)
  (hb : fn.body = some body) (hn : fn.ntmps = n) {rs : List ResultVar} (hrs : fn.results.toList = rs) (hO : ∀ p q d, orc p = some q → At body p d → OrcOk P false n d q) {Ti To : Tm} (hrk : To.rk = List.range rs.length) {Vi : Vw Ti} {Vo : Vw To}
  {R0 : Type} {K : X → St → Option R0} {o : R0} {x : Vi.Y} {yv : Vo.Y} (hc : codeK P H calls orc n body 1 (Vi.enc x) K = some o) (hK : ∀ x' s', K x' s' = some o → fnKv P rs Vo x' s' = some yv) (hgy : Nat.blt g yB = true)
  {as bs : List A1} {gs : Mem} (hle : as.length ≤ n) (hx : Vi.dec ⟨numR 0 (as.map .a), outM 0 bs ++ gs⟩ = some x) : ACalls P g as bs gs (resOf To (Vo.outT yv)) (memOf To (Vo.outT yv)) := by
 intro w S ω γ κ gv cargs hM hargs
 have hlen : as.length = cargs.length := hargs.length
 rw [Goes, if_pos (of_blt hgy)]
 let B : Beg := ⟨w, S, ω, bs.length, n, none, gv⟩
 have hw0 : WRel P B (ghOf S ω γ κ) ⟨numR 0 (as.map .a), outM 0 bs ++ gs⟩ { tmps := cargs.toArray ++ Array.replicate (fn.ntmps - cargs.toArray.size) undef, defers := [] } w := by
  refine ⟨fun t => ?_, by simp [hn]; show cargs.length + (n - cargs.length) = n; omega, Marks.nil, hM.nt n⟩
  show AVRel _ _ _ (getR (numR 0 (as.map .a)) t) _
  rw [numR_get, if_pos (Nat.zero_le _), Nat.sub_zero, List.getElem?_map]
  cases hat : as[t]? with
  | none => trivial
  | some v =>
   obtain ⟨u, hu, hr⟩ := hargs.get hat
   have : (cargs.toArray ++ Array.replicate (fn.ntmps - cargs.toArray.size) undef).getD t undef = u := by
    have hlt := (List.getElem?_eq_some_iff.1 hu).1
    rw [Array.getD_eq_getD_getElem?, Array.getElem?_append_left (by simpa using hlt)]
    simp [hu]
   rw [this]; exact hr
 obtain ⟨G1, hw1⟩ := Vi.sound hx hw0
 obtain ⟨x', s', hK', hr⟩ := codeK_sound hm hE hC hO body 1 _ _ _ .root hc
 have hkv := hK _ _ hK'
 obtain ⟨y, hk, rfl⟩ : ∃ y, fnK P rs To x' s' = some y ∧ Vo.fromT y = yv := by
  unfold fnKv at hkv
  split at hkv
  ·rename_i t ht; cases hkv; exact ⟨t, ht, rfl⟩
  ·cases hkv
 rw [Vo.inv]
 have hfin : ∃ l, resL0 P s' rs = some l ∧ To.dec ⟨numR 0 l, s'.mem⟩ = some y ∧ (x' = .nrm ∨ x' = .ret) := by
  have hk' : ∀ x', fnK P rs To x' s' = some y → (x' = .nrm ∨ x' = .ret) → ∃ l, resL0 P s' rs = some l ∧ To.dec ⟨numR 0 l, s'.mem⟩ = some y := fun x' hk hx' => by
   rcases hx' with rfl | rfl <;>
   ·simp only [fnK] at hk
    split at hk
    ·rename_i l hl; exact ⟨l, hl, hk⟩
    ·cases hk
  cases x' with
  | ext id => simp [fnK] at hk
  | nrm => obtain ⟨l, h1, h2⟩ := hk' _ hk (.inl rfl); exact ⟨l, h1, h2, .inl rfl⟩
  | ret => obtain ⟨l, h1, h2⟩ := hk' _ hk (.inr rfl); exact ⟨l, h1, h2, .inr rfl⟩
 obtain ⟨l, hl, hdec, hx'⟩ := hfin
 have hpost : ∀ G' a' w', WRel P B G' s' a' w' → ∃ v, (results fn a'.tmps).run P w' = .ok v w' ∧ (∃ u G'', Ending.returned v = .returned u ∧ MRel P (begOf w S ω bs.length gv) G'' (memOf To y ++ outM 0 bs) w' ∧ AVRel G'' (memOf To y ++ outM 0 bs) w' (resOf To y) u ∧
   ∀ j, j < bs.length → getM (memOf To y) (.outer j) = none → w'.heap[ω j]? = w.heap[ω j]?) := fun G' a' w' hw' => by
  obtain ⟨vs, hll, hrun, hall⟩ := resL0_run hw' hl
  have hw2 : WRel P { B with nt := vs.length } G' ⟨numR 0 l, s'.mem⟩ { tmps := vs.toArray, defers := [] } w' := by
   refine ⟨fun t => ?_, by simp, Marks.nil, hw'.mem.nt _⟩
   show AVRel _ _ _ (getR (numR 0 l) t) _
   rw [numR_get, if_pos (Nat.zero_le _), Nat.sub_zero]
   cases hat : l[t]? with
   | none => trivial
   | some v =>
    obtain ⟨u, hu, hr⟩ := hall.get hat
    have : vs.toArray.getD t undef = u := by rw [Array.getD_eq_getD_getElem?]; simp [hu]
    rw [this]; exact hr
  obtain ⟨G2, hw3, hou, hlk⟩ := tm_sound hdec hw2
  have hres : ∃ v, (results fn a'.tmps).run P w' = .ok v w' ∧ AVRel G2 (To.enc y).mem w' (resOf To y) v := by
   have hvl : vs.length = rs.length := by rw [← hall.length, hll]
   have hpos : All2 (A1Rel G2 (To.enc y).mem w') ((encAs To.ts y).take To.rk.length) vs := by
    have htl : To.ts.length = To.rk.length + To.lk.length := by
     unfold Tm.dec at hdec
     split at hdec
     case h_2 => cases hdec
     rename_i ra rb hra hrb
     obtain ⟨_, hd⟩ := cond_some hdec
     rw [decAs_len hd, List.length_append, (gatR_get hra).1, (gatM_get hrb).1]
    have hn0 : To.rk.length = rs.length := by rw [hrk]; simp
    refine All2.of_get (by rw [List.length_take, encAs_len]; omega) fun i a b ha hb2 => ?_
    have hi : i < rs.length := by rw [← hvl]; exact (List.getElem?_eq_some_iff.1 hb2).1
    rw [List.getElem?_take, if_pos (by omega)] at ha
    have := hw3.regs i
    have hg : getR (To.enc y).regs i = .a a := zipR_at (p := i) (by rw [hrk]; exact List.nodup_range) (by rw [hrk]; simp [hi]) ha
    rw [hg] at this
    have hv : vs.toArray.getD i undef = b := by rw [Array.getD_eq_getD_getElem?]; simp [hb2]
    rw [hv] at this
    exact this
   refine ⟨if hq : vs.length = 1 then vs[0]'(by omega) else .tuple vs.toArray, ?_, ?_⟩
   ·have harr : fn.results = rs.toArray := by rw [← hrs]
    have e : results fn a'.tmps = (do
      let vs ← fn.results.mapM (fun | .tmp t => pure (a'.tmps.getD t undef) | .cell b t => do loadVar t (← asAddr (a'.tmps.getD b undef)) : ResultVar → Sem Value)
      pure (if h : vs.size = 1 then vs[0] else .tuple vs)) := rfl
    rw [e, harr, Array.mapM_eq_mapM_toList, Sem.run_bind, Sem.run_map, hrun]
    rfl
   ·unfold resOf
    generalize (encAs To.ts y).take To.rk.length = q at hpos
    cases hpos with
    | nil => exact ⟨[], rfl, .nil⟩
    | cons h1 h2 =>
     cases h2 with
     | nil => exact h1
     | cons h3 h4 => exact ⟨_, by simp, .cons h1 (.cons h3 h4)⟩
  obtain ⟨v, hv1, hv2⟩ := hres
  have hgm : getM (To.enc y).mem = getM (memOf To y ++ outM 0 bs) := funext fun l => by
   rw [getM_append]
   show getM (To.enc y).mem l = match getM (To.enc y).mem l with | some o => some o | none => getM (outM 0 bs) l
   cases hg : getM (To.enc y).mem l with
   | some o => rfl
   | none =>
    cases l with
    | box t => exact (getM_outM_other _ _ _ (fun _ => by simp)).symm
    | own t => exact (getM_outM_other _ _ _ (fun _ => by simp)).symm
    | outer j =>
     rw [getM_outM0]
     cases hbj : bs[j]? with
     | none => rfl
     | some b =>
      obtain ⟨z, hz⟩ := hlk _ (hou j (List.getElem?_eq_some_iff.1 hbj).1)
      rw [hz] at hg; cases hg
  refine (show ∃ v, (results fn a'.tmps).run P w' = .ok v w' ∧ (∃ u G'', Ending.returned v = .returned u ∧ MRel P (begOf w S ω bs.length gv) G'' (memOf To y ++ outM 0 bs) w' ∧ AVRel G'' (memOf To y ++ outM 0 bs) w' (resOf To y) u ∧
   ∀ j, j < bs.length → getM (memOf To y) (.outer j) = none → w'.heap[ω j]? = w.heap[ω j]?) from ?_)
  refine ⟨v, hv1, v, G2, rfl, (hw3.mem.nt 0).congr hgm, (Ext.same hgm).AV hv2, fun j hj hg => ?_⟩
  obtain ⟨z, hz⟩ := hlk _ (hou j hj)
  have hg : getM (To.enc y).mem (.outer j) = none := hg
  rw [hz] at hg; cases hg
 refine (callsIn_wide (n := 0)).1 (show CallsIn (fw none) 0 P g _ w _ from callsIn_of_wp_marks hf hb trivial (hr B G1 _ w _ rfl rfl hw1 fun G' a' w' hw' => ?_))
 have hL : ∀ R' : Ending → World → Prop, (∀ G' a' w', WRel P B G' s' a' w' → ∃ v, (results fn a'.tmps).run P w' = .ok v w' ∧ R' (.returned v) w') → LeavesInM (fw none) 0 P fn a'.tmps R' a'.defers .returning w' := fun R' hR =>
  leaves_marks a'.defers a' w' rfl hw' fun w'' hw'' => hR G' { a' with defers := [] } w'' hw''
 rcases hx' with rfl | rfl
 ·exact hL _ hpost
 ·exact hL _ hpost
theorem fn_ok (hm : P.follows .mixedOrders = true) {calls : Nat → Option CallS} {orc : Nat → Option Orc} {n : Nat} (hE : EqOk P H) (hC : CallsOk P calls) {g : FuncId} {fn : Func} {body : Code} (hf : P.funcs[g]? = some fn)
  (hb : fn.body = some body) (hn : fn.ntmps = n) {rs : List ResultVar} (hrs : fn.results.toList = rs) (hO : ∀ p q d, orc p = some q → At body p d → OrcOk P false n d q) {Ti To : Tm} (hrk : To.rk = List.range rs.length) {Vi : Vw Ti} {Vo : Vw To} {F : Vi.Y → Option Vo.Y}
  (hF : ∀ x y, F x = some y → codeK P H calls orc n body 1 (Vi.enc x) (fnKv P rs Vo) = some y) (hgy : Nat.blt g yB = true := by rfl) : CallOk P g (callOf n Vi Vo F) := by
 intro R as bs gs k r h
 simp only [callOf] at h
 obtain ⟨hle, h⟩ := cond_some h
 split at h
 case h_2 => cases h
 rename_i x hx
 obtain ⟨yv, hy, h⟩ := andThen_some h
 exact ⟨_, _, h, fn_core hm hE hC hf hb hn hrs hO hrk (hF x yv hy) (fun _ _ h => h) hgy (Nat.le_of_ble_eq_true hle) hx⟩
def fnKv2 (P : Program) (rs : List ResultVar) {T1 T2 : Tm} (V1 : Vw T1) (V2 : Vw T2) : X → St → Option (V1.Y ⊕ V2.Y) := fun x s => match fnKv P rs V1 x s with
 | some y => some (.inl y)
 | none => match fnKv P rs V2 x s with | some y => some (.inr y) | none => none
def callOf2 (nt : Nat) {Ti T1 T2 : Tm} (Vi : Vw Ti) (V1 : Vw T1) (V2 : Vw T2) (F : Vi.Y → Option (V1.Y ⊕ V2.Y)) : CallS := ⟨fun _ as bs gs k => bif Nat.ble as.length nt then (match Vi.dec ⟨numR 0 (as.map .a), outM 0 bs ++ gs⟩ with
 | some x => andThen (F x) fun o => either o (fun y => k (resOf T1 (V1.outT y)) (memOf T1 (V1.outT y))) (fun y => k (resOf T2 (V2.outT y)) (memOf T2 (V2.outT y)))
 | none => none) else none⟩
theorem fn_ok2 (hm : P.follows .mixedOrders = true) {calls : Nat → Option CallS} {orc : Nat → Option Orc} {n : Nat} (hE : EqOk P H) (hC : CallsOk P calls) {g : FuncId} {fn : Func} {body : Code} (hf : P.funcs[g]? = some fn)
  (hb : fn.body = some body) (hn : fn.ntmps = n) {rs : List ResultVar} (hrs : fn.results.toList = rs) (hO : ∀ p q d, orc p = some q → At body p d → OrcOk P false n d q) {Ti T1 T2 : Tm} (hr1 : T1.rk = List.range rs.length) (hr2 : T2.rk = List.range rs.length)
  {Vi : Vw Ti} {V1 : Vw T1} {V2 : Vw T2} {F : Vi.Y → Option (V1.Y ⊕ V2.Y)}
  (hF : ∀ x y, F x = some y → codeK P H calls orc n body 1 (Vi.enc x) (fnKv2 P rs V1 V2) = some y) (hgy : Nat.blt g yB = true := by rfl) : CallOk P g (callOf2 n Vi V1 V2 F) := by
 intro R as bs gs k r h
 simp only [callOf2] at h
 obtain ⟨hle, h⟩ := cond_some h
 split at h
 case h_2 => cases h
 rename_i x hx
 obtain ⟨o, hy, h⟩ := andThen_some h
 cases o with
 | inl y => exact ⟨_, _, h, fn_core hm hE hC hf hb hn hrs hO hr1 (hF x _ hy) (fun x' s' h => by
   unfold fnKv2 at h
   split at h
   ·rename_i z hz; cases h; exact hz
   ·split at h <;> cases h) hgy (Nat.le_of_ble_eq_true hle) hx⟩
 | inr y => exact ⟨_, _, h, fn_core hm hE hC hf hb hn hrs hO hr2 (hF x _ hy) (fun x' s' h => by
   unfold fnKv2 at h
   split at h
   ·cases h
   ·split at h
    ·rename_i z hz; cases h; exact hz
    ·cases h) hgy (Nat.le_of_ble_eq_true hle) hx⟩
end Go.Al
