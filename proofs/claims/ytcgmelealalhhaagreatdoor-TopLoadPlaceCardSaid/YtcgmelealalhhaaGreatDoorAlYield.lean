/- Ranges over functions: a round. -/
import Derived.Test.YtcgmelealalhhaaGreatDoorAlRange
namespace Go.Al
variable {P : Program} {H : Hint}
def eqL : List Nat → List Nat → Bool
 | [], [] => true | a :: r, b :: q => Nat.beq a b && eqL r q | _, _ => false
theorem eqL_eq : ∀ {a b : List Nat}, eqL a b = true → a = b
 | [], [], _ => rfl
 | a :: r, b :: q, h => by
  simp only [eqL, Bool.and_eq_true] at h
  rw [Nat.eq_of_beq_eq_true h.1, eqL_eq h.2]
 | [], _ :: _, h => by cases h
 | _ :: _, [], h => by cases h
def argP (s : St) : Nat → List Nat → List (Nat × AV)
 | _, [] => [] | i, t :: r => (t, getR s.regs i) :: argP s (i + 1) r
def keepP : List Nat → List C → List (Nat × AV)
 | t :: r, c :: q => (t, one c) :: keepP r q | _, _ => []
def yK (P : Program) (H : Hint) (calls : Nat → Option CallS) (orc : Nat → Option Orc) (n g : Nat) (p ts ps : List Nat) (assign body : Code) {To : Tm} (Vo : Vw To) (s : St) : Option Vo.Y :=
 match asC (getR s.regs ps.length) with
 | .ptr (.outer j) 0 _ => match getM s.mem (.outer j) with
  | some (.bx (.lp g' p' ts' (.int .i64 st :: cs))) =>
   bif Nat.beq g' g && eqL p' p && eqL ts' ts && nodupN ps && ps.all (fun t => Nat.blt t n) then
   (if (st == 0) = true then
    codeK P H calls orc n assign 2 ⟨argP s 0 ps ++ keepP ts cs, s.mem⟩ fun x s1 => match x with
     | .nrm => match getM s1.mem (.outer j) with
      | some (.bx (.lp g1 p1 ts1 (.int .i64 s1' :: cs1))) => (if (s1' == 0) = true then codeK P H calls orc n body 3 ⟨s1.regs, (.outer j, .bx (.lp g1 p1 ts1 (.int .i64 (-1) :: cs1))) :: s1.mem⟩ fun x s2 => match getM s2.mem (.outer j) with
       | some (.bx (.lp g2 p2 ts2 (.int .i64 _ :: cs2))) => Vo.dec ⟨[(0, one (.bool (match x with | .nrm => true | _ => false)))], (.outer j, .bx (.lp g2 p2 ts2 (.int .i64 (codeX x) :: cs2))) :: s2.mem⟩
       | _ => none
       else none)
      | _ => none
     | _ => none
   else none) else none
  | _ => none
 | _ => none
def yldOf (nt : Nat) {Ti To : Tm} (Vi : Vw Ti) (Vo : Vw To) (F : Vi.Y → Option Vo.Y) : CallS := ⟨fun _ as bs gs k => bif Nat.beq as.length nt then (match Vi.dec ⟨numR 0 (as.map .a), outM 0 bs ++ gs⟩ with
 | some x => andThen (F x) fun y => k (resOf To (Vo.outT y)) (memOf To (Vo.outT y))
 | none => none) else none⟩
theorem WRel.lpSet {B : Beg} {G : Gh} {s : St} {a : Act} {w : World} (hw : WRel P B G s a w) {j g : Nat} {p ts : List Nat} {st st' : Int} {cs : List C} (hm : getM s.mem (.outer j) = some (.bx (.lp g p ts (.int .i64 st :: cs))))
  {r r' : Loop} (hh : w.heap[G.β (.outer j)]? = some (.loop r)) (h1 : r'.params = r.params) (h2 : r'.assign = r.assign) (h3 : r'.body = r.body) (h4 : r'.tmps = r.tmps) (hst : LpSt st' r') :
  WRel P B G ⟨s.regs, (.outer j, .bx (.lp g p ts (.int .i64 st' :: cs))) :: s.mem⟩ a (w.putObj (G.β (.outer j)) (.loop r')) := by
 have hlt := (Array.getElem?_eq_some_iff.1 hh).1
 have hW : Writ G s.mem (.outer j) := by unfold Writ; rw [hm]; trivial
 have hE : Ext G s.mem w G ((.outer j, .bx (.lp g p ts (.int .i64 st' :: cs))) :: s.mem) (w.putObj (G.β (.outer j)) (.loop r')) := Ext.write hm rfl fun b hb => World.putObj_heap_other fun e => hw.mem.wr _ hW (e ▸ hb)
 refine ⟨fun t => hE.AV (hw.regs t), hw.size, hw.nod.ext hE, hw.mem.write hm hW rfl (by unfold Writ; rw [getM_cons, if_pos rfl]; trivial) (by simp) (fun b hb => World.putObj_heap_other hb) ?_⟩
 rcases hw.mem.objs _ _ hm with ⟨_, hf, _⟩ | ⟨q, n, ps, st0, l, k1, k2, k3, k4, k5, k6, k7⟩
 ·exact hf.elim
 ·cases k5
  rw [hh] at k3; cases k3
  exact .inr ⟨r', n, ps, st', _, by rw [h2, h3]; exact k1, by rw [h1]; exact k2, World.putObj_heap_same hlt, by rw [h4]; exact k4, rfl, hst, by rw [h4]; exact hE.Cs k7⟩
theorem lp_at {B : Beg} {G : Gh} {m : Mem} {w : World} (h : MRel P B G m w) {l : Loc} {g : Nat} {p ts : List Nat} {st : Int} {cs : List C} (hm : getM m l = some (.bx (.lp g p ts (.int .i64 st :: cs)))) :
  ∃ (r : Loop) (n : Nat) (ps : List Nat), rngAt P g p = some (n, ps, r.assign, r.body) ∧ r.params.toList = ps ∧ w.heap[G.β l]? = some (.loop r) ∧ r.tmps.size = n ∧ LpSt st r ∧ All2 (CRel G m w) cs (ts.map fun t => r.tmps.getD t undef) := by
 rcases h.objs _ _ hm with ⟨_, hf, _⟩ | ⟨q, n, ps, st0, l, k1, k2, k3, k4, k5, k6, k7⟩
 ·exact hf.elim
 ·cases k5
  exact ⟨q, n, ps, k1, k2, k3, k4, k6, k7⟩
theorem foldl_size : ∀ (l : List (Nat × Value)) (T : Array Value), (l.foldl (fun tmps (x : Nat × Value) => tmps.setIfInBounds x.1 x.2) T).size = T.size
 | [], _ => rfl
 | x :: r, T => by rw [List.foldl_cons, foldl_size r]; simp
theorem keepP_rel {G : Gh} {m : Mem} {w : World} {T : Array Value} : ∀ {ts : List Nat} {cs : List C}, All2 (CRel G m w) cs (ts.map fun t => T.getD t undef) → ∀ t, AVRel G m w (getR (keepP ts cs) t) (T.getD t undef)
 | [], cs, h, t => by cases h; trivial
 | t0 :: ts, cs, h, t => by
  cases h with
  | cons h1 h2 =>
   simp only [keepP, getR, nat_beq]
   by_cases e : t0 = t
   ·subst e; simp only [decide_true, cond_true]; exact h1
   ·simp only [e, decide_false, cond_false]; exact keepP_rel h2 t
theorem argP_get {s : St} (q : List (Nat × AV)) : ∀ (ps : List Nat) (i t : Nat), (getR (argP s i ps ++ q) t = getR q t ∧ t ∉ ps) ∨ ∃ k, ps[k]? = some t ∧ getR (argP s i ps ++ q) t = getR s.regs (i + k)
 | [], i, t => .inl ⟨rfl, by simp⟩
 | t0 :: r, i, t => by
  simp only [argP, List.cons_append, getR, nat_beq]
  by_cases e : t0 = t
  ·subst e
   exact .inr ⟨0, rfl, by simp⟩
  ·simp only [e, decide_false, cond_false]
   rcases argP_get q r (i + 1) t with ⟨h1, h2⟩ | ⟨k, h1, h2⟩
   ·exact .inl ⟨h1, by simp [h2, Ne.symm e]⟩
   ·exact .inr ⟨k + 1, h1, by rw [h2]; congr 1; omega⟩
theorem fold_get : ∀ (ps : List Nat) (vs : List Value) (T : Array Value) (t : Nat), nodupN ps = true → ps.length = vs.length → (∀ q ∈ ps, q < T.size) →
  (t ∉ ps → ((ps.zip vs).foldl (fun tmps (x : Nat × Value) => tmps.setIfInBounds x.1 x.2) T).getD t undef = T.getD t undef) ∧
  ∀ k, ps[k]? = some t → ((ps.zip vs).foldl (fun tmps (x : Nat × Value) => tmps.setIfInBounds x.1 x.2) T).getD t undef = vs.getD k undef
 | [], vs, T, t, _, _, _ => ⟨fun _ => rfl, fun k h => by simp at h⟩
 | t0 :: r, [], T, t, _, h, _ => by simp at h
 | t0 :: r, v :: vs, T, t, hn, hl, hlt => by
  obtain ⟨hnm, hn⟩ := srcOf_nodup hn
  obtain ⟨h1, h2⟩ := fold_get r vs (T.setIfInBounds t0 v) t hn (by simpa using hl) (fun q hq => by simpa using hlt q (by simp [hq]))
  refine ⟨fun hnot => ?_, fun k hk => ?_⟩
  ·rw [List.zip_cons_cons, List.foldl_cons, h1 (fun h => hnot (by simp [h]))]
   have : t0 ≠ t := fun e => hnot (by simp [e])
   simp [Array.getD_eq_getD_getElem?, Array.getElem?_setIfInBounds_ne this]
  ·rw [List.zip_cons_cons, List.foldl_cons]
   cases k with
   | zero =>
    simp at hk; subst hk
    rw [h1 hnm]
    have := hlt t0 (by simp)
    simp [Array.getD_eq_getD_getElem?, this]
   | succ k => rw [h2 k (by simpa using hk)]; rfl
theorem MRel.rd {B : Beg} {G : Gh} {m : Mem} {w : World} (h : MRel P B G m w) (k : Nat) (x : Option Nat) : MRel P { B with nt := k, rd := x } G m w :=
 ⟨h.objs, h.inj, h.wr, h.lt, h.ltS, h.new, h.grow, h.kept, h.s0, h.s1, h.outs, h.io, h.tab⟩
theorem res_fin {To : Tm} (Vo : Vw To) (hrk : To.rk = [0]) {yv : Vo.Y} {w : World} {S : Nat → Prop} {ω : Nat → Nat} {bs : List A1} {gv : Nat → Prop} {G : Gh} {m : Mem} {b : Bool} {w' : World} {rd : Option Nat} (hd : Vo.dec ⟨[(0, one (.bool b))], m⟩ = some yv)
  (hM : MRel P ⟨w, S, ω, bs.length, 1, rd, gv⟩ G m w') :
  ∃ G', MRel P (begOf w S ω bs.length gv) G' (memOf To (Vo.outT yv) ++ outM 0 bs) w' ∧ AVRel G' (memOf To (Vo.outT yv) ++ outM 0 bs) w' (resOf To (Vo.outT yv)) (.bool b) ∧
   ∀ j, j < bs.length → getM (memOf To (Vo.outT yv)) (.outer j) = none → w'.heap[ω j]? = w.heap[ω j]? := by
 obtain ⟨y, hdec, rfl⟩ : ∃ y, To.dec ⟨[(0, one (.bool b))], m⟩ = some y ∧ Vo.fromT y = yv := by
  unfold Vw.dec at hd
  split at hd
  ·rename_i t ht; cases hd; exact ⟨t, ht, rfl⟩
  ·cases hd
 rw [Vo.inv]
 have hw2 : WRel P ⟨w, S, ω, bs.length, 1, rd, gv⟩ G ⟨[(0, one (.bool b))], m⟩ { tmps := #[.bool b], defers := [] } w' := by
  refine ⟨fun t => ?_, rfl, Marks.nil, hM⟩
  simp only [getR, nat_beq]
  by_cases e : 0 = t
  ·subst e; simp [one, AVRel, A1Rel, CRel]
  ·simp only [e, decide_false, cond_false]; trivial
 obtain ⟨G2, hw3, hou, hlk⟩ := tm_sound hdec hw2
 have hpos : All2 (A1Rel G2 (To.enc y).mem w') ((encAs To.ts y).take To.rk.length) [.bool b] := by
  have htl : To.ts.length = To.rk.length + To.lk.length := by
   unfold Tm.dec at hdec
   split at hdec
   case h_2 => cases hdec
   rename_i ra rb hra hrb
   obtain ⟨_, hd⟩ := cond_some hdec
   rw [decAs_len hd, List.length_append, (gatR_get hra).1, (gatM_get hrb).1]
  have hn0 : To.rk.length = 1 := by rw [hrk]; rfl
  refine All2.of_get (by rw [List.length_take, encAs_len]; simp; omega) fun i a c ha hb2 => ?_
  have hi : i = 0 := by have := (List.getElem?_eq_some_iff.1 hb2).1; simp at this; exact this
  subst hi
  rw [List.getElem?_take, if_pos (by omega)] at ha
  have := hw3.regs 0
  have hg : getR (To.enc y).regs 0 = .a a := zipR_at (p := 0) (by rw [hrk]; simp) (by rw [hrk]; rfl) ha
  rw [hg] at this
  simp at hb2; subst hb2
  exact this
 have hv2 : AVRel G2 (To.enc y).mem w' (resOf To y) (.bool b) := by
  unfold resOf
  generalize (encAs To.ts y).take To.rk.length = q at hpos
  cases hpos with
  | cons h1 h2 => cases h2; exact h1
 have hgm : getM (To.enc y).mem = getM (memOf To y ++ outM 0 bs) := funext fun l => by
  rw [getM_append]
  show getM (To.enc y).mem l = match getM (To.enc y).mem l with | some o => some o | none => getM (outM 0 bs) l
  cases hg : getM (To.enc y).mem l with
  | some o => rfl
  | none =>
   cases l with
   | box t => exact (getM_outM_other _ _ _ (fun _ => by simp)).symm
   | own t => exact (getM_outM_other _ _ _ (fun _ => by simp)).symm
   | outer j =>
    rw [getM_outM0]
    cases hbj : bs[j]? with
    | none => rfl
    | some b =>
     obtain ⟨z, hz⟩ := hlk _ (hou j (List.getElem?_eq_some_iff.1 hbj).1)
     rw [hz] at hg; cases hg
 refine ⟨G2, (hw3.mem.rd 0 none).congr hgm, (Ext.same hgm).AV hv2, fun j hj hg => ?_⟩
 obtain ⟨z, hz⟩ := hlk _ (hou j hj)
 have hg : getM (To.enc y).mem (.outer j) = none := hg
 rw [hz] at hg; cases hg
theorem LpSt.set {x : X} {r : Loop} : LpSt (codeX x) { r with state := if (pendX x).isNone then .ready else .done, pending := pendX x } := by
 cases x with
 | nrm => exact ⟨fun _ => ⟨rfl, rfl⟩, (fun e => absurd e (by decide)), (fun e => absurd e (by decide))⟩
 | ret => exact ⟨(fun e => absurd e (by decide)), (fun e => absurd e (by decide)), fun _ => ⟨rfl, rfl⟩⟩
 | ext id =>
  refine ⟨fun e => ?_, fun e => ?_, fun _ => ⟨rfl, ?_⟩⟩
  ·simp only [codeX] at e; omega
  ·simp only [codeX] at e; omega
  ·show some (Code.exit id) = some (jumpOf ((id : Int) + 2))
   unfold jumpOf
   rw [if_neg (by omega), show ((id : Int) + 2 - 2).toNat = id by omega]
theorem yld_ok (hm : P.follows .mixedOrders = true) {calls : Nat → Option CallS} {orc : Nat → Option Orc} {n : Nat} (hE : EqOk P H) (hC : CallsOk P calls) {Y : Nat} (hY : Nat.blt Y yB = false) {g : Nat} {p ts ps : List Nat} {assign body : Code}
  (hcode : rngAt P g p = some (n, ps, assign, body)) (hO : ∀ q o d, orc q = some o → At (.seq assign body) q d → OrcOk P true n d o) {Ti To : Tm} (hrk : To.rk = [0]) {Vi : Vw Ti} {Vo : Vw To} {F : Vi.Y → Option Vo.Y}
  (hF : ∀ x y, F x = some y → yK P H calls orc n g p ts ps assign body Vo (Vi.enc x) = some y) : CallOk P Y (yldOf (ps.length + 1) Vi Vo F) := by
 intro R as bs gs k rr h
 simp only [yldOf] at h
 obtain ⟨hle, h⟩ := cond_some h
 have hle := Nat.eq_of_beq_eq_true hle
 split at h
 case h_2 => cases h
 rename_i x hx
 obtain ⟨yv, hy, h⟩ := andThen_some h
 refine ⟨_, _, h, ?_⟩
 clear h
 intro w S ω γ κ gv cargs hM hargs
 have hlen : cargs.length = ps.length + 1 := by rw [← hargs.length, hle]
 have hyk := hF x yv hy
 have hw0 : WRel P ⟨w, S, ω, bs.length, cargs.length, none, gv⟩ (ghOf S ω γ κ) ⟨numR 0 (as.map .a), outM 0 bs ++ gs⟩ { tmps := cargs.toArray, defers := [] } w := by
  refine ⟨fun t => ?_, by simp, Marks.nil, hM.nt _⟩
  show AVRel _ _ _ (getR (numR 0 (as.map .a)) t) _
  rw [numR_get, if_pos (Nat.zero_le _), Nat.sub_zero, List.getElem?_map]
  cases hat : as[t]? with
  | none => trivial
  | some v =>
   obtain ⟨u, hu, hr⟩ := hargs.get hat
   have : cargs.toArray.getD t undef = u := by rw [Array.getD_eq_getD_getElem?]; simp [hu]
   rw [this]; exact hr
 obtain ⟨G1, hw1⟩ := Vi.sound hx hw0
 generalize hs : Vi.enc x = s at hyk hw1
 unfold yK at hyk
 split at hyk
 case h_2 => cases hyk
 rename_i j room hptr
 split at hyk
 case h_2 => cases hyk
 rename_i g' p' ts' st cs hlp
 obtain ⟨hcnd, hyk1⟩ := cond_some hyk
 clear hyk
 simp only [Bool.and_eq_true] at hcnd
 obtain ⟨⟨⟨⟨e1, e2⟩, e3⟩, e4⟩, e5⟩ := hcnd
 have e1 := Nat.eq_of_beq_eq_true e1
 have e2 := eqL_eq e2
 have e3 := eqL_eq e3
 subst e1; subst e2; subst e3
 obtain ⟨hst, hyk⟩ := ite_some hyk1
 clear hyk1
 have hst : st = 0 := by simpa using hst
 subst hst
 have hβ : ∀ {G : Gh} {m : Mem} {B : Beg} {w' : World} {v : A1}, MRel P B G m w' → B.ω = ω → getM m (.outer j) = some (.bx v) → G.β (.outer j) = ω j := fun hM' hω hg => by
  rcases hM'.new (.outer j) (by unfold Real; rw [hg]; trivial) with ⟨j', e, _, e2⟩ | ⟨hno, _⟩
  ·cases e; rw [e2, hω]
  ·exact absurd rfl (hno j)
 obtain ⟨r, n', ps', q1, q2, q3, q4, q5, q6⟩ := lp_at hw1.mem hlp
 rw [hcode] at q1
 simp only [Option.some.injEq, Prod.mk.injEq] at q1
 obtain ⟨rfl, rfl, rfl, rfl⟩ := q1
 have hb1 := hβ hw1.mem rfl hlp
 rw [hb1] at q3
 have hpv := asC_rel (hw1.regs ps.length)
 rw [hptr] at hpv
 obtain ⟨_, hpv⟩ := hpv
 rw [hb1] at hpv
 have hgetc : ∀ i, cargs.toArray.getD i undef = (cargs[i]?).getD undef := fun i => by rw [Array.getD_eq_getD_getElem?]; simp
 have hcargs : cargs = cargs.take ps.length ++ [.pointer (some ⟨ω j, 0, none⟩)] := by
  have h1 := (List.take_append_drop ps.length cargs).symm
  have h2 : cargs.drop ps.length = [.pointer (some ⟨ω j, 0, none⟩)] := by
   have hi : ps.length < cargs.length := by omega
   have hv : cargs[ps.length] = .pointer (some ⟨ω j, 0, none⟩) := by
    have h3 : cargs.toArray.getD ps.length undef = .pointer (some ⟨ω j, 0, none⟩) := hpv
    rw [hgetc, List.getElem?_eq_getElem hi] at h3
    exact h3
   rw [List.drop_eq_getElem_cons hi, hv, List.drop_of_length_le (by omega)]
  rw [h2] at h1; exact h1
 rw [Goes, if_neg (by intro h; have := Nat.blt_eq.symm ▸ h; rw [hY] at this; cases this)]
 have hrl : (cargs.take ps.length).length = ps.length := by simp; omega
 have hpl : r.params.toList.length = r.params.size := by simp
 have hrun := run_yield (P := P) (l := ω j) (args := (cargs.take ps.length).toArray) q3 (by rw [← hpl, q2]; simpa using hrl)
 generalize hT : (r.params.zip (cargs.take ps.length).toArray).foldl (fun tmps (x : Nat × Value) => tmps.setIfInBounds x.1 x.2) r.tmps = T at hrun
 have hT' : (ps.zip (cargs.take ps.length)).foldl (fun tmps (x : Nat × Value) => tmps.setIfInBounds x.1 x.2) r.tmps = T := by
  rw [← hT, ← Array.foldl_toList, Array.toList_zip, q2]
 refine ⟨ω j, cargs.take ps.length, r.fn, T, r.assign, r.body, hcargs, hrun, ?_⟩
 have hTs : T.size = r.tmps.size := by rw [← hT', foldl_size]
 have hps : ∀ q ∈ ps, q < r.tmps.size := fun q hq => by
  have := List.all_eq_true.1 e5 q hq
  rw [q4]; exact of_blt this
 obtain ⟨B1, hB1⟩ : ∃ B1 : Beg, B1 = ⟨w, S, ω, bs.length, r.tmps.size, some (ω j), gv⟩ := ⟨_, rfl⟩
 have hw2 : WRel P B1 G1 ⟨argP s 0 ps ++ keepP ts' cs, s.mem⟩ { tmps := T, defers := [] } w := by
  subst hB1
  refine ⟨fun t => ?_, hTs, Marks.nil, hw1.mem.rd _ _⟩
  obtain ⟨f1, f2⟩ := fold_get ps (cargs.take ps.length) r.tmps t e4 hrl.symm hps
  rw [hT'] at f1 f2
  rcases argP_get (s := s) (keepP ts' cs) ps 0 t with ⟨h1, h2⟩ | ⟨k, h1, h2⟩
  ·show AVRel G1 s.mem w (getR (argP s 0 ps ++ keepP ts' cs) t) (T.getD t undef)
   rw [h1, f1 h2]
   exact keepP_rel q6 t
  ·show AVRel G1 s.mem w (getR (argP s 0 ps ++ keepP ts' cs) t) (T.getD t undef)
   rw [h2, f2 k h1, Nat.zero_add]
   have hk : k < ps.length := (List.getElem?_eq_some_iff.1 h1).1
   have h3 := hw1.regs k
   have h4 : cargs.toArray.getD k undef = (cargs.take ps.length).getD k undef := by
    rw [hgetc, List.getD_eq_getElem?_getD, List.getElem?_take, if_pos hk]
   have h3 : AVRel G1 s.mem w (getR s.regs k) (cargs.toArray.getD k undef) := h3
   rw [h4] at h3; exact h3
 have hB1n : B1.nt = n := by rw [hB1]; exact q4
 have hB1r : B1.rd.isSome = true := by rw [hB1]; rfl
 have hB1f : fw B1.rd = (fw none).inRound (ω j) := by rw [hB1]; rfl
 have hB1ω : B1.ω = ω := by rw [hB1]
 obtain ⟨x1, s1, hk1, hr1⟩ := codeK_sound (rb := true) hm hE hC hO r.assign 2 _ _ _ (.seqL .root) hyk
 split at hk1
 case h_2 => cases hk1
 split at hk1
 case h_2 => cases hk1
 rename_i g1 p1 ts1 st1 cs1 hlp1
 obtain ⟨hst1, hk1⟩ := ite_some hk1
 have hst1 : st1 = 0 := by simpa using hst1
 subst hst1
 obtain ⟨x2, s2, hk2, hr2⟩ := codeK_sound (rb := true) hm hE hC hO r.body 3 _ _ _ (.seqR .root) hk1
 split at hk2
 case h_2 => cases hk2
 rename_i g2 p2 ts2 st2 cs2 hlp2
 refine roundIn_of_wpIn (F := fw none) trivial ?_
 rw [← hB1f]
 refine hr1 B1 G1 _ w _ hB1n hB1r hw2 fun G3 a3 w3 hw3 => ?_
 show ∃ w₂, _ ∧ _
 obtain ⟨r3, n3, ps3, t1, t2, t3, t4, t5, t6⟩ := lp_at hw3.mem hlp1
 have hb3 := hβ hw3.mem hB1ω hlp1
 have t3' := t3
 rw [hb3] at t3
 refine ⟨_, run_beginRound t3 (t5.1 rfl).1, ?_⟩
 have hw4 := hw3.lpSet (st' := -1) (r' := { r3 with state := .busy }) hlp1 t3' rfl rfl rfl rfl ⟨(fun e => absurd e (by decide)), fun _ => rfl, (fun e => absurd e (by decide))⟩
 rw [hb3] at hw4
 refine hr2 B1 G3 a3 _ _ hB1n hB1r hw4 fun G5 a5 w5 hw5 => ?_
 obtain ⟨r5, n5, ps5, u1, u2, u3, u4, u5, u6⟩ := lp_at hw5.mem hlp2
 have hb5 := hβ hw5.mem hB1ω hlp2
 have hw6 := hw5.lpSet (st' := codeX x2) (r' := { r5 with state := if (pendX x2).isNone then .ready else .done, pending := pendX x2 }) hlp2 u3 rfl rfl rfl rfl LpSt.set
 rw [hb5] at hw6 u3
 have hend := run_endRound (P := P) (pendX x2) u3
 have hM6 := hw6.mem.rd 1 (some (ω j))
 rw [hB1] at hM6
 generalize w5.putObj (ω j) (.loop { r5 with state := if (pendX x2).isNone then .ready else .done, pending := pendX x2 }) = w6 at hend hM6
 have key : ∀ b : Bool, Vo.dec ⟨[(0, one (.bool b))], (.outer j, .bx (.lp g2 p2 ts2 (.int .i64 (codeX x2) :: cs2))) :: s2.mem⟩ = some yv → ∃ v G', Ending.returned (.bool b) = .returned v ∧ MRel P (begOf w S ω bs.length gv) G' (memOf To (Vo.outT yv) ++ outM 0 bs) w6 ∧ AVRel G' (memOf To (Vo.outT yv) ++ outM 0 bs) w6 (resOf To (Vo.outT yv)) v ∧
   ∀ j, j < bs.length → getM (memOf To (Vo.outT yv)) (.outer j) = none → w6.heap[ω j]? = w.heap[ω j]? := fun b hd => by
  obtain ⟨G', k1, k2, k3⟩ := res_fin Vo hrk hd hM6
  exact ⟨_, G', rfl, k1, k2, k3⟩
 cases x2 with
 | nrm => exact ⟨_, _, hend, key true hk2⟩
 | ret => exact ⟨_, _, hend, key false hk2⟩
 | ext id => exact ⟨_, _, hend, key false hk2⟩
end Go.Al
