/- Reads: elements, slices, lengths, functions. -/
import Derived.Test.YtcgmelealalhhaaGreatDoorAlOp4
namespace Go.Al
variable {P : Program} {H : Hint}
section
variable {R : Type} {calls : Nat → Option CallS} {ρ : Operand → AV} {μ : Loc → Option Obj} {o : Oper} {k : Eff → Option R} {r : R}
theorem asInt_rel {G : Gh} {m : Mem} {w : World} {x : AV} {v : Value} {n : Int} (h : AVRel G m w x v) (e : asInt (asC x) = some n) : ∃ k, v = .int k n := by
 have h := asC_rel h
 cases hc : asC x <;> rw [hc] at e h <;> simp [asInt] at e
 subst e; exact ⟨_, h⟩
theorem in_range {i : Int} {n : Nat} (h : (decide (0 ≤ i) && decide (i < (n : Int))) = true) : 0 ≤ i ∧ i < (n : Int) := by simpa using h
theorem run_indexAt_slice {ty e n : Nat} (hu : P.underlying ty = some (.slice e)) (hs : sizeT P e = some n) (w : World) (ad : Option Addr) (len cap : Nat) (k : IntKind) (i : Int) (b oo : Nat)
  (h0 : 0 ≤ i) (h1 : i < (len : Int)) (had : ad = some ⟨b, oo, none⟩) : (Instr.indexAt ty (.slice ad len cap) (.int k i)).run P w = .ok (.pointer (some ⟨b, oo + i.toNat * n, none⟩)) w := by
 obtain ⟨inf, hi, hz⟩ := sizeT_some hs
 subst had
 simp [Instr.indexAt, asIntOf, run_underlying hu, h0, h1, sizeOf, typeInfo, hi, hz, Addr.add_mk]
theorem run_indexAt_array {ty e n len : Nat} (hu : P.underlying ty = some (.array len e)) (hs : sizeT P e = some n) (w : World) (k : IntKind) (i : Int) (b oo : Nat)
  (h0 : 0 ≤ i) (h1 : i < (len : Int)) : (Instr.indexAt ty (.pointer (some ⟨b, oo, none⟩)) (.int k i)).run P w = .ok (.pointer (some ⟨b, oo + i.toNat * n, none⟩)) w := by
 obtain ⟨inf, hi, hz⟩ := sizeT_some hs
 simp [Instr.indexAt, asIntOf, run_underlying hu, Instr.sureAddr, h0, h1, sizeOf, typeInfo, hi, hz, Addr.add_mk]
theorem getD_lt {α : Type} {xs : List α} {d : α} {i : Nat} (h : i < xs.length) : List.getD xs i d = xs[i] := by simp [List.getD, List.getElem?_eq_getElem h]
theorem pickN_some {i : Nat} {k : Nat → Option R} {r : R} : ∀ {f j : Nat}, pickN i k f j = some r → k i = some r
 | 0, _, h => by cases h
 | f + 1, j, h => by
  simp only [pickN] at h
  split at h
  ·rename_i e; rw [Nat.eq_of_beq_eq_true e]; exact h
  ·exact pickN_some h
theorem op_tab {ty : Nat} {x ix : Operand} {kk : IntKind} {l : List Int} {i : Int} (ho : o.op = .indexAddr ty x ix) (hi : asInt (asC (ρ ix)) = some i) (hx : tabX x = some (kk, l)) (h : tabK P ty kk l i k = some r) : ∃ e, k e = some r ∧ Sound P o ρ μ e := by
 have hops : o.op.operands = #[x, ix] := by rw [ho]; rfl
 obtain ⟨g, rfl, ht⟩ : ∃ g, x = .global g ∧ tabOf g = some (kk, l) := by
  cases x <;> simp only [tabX] at hx <;> first | (cases hx; done) | exact ⟨_, rfl, hx⟩
 unfold tabK at h
 split at h
 case h_2 => cases h
 rename_i len e hu
 split at h
 case h_2 => cases h
 rename_i n hs
 obtain ⟨hb, h2⟩ := cond_some h
 clear h
 simp only [Bool.and_eq_true] at hb
 have hn1 := Nat.eq_of_beq_eq_true hb.1
 have hlen := Nat.eq_of_beq_eq_true hb.2
 subst hn1
 obtain ⟨hr, h⟩ := ite_some h2
 obtain ⟨h0, h1⟩ := in_range hr
 refine ⟨_, h, fun s hρ hμ => SemO.val fun B G a w hw => ?_⟩
 obtain ⟨kk', hk⟩ : ∃ kk', a.eval ix = .int kk' i := by
  have e := hw.ev ix
  rw [hρ ix (by rw [hops]; simp)] at e
  exact asInt_rel e hi
 obtain ⟨q1, q2⟩ := hw.mem.tab g kk l ht
 have hv : a.eval (.global g) = .pointer (some ⟨g, 0, none⟩) := rfl
 have hi' : i.toNat < l.length := by omega
 refine ⟨_, by simp only [execOp, ho, hk, hv, Sem.run_bind, run_indexAt_array hu hs w kk' i _ _ h0 h1]; rfl, g, i.toNat, [.int kk (List.getD l i.toNat (0 : Int))], by simp, q1, rfl, fun j v hj => ?_⟩
 have hj0 : j = 0 := by
  have := (List.getElem?_eq_some_iff.1 hj).1
  simp at this; exact this
 subst hj0
 simp at hj
 subst hj
 have := q2 i.toNat (.int kk (List.getD l i.toNat (0 : Int))) (by simp [List.getD_eq_getElem?_getD, hi'])
 simpa using this
theorem op_indexAddr {ty : Nat} {x ix : Operand} (ho : o.op = .indexAddr ty x ix) (h : opK P H calls ρ μ o k = some r) : ∃ e, k e = some r ∧ Sound P o ρ μ e := by
 simp only [opK, ho] at h
 have hops : o.op.operands = #[x, ix] := by rw [ho]; rfl
 split at h
 case h_1 => cases h
 rename_i i hi
 split at h
 ·rename_i kk l hx
  exact op_tab ho hi hx h
 have hidx : ∀ {B : Beg} {G : Gh} {s : St} {a : Act} {w : World}, WRel P B G s a w → (∀ y ∈ o.op.operands, ev s y = ρ y) → ∃ kk, a.eval ix = .int kk i := fun hw hρ => by
  have e := hw.ev ix
  rw [hρ ix (by rw [hops]; simp)] at e
  exact asInt_rel e hi
 split at h
 ·rename_i len e hu
  split at h
  case h_3 => cases h
  case h_2 =>
   rename_i n τ y off hs hx
   obtain ⟨hr, h⟩ := ite_some h
   have h := pickN_some h
   obtain ⟨h0, h1⟩ := in_range hr
   refine ⟨_, h, fun s hρ hμ => SemO.val fun B G a w hw => ?_⟩
   obtain ⟨kk, hk⟩ := hidx hw hρ
   have ex := asC_rel (hw.ev x)
   rw [hρ x (by rw [hops]; simp), hx] at ex
   obtain ⟨b, oo, us, e2, q1, q2, q3⟩ := ex
   exact ⟨_, by simp only [execOp, ho, hk, e2, Sem.run_bind, run_indexAt_array hu hs w kk i _ _ h0 h1]; rfl, b, oo, us, by rw [Nat.add_assoc], q1, q2, q3⟩
  rename_i n l off room hs hx
  obtain ⟨hb, h⟩ := cond_some h
  have hb := Nat.le_of_ble_eq_true hb
  obtain ⟨hr, h⟩ := ite_some h
  have h : k (ret (one (.ptr l (off + i.toNat * n) n))) = some r := by
   split at h
   ·exact pickN_some h
   ·exact h
  obtain ⟨h0, h1⟩ := in_range hr
  refine ⟨_, h, fun s hρ hμ => SemO.val fun B G a w hw => ?_⟩
  obtain ⟨kk, hk⟩ := hidx hw hρ
  have ex := asC_rel (hw.ev x)
  rw [hρ x (by rw [hops]; simp), hx] at ex
  obtain ⟨e1, e2⟩ := ex
  refine ⟨_, by simp only [execOp, ho, hk, e2, Sem.run_bind, run_indexAt_array hu hs w kk i _ _ h0 h1]; rfl, ?_, rfl⟩
  split at e1
  ·rename_i y hy
   show off + i.toNat * n + n ≤ nA y
   have : i.toNat * n + n ≤ len * n := by
    have : i.toNat + 1 ≤ len := by omega
    calc i.toNat * n + n = (i.toNat + 1) * n := by rw [Nat.add_mul, Nat.one_mul]
     _ ≤ len * n := Nat.mul_le_mul_right n this
   omega
  ·trivial
  ·exact e1.elim
 ·rename_i e hu
  split at h
  ·rename_i n τ xs nl ex' hs hx
   obtain ⟨hb, h⟩ := cond_some h
   have hb := Nat.eq_of_beq_eq_true hb
   obtain ⟨hr, h⟩ := ite_some h
   obtain ⟨h0, h1⟩ := in_range hr
   refine ⟨_, h, fun s hρ hμ => SemO.val fun B G a w hw => ?_⟩
   obtain ⟨kk, hk⟩ := hidx hw hρ
   have ex := asC_rel (hw.ev x)
   rw [hρ x (by rw [hops]; simp), hx] at ex
   obtain ⟨ad, c, ev', hc, hrow, _⟩ := ex
   have hlt : i.toNat < xs.length := by omega
   obtain ⟨b, oo, us, had, hS, hrep, hcell⟩ := hrow i.toNat hlt
   refine ⟨_, by simp only [execOp, ho, hk, ev', Sem.run_bind, run_indexAt_slice hu hs w ad _ _ kk i b oo h0 h1 had]; rfl, b, oo + i.toNat * n, us, by rw [Nat.add_zero], hS, ?_, ?_⟩
   ·rw [getD_lt hlt]; exact hrep
   ·rw [← hb]; exact hcell
  ·rename_i n j hs hx
   split at h
   case h_2 => cases h
   rename_i τ xs fr hm0
   obtain ⟨hb, h⟩ := cond_some h
   have hb := Nat.eq_of_beq_eq_true hb
   obtain ⟨hr, h⟩ := ite_some h
   obtain ⟨h0, h1⟩ := in_range hr
   refine ⟨_, h, fun s hρ hμ => SemO.val fun B G a w hw => ?_⟩
   obtain ⟨kk, hk⟩ := hidx hw hρ
   have ex := asC_rel (hw.ev x)
   rw [hρ x (by rw [hops]; simp), hx] at ex
   have hm : getM s.mem (.own j) = some (.sl τ xs fr) := by rw [hμ _ (by simp)]; exact hm0
   simp only [CRel, hm] at ex
   obtain ⟨ad, ev', had⟩ := ex
   have hlt : i.toNat < xs.length := by omega
   obtain ⟨j', e', hcap, _⟩ := hw.mem.objs _ _ hm
   cases e'
   have had := had.1.resolve_right fun q => by omega
   refine ⟨_, by simp only [execOp, ho, hk, ev', Sem.run_bind, run_indexAt_slice hu hs w ad _ _ kk i _ 0 h0 h1 had]; rfl, show CRel G s.mem w (.pel j i.toNat 0) _ from ?_⟩
   simp only [CRel, hm]
   exact ⟨hlt, by rw [hb]; simp⟩
  ·cases h
 ·cases h
theorem atomsC_rel {G : Gh} {m : Mem} {w : World} {l : List C} {vs : List Value} (hr : All2 (CRel G m w) l vs) {y : A1} (h : atomsC l = some y) : CsRel G m w y vs ∧ ∃ τ n xs, y = .arr τ n xs ∧ n = l.length := by
 have int : ∀ (k : IntKind) (n : Nat) (l : List C) (xs : List Int) (vs : List Value), All2 (CRel G m w) l vs → dcRow (.int k) n l = some xs → xs.length = n ∧ l.length = n ∧ All2 (CRel G m w) (arrC (.int k) xs) vs := fun k n => by
  induction n with
  | zero =>
   intro l xs vs hr h
   cases l with
   | nil => simp [dcRow] at h; subst h; cases hr; exact ⟨rfl, rfl, .nil⟩
   | cons _ _ => simp [dcRow] at h
  | succ n ih =>
   intro l xs vs hr h
   cases hr with
   | nil => simp [dcRow, dcs, dcOne] at h
   | cons h1 h2 =>
    rename_i c v l' vs'
    simp only [dcRow, dcs, dcOne] at h
    cases hd : dc1 (.int k) c with
    | none => rw [hd] at h; cases h
    | some q =>
     rw [hd] at h
     simp only at h
     cases hq : dcRow (.int k) n l' with
     | none => rw [hq] at h; cases h
     | some ys =>
      rw [hq] at h; cases h
      obtain ⟨e1, e2, e3⟩ := ih _ _ _ h2 hq
      refine ⟨by simp [e1], by simp [e2], .cons ?_ e3⟩
      cases c <;> simp [dc1] at hd
      obtain ⟨rfl, rfl⟩ := hd
      exact h1
 have bool : ∀ (n : Nat) (l : List C) (xs : List Bool) (vs : List Value), All2 (CRel G m w) l vs → dcRow .bool n l = some xs → xs.length = n ∧ l.length = n ∧ All2 (CRel G m w) (arrC .bool xs) vs := fun n => by
  induction n with
  | zero =>
   intro l xs vs hr h
   cases l with
   | nil => simp [dcRow] at h; subst h; cases hr; exact ⟨rfl, rfl, .nil⟩
   | cons _ _ => simp [dcRow] at h
  | succ n ih =>
   intro l xs vs hr h
   cases hr with
   | nil => simp [dcRow, dcs, dcOne] at h
   | cons h1 h2 =>
    rename_i c v l' vs'
    simp only [dcRow, dcs, dcOne] at h
    cases hd : dc1 .bool c with
    | none => rw [hd] at h; cases h
    | some q =>
     rw [hd] at h
     simp only at h
     cases hq : dcRow .bool n l' with
     | none => rw [hq] at h; cases h
     | some ys =>
      rw [hq] at h; cases h
      obtain ⟨e1, e2, e3⟩ := ih _ _ _ h2 hq
      refine ⟨by simp [e1], by simp [e2], .cons ?_ e3⟩
      cases c <;> simp [dc1] at hd
      subst hd
      exact h1
 unfold atomsC at h
 split at h
 ·rename_i k n r
  split at h
  ·rename_i xs hx
   cases h
   obtain ⟨e1, e2, e3⟩ := int k _ _ _ _ hr hx
   exact ⟨⟨rfl, e1, e3⟩, _, _, _, rfl, e2.symm⟩
  ·cases h
 ·rename_i b r
  split at h
  ·rename_i xs hx
   cases h
   obtain ⟨e1, e2, e3⟩ := bool _ _ _ _ hr hx
   exact ⟨⟨rfl, e1, e3⟩, _, _, _, rfl, e2.symm⟩
  ·cases h
 ·cases h
theorem op_index {ty : Nat} {x ix : Operand} (ho : o.op = .index ty x ix) (h : opK P H calls ρ μ o k = some r) : ∃ e, k e = some r ∧ Sound P o ρ μ e := by
 simp only [opK, ho] at h
 have hops : o.op.operands = #[x, ix] := by rw [ho]; rfl
 split at h
 case h_2 => cases h
 rename_i i len e v hi hu hx
 split at h
 case h_3 => cases h
 case h_2 =>
  rename_i τ N xs n hm hs hag
  obtain ⟨hr, h⟩ := ite_some h
  obtain ⟨h0, h1⟩ := in_range hr
  obtain ⟨hN, h⟩ := cond_some h
  simp only [Bool.and_eq_true] at hN
  have hN1 := Nat.eq_of_beq_eq_true hN.1
  have hN2 := Nat.le_of_ble_eq_true hN.2
  split at h
  case h_2 => cases h
  rename_i v' hv'
  have hrel : ∀ G m w u, A1Rel G m w v u → ∃ vs, u = .agg vs.toArray ∧ CsRel G m w (.arr τ N xs) vs := fun G m w u hu => by
   cases v with
   | one c => cases hm
   | agg l => obtain ⟨vs, e, hall⟩ := hu; exact ⟨vs, e, (atomsC_rel hall hm).1⟩
   | arr τ' n' xs' => cases hm; obtain ⟨vs, e, h1, h2, h3⟩ := hu; exact ⟨vs, e, h1, h2, h3⟩
   | lp => cases hm
   | mp => cases hm
  refine ⟨_, h, fun s hρ hμ => SemO.val fun B G a w hw => ?_⟩
  have e1 := hw.ev ix
  rw [hρ ix (by rw [hops]; simp)] at e1
  obtain ⟨kk, e1⟩ := asInt_rel e1 hi
  have e2 := hw.ev x
  rw [hρ x (by rw [hops]; simp), hx] at e2
  obtain ⟨vs, e2, hvs⟩ := hrel _ _ _ _ e2
  have hlt : i.toNat < len := by omega
  have hle : (i.toNat + 1) * n ≤ len * n := Nat.mul_le_mul_right _ hlt
  rw [Nat.add_mul, Nat.one_mul] at hle
  obtain ⟨hx2, _⟩ := takeCells_rel hvs (fun τ' N' xs' e => by cases e; exact ⟨by omega, hN2⟩) hv'
  obtain ⟨hl, hxr⟩ := hx2 rfl
  obtain ⟨inf, hinf, hz⟩ := sizeT_some hs
  obtain ⟨d, hd, hrow⟩ := aggT_row hag
  refine ⟨_, ?_, hxr⟩
  have hagg : ∀ w, (isAgg e).run P w = .ok true w := fun w => by
   unfold isAgg
   rw [Sem.run_bind, run_underlying hd]
   cases d <;> simp [TypeDesc.isRow] at hrow <;> rfl
  simp only [execOp, ho, e1, e2, Sem.run_bind, Instr.index, asIntOf]
  simp only [Sem.run_pure, Result.andThen_ok, run_underlying hu]
  simp [h0, h1, sizeOf, typeInfo, hinf, hz, part, Sem.run_bind, hagg]
 rename_i τ N xs hm hs hag
 obtain ⟨hr, h⟩ := ite_some h
 obtain ⟨h0, h1⟩ := in_range hr
 obtain ⟨hN, h⟩ := cond_some h
 have hN := Nat.eq_of_beq_eq_true hN
 have hrel : ∀ G m w u, A1Rel G m w v u → ∃ vs, u = .agg vs.toArray ∧ CsRel G m w (.arr τ N xs) vs := fun G m w u hu => by
  cases v with
  | one c => cases hm
  | agg l => obtain ⟨vs, e, hall⟩ := hu; exact ⟨vs, e, (atomsC_rel hall hm).1⟩
  | arr τ' n' xs' => cases hm; obtain ⟨vs, e, h1, h2, h3⟩ := hu; exact ⟨vs, e, h1, h2, h3⟩
  | lp => cases hm
  | mp => cases hm
 have fin : ∀ (c : C), (∀ (G : Gh) (m : Mem) (w : World) (vs : List Value), CsRel G m w (.arr τ N xs) vs → ∃ q, vs[i.toNat]? = some q ∧ CRel G m w c q) →
   k (ret (one c)) = some r → ∃ e, k e = some r ∧ Sound P o ρ μ e := fun c hc hk => by
  refine ⟨_, hk, fun s hρ hμ => SemO.val fun B G a w hw => ?_⟩
  have e1 := hw.ev ix
  rw [hρ ix (by rw [hops]; simp)] at e1
  obtain ⟨kk, e1⟩ := asInt_rel e1 hi
  have e2 := hw.ev x
  rw [hρ x (by rw [hops]; simp), hx] at e2
  obtain ⟨vs, e2, hvs⟩ := hrel _ _ _ _ e2
  obtain ⟨q, hq, hqr⟩ := hc G s.mem w vs hvs
  obtain ⟨inf, hinf, hz⟩ := sizeT_some hs
  refine ⟨q, ?_, hqr⟩
  simp only [execOp, ho, e1, e2, Sem.run_bind, Instr.index, asIntOf]
  simp only [Sem.run_pure, Result.andThen_ok, run_underlying hu]
  simp [h0, h1, sizeOf, typeInfo, hinf, hz, part, Sem.run_bind, aggT_one hag, hq]
 split at h
 ·rename_i a xs
  exact fin _ (fun G m w vs hv => by
   obtain ⟨_, hl, hall⟩ := hv
   exact ⟨_, arrI_get hall (by omega), rfl⟩) h
 ·rename_i xs
  exact fin _ (fun G m w vs hv => by
   obtain ⟨_, hl, hall⟩ := hv
   exact ⟨_, arrB_get hall (by omega), rfl⟩) h
 ·cases h
theorem op_makeFunc {f : Nat} {first caps : Array Operand} (ho : o.op = .makeFunc (.func f) first caps) (hf : (first.isEmpty && Nat.blt f yB) = true) (h : opK P H calls ρ μ o k = some r) : ∃ e, k e = some r ∧ Sound P o ρ μ e := by
 simp only [opK, ho] at h
 have hops : o.op.operands = first ++ caps := by rw [ho]; rfl
 rw [hf, cond_true] at h
 obtain ⟨hall, h2⟩ := cond_some h
 clear h
 rw [Bool.and_eq_true] at hf
 obtain ⟨hf, hfy⟩ := hf
 have hfy := of_blt hfy
 have hf : first = #[] := by simpa using hf
 subst hf
 refine ⟨_, h2, fun s hρ hμ => SemO.val fun B G a w hw => ?_⟩
 have key : ∀ l : List Operand, (∀ y ∈ l, ev s y = ρ y) → ((l.map fun x => capLoc (asC (ρ x))).all (·.isSome)) = true →
   (∀ q ∈ (l.map fun x => capLoc (asC (ρ x))).filterMap id, (∃ x, getM s.mem q = some (.bx x)) ∨ getM s.mem q = some .dead) ∧
   l.map a.eval = ptrs G ((l.map fun x => capLoc (asC (ρ x))).filterMap id) := fun l => by
  induction l with
  | nil => intro _ _; exact ⟨fun q hq => by simp at hq, rfl⟩
  | cons y l ih =>
   intro he ha
   simp only [List.map_cons, List.all_cons, Bool.and_eq_true] at ha
   obtain ⟨i1, i2⟩ := ih (fun z hz => he z (by simp [hz])) ha.2
   have ey := asC_rel (hw.ev y)
   rw [he y (by simp)] at ey
   obtain ⟨q, hq⟩ := Option.isSome_iff_exists.1 ha.1
   have hp : ∃ n, asC (ρ y) = .ptr q 0 n := by
    cases hc : asC (ρ y) <;> rw [hc] at hq <;> simp only [capLoc] at hq <;> first | (cases hq; done) | skip
    rename_i l off n
    obtain ⟨h0, h1⟩ := cond_some hq
    have h0 := Nat.eq_of_beq_eq_true h0
    cases h1; subst h0; exact ⟨n, rfl⟩
   obtain ⟨n, hp⟩ := hp
   rw [hp] at ey
   obtain ⟨e1, e2⟩ := ey
   refine ⟨fun z hz => ?_, ?_⟩
   ·simp only [List.map_cons, hq, List.filterMap_cons, id] at hz
    rcases List.mem_cons.1 hz with rfl | hz
    ·split at e1
     ·exact .inl ⟨_, ‹_›⟩
     ·exact .inr ‹_›
     ·exact e1.elim
    ·exact i1 z hz
   ·simp only [List.map_cons, hq, List.filterMap_cons, id, ptrs]
    rw [e2, i2]; rfl
 obtain ⟨k1, k2⟩ := key caps.toList (fun y hy => hρ y (by rw [hops]; simpa using hy)) hall
 refine ⟨.func (.func f) #[] (caps.map a.eval), by simp [execOp, ho, Instr.makeFunc], k1, ?_⟩
 rw [fnV_lt hfy]
 congr 1
 rw [← k2]
 apply Array.ext'
 simp
end
end Go.Al
