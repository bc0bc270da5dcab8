/- A method with its receiver, as a value; make of a slice. -/
import Derived.Test.YtcgmelealalhhaaGreatDoorAlOp11
import Derived.Test.YtcgmelealalhhaaGreatDoorAlCall5
import Derived.Laws.MakeOwn
namespace Go.Al
variable {P : Program} {H : Hint}
theorem flat_row {z : List Value} : ∀ (K j : Nat), j < K → (((List.replicate K z).flatten).drop (j * z.length)).take z.length = z
 | 0, j, h => by omega
 | K + 1, 0, _ => by simp [List.replicate_succ]
 | K + 1, j + 1, h => by
  rw [List.replicate_succ, List.flatten_cons, Nat.add_mul, Nat.one_mul, Nat.add_comm, ← List.drop_drop, List.drop_left]
  exact flat_row K j (by omega)
section
variable {R : Type} {calls : Nat → Option CallS} {ρ : Operand → AV} {μ : Loc → Option Obj} {o : Oper} {k : Eff → Option R} {r : R}
theorem op_bound {f : Nat} {first caps : Array Operand} (ho : o.op = .makeFunc (.func f) first caps) (hf : (first.isEmpty && Nat.blt f yB) = false) (h : opK P H calls ρ μ o k = some r) : ∃ e, k e = some r ∧ Sound P o ρ μ e := by
 simp only [opK, ho] at h
 rw [hf, cond_false] at h
 obtain ⟨hc, h2⟩ := cond_some h
 clear h
 rw [Bool.and_eq_true] at hc
 have hcap : caps = #[] := by simpa using hc.1
 have hfy := of_blt hc.2
 split at h2
 case h_2 => cases h2
 rename_i x pt hx hpt
 split at h2
 case h_2 => cases h2
 rename_i τ v hty hxv
 split at h2
 case h_2 => cases h2
 rename_i l fl hl hfl
 split at h2
 case h_2 => cases h2
 rename_i y hy
 have hfirst : first = #[x] := Array.ext' (by simpa using hx)
 subst hfirst
 subst hcap
 have hops : o.op.operands = #[x] := by rw [ho]; simp [Op.operands]
 refine ⟨_, h2, fun s hρ hμ => SemO.of fun B G a w hw => ?_⟩
 have hown : ∀ i ∈ ownsOf l, getM s.mem (.own i) = μ (.own i) := fun i hi => hμ _ (by simp [ownLs_mem hi])
 have ex := hw.ev x
 rw [hρ x (by rw [hops]; simp), hxv] at ex
 have hl' : cells (getM s.mem) v = some l := cells_congr hl fun i hi => (hown i hi).symm
 obtain ⟨hall, _, _⟩ := cells_rel hl' ex
 obtain ⟨G', hM, hE, hS⟩ := hw.mem.frz (ownsOf l)
 have hfz : freeze μ (ownsOf l) = freeze (getM s.mem) (ownsOf l) := freeze_congr fun i hi => (hown i hi).symm
 have hrs : l.map (resolve μ) = l.map (resolve (getM s.mem)) := resolves_congr fun i hi => (hown i hi).symm
 rw [hrs] at hy
 have hall' := resolve_all hw.mem hE hS hall
 have hrep := dcAll_rel hy hall'
 have hv : a.eval x = (if fl = true then Value.agg (a.eval x).cells.toList.toArray else (a.eval x).cells.toList.headD undef) := by
  cases v with
  | one c =>
   cases hfl
   have hc1 : alive (getM s.mem) c = true := by simp only [cells] at hl'; exact (cond_some hl').1
   simp [one_cells (alive_one hc1 ex)]
  | agg l2 => cases hfl; obtain ⟨vs, e, _⟩ := ex; simp [e, Value.cells]
  | arr τ2 n xs => cases hfl
  | lp => cases hfl
  | mp => cases hfl
 refine ⟨.func (.func f) #[a.eval x] #[], w, G', .inl ?_, by rw [hfz]; exact hM, by rw [hfz]; exact hE, ?_⟩
 ·simp [execOp, ho, Instr.makeFunc]
 ·rw [hfz]
  exact ⟨hfy, _, hrep, by rw [← hv]⟩
theorem op_callb {c : Call} {f : Operand} {g : Nat} {τ : Ty} {ag : Bool} {y : den τ} {cs : CallS} (ho : o.op = .call c) (hb : c.callee = .value f) (hf : asC (ρ f) = .fnb g τ ag y) (hcs : CallOk P g cs) (hen : g < yB → Enters P g)
  (h : callK cs (o.dst.getD 0) μ (recvA τ ag y :: c.args.toList.map ρ) k = some r) : ∃ e, k e = some r ∧ Sound P o ρ μ e := by
 obtain ⟨e, as, hargs, hk, hlocs, hS⟩ := callK_sound hcs h
 have hops : o.op.operands = #[f] ++ c.args := by rw [ho]; simp [Op.operands, Call.operands, hb]
 refine ⟨e, hk, fun s hρ hμ B G a w K Q hw hd hK => ?_⟩
 have hfv := asC_rel (hw.ev f)
 rw [hρ f (by rw [hops]; simp), hf] at hfv
 obtain ⟨hg, us, hrep, hv⟩ := hfv
 refine hS s hμ B G a w K Q ((if ag then .agg us.toArray else us.headD undef) :: c.args.toList.map a.eval) hw hd (All2.unA ?_) ?_ hK
 ·rw [← hargs]
  exact .cons (recvA_rel hrep) (ev_args hw fun z hz => hρ z (by rw [hops]; simp; exact .inr (by simpa using hz)))
 ·refine goes_enter hg ?_
  simp [execOp, ho, Go.resolve, hb, hv, Deferred.ofValue, invoke]
  rw [hen hg]
  congr 2
  apply Array.ext'
  simp
theorem op_makeSlice {ty : Nat} {ln cp : Operand} (ho : o.op = .makeSlice ty ln cp) (h : opK P H calls ρ μ o k = some r) : ∃ e, k e = some r ∧ Sound P o ρ μ e := by
 simp only [opK, ho] at h
 have hops : o.op.operands = #[ln, cp] := by rw [ho]; rfl
 split at h
 case h_2 => cases h
 rename_i e hu
 split at h
 case h_2 => cases h
 rename_i τ n z k1 l k2 c hty hs hz hln hcp
 split at h
 case h_2 => cases h
 rename_i zl hzl
 split at h
 case h_2 => cases h
 rename_i d hd
 obtain ⟨hb, h⟩ := cond_some h
 simp only [Bool.and_eq_true] at hb
 obtain ⟨⟨⟨hn, hnone⟩, hbytes⟩, hlen⟩ := hb
 have hn := Nat.eq_of_beq_eq_true hn
 have hlen := Nat.eq_of_beq_eq_true hlen
 have hbytes := Nat.le_of_ble_eq_true hbytes
 have hnone := noneM_iff hnone
 obtain ⟨hr, h⟩ := ite_some h
 have hr : (0 ≤ l ∧ l ≤ c) ∧ c ≤ (boundLen : Int) := by simpa using hr
 obtain ⟨⟨hl0, hlc⟩, hcb⟩ := hr
 have hbL : boundLen = 4294967296 := rfl
 rw [hbL] at hcb
 obtain ⟨i, v, hi, hv, hrel⟩ := zeroA_rel hz
 obtain ⟨i', hi', hsz⟩ := sizeT_some hs
 rw [hi] at hi'; cases hi'
 have hbi : i.bytes ≤ 4096 := by unfold bytesT at hbytes; rw [hi] at hbytes; exact hbytes
 refine ⟨_, h, fun s hρ hμ => SemO.of fun B G a w hw => ?_⟩
 have hm : getM s.mem (.own (o.dst.getD 0)) = none := by rw [hμ _ (by simp [keys])]; exact hnone
 have e1 := asC_rel (hw.ev ln)
 rw [hρ ln (by rw [hops]; simp), hln] at e1
 have e2 := asC_rel (hw.ev cp)
 rw [hρ cp (by rw [hops]; simp), hcp] at e2
 have e1 : a.eval ln = .int k1 l := e1
 have e2 : a.eval cp = .int k2 c := e2
 have hzc := cells_cs hzl (hrel G s.mem w)
 have hvn : v.cells.size = n := by have := hzc.length; simp at this; omega
 have hnpos : 0 < n := by rw [← hn]; exact ncell_pos τ
 have hrep : Rep G.S w τ d v.cells.toList := dcAll_rel hd hzc
 have hmade : (madeCells v.cells (c.toNat * i.size)).toList = (List.replicate c.toNat v.cells.toList).flatten := by
  rw [hsz]; exact replicate_range hvn hnpos
 have hll : v.cells.toList.length = ncell τ := by simp [hvn, hn]
 obtain ⟨h1, hE1⟩ := hw.mem.newOwn (t := o.dst.getD 0) hm (K := c.toNat) (τ := τ) (xs := List.replicate l.toNat d) (vs := (madeCells v.cells (c.toNat * i.size)).toList)
  (by simp; omega) (by simp [size_madeCells, hsz, hn]) (fun j hj => by
   have hj' : j < l.toNat := by simpa using hj
   rw [hmade, ← hll, flat_row _ _ (by omega), List.getElem_replicate]
   exact hrep) e
 have hbytes' : (i.bytes : Int) * c ≤ 281474976710656 := by
  have h1 : (i.bytes : Int) * c ≤ 4096 * c := Int.mul_le_mul_of_nonneg_right (by omega) (by omega)
  omega
 have hrun := run_make (P := P) w ty e i v hu hi hv k1 k2 l c hl0 hlc hbytes' (by omega)
 rw [← Array.toArray_toList (xs := madeCells v.cells (c.toNat * i.size))] at hrun
 refine ⟨_, _, G.add (.own (o.dst.getD 0)) w.heap.size c.toNat, .inl (by simp only [execOp, ho, e1, e2, Sem.run_bind, hrun]; rfl), h1, hE1, ?_⟩
 show CRel _ _ (w.alloc (.cells (madeCells v.cells (c.toNat * i.size)).toList.toArray e)) (.slo (o.dst.getD 0)) _
 simp only [setMs, CRel, getM_cons, if_pos]
 exact ⟨some ⟨w.heap.size, 0, none⟩, by simp [Gh.add], .inl (by simp [Gh.add]), fun _ => by simp⟩
end
end Go.Al
