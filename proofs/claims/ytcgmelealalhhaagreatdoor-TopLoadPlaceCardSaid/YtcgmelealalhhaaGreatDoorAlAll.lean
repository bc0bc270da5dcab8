/- Every operation. -/
import Derived.Test.YtcgmelealalhhaaGreatDoorAlCall5
import Derived.Test.YtcgmelealalhhaaGreatDoorAlOp15
import Derived.Test.YtcgmelealalhhaaGreatDoorAlOp16
import Derived.Test.YtcgmelealalhhaaGreatDoorAlOp17
namespace Go.Al
variable {P : Program} {H : Hint}
section
variable {R : Type} {calls : Nat → Option CallS} {ρ : Operand → AV} {μ : Loc → Option Obj} {o : Oper} {k : Eff → Option R} {r : R}
theorem op_call {c : Call} (hC : CallsOk P calls) (ho : o.op = .call c) (h : opK P H calls ρ μ o k = some r) : ∃ e, k e = some r ∧ Sound P o ρ μ e := by
 simp only [opK, ho] at h
 split at h
 ·rename_i b hb
  split at h
  ·rename_i x ha
   exact op_len ho hb ha h
  ·rename_i ha
   exact op_cap ho hb ha h
  ·rename_i a x b' y ha
   exact op_minmax (.inl ⟨rfl, rfl⟩) ho hb ha h
  ·rename_i a x b' y ha
   exact op_minmax (.inr ⟨rfl, rfl⟩) ho hb ha h
  ·rename_i l ha
   split at h
   ·rename_i ty tx hat
    split at h
    ·rename_i e kk hu hk
     exact op_zeros (by omega) ho hb ha hat hu hk h
    ·cases h
   ·cases h
  ·rename_i x y hov ha
   clear hov
   split at h
   ·rename_i ty tx hat
    split at h
    ·rename_i e e' hu hk
     refine op_append (fun hlt => ?_) ho hb ha hat hu hk h
     cases x <;> try (simp only [appN] at hlt; exact absurd hlt (by omega))
     ·rename_i τ xs nl ex
      cases ex with
      | true => exact .inr ⟨τ, xs, nl, rfl⟩
      | false => simp only [appN] at hlt; exact absurd hlt (by omega)
     ·rename_i i
      simp only [appN] at hlt
      cases hc : Nat.blt i 4096 && Nat.blt (o.dst.getD 0) 4096 with
      | false => rw [hc] at hlt; exact absurd hlt (by simp only [cond_false]; omega)
      | true =>
       simp only [Bool.and_eq_true] at hc
       exact .inl ⟨i, rfl, by simpa [Nat.blt_eq] using hc.1⟩
    ·cases h
   ·cases h
  ·cases h
 ·rename_i f hb
  split at h
  ·rename_i g caps hf
   split at h
   ·rename_i cs hg
    cases hl : (Nat.blt g yB || Nat.beq caps.length 1) with
    | false => rw [hl] at hg; cases hg
    | true =>
     rw [hl] at hg
     have hg : calls g = some cs := hg
     rw [Bool.or_eq_true] at hl
     exact op_callv ho hb hf (hC g cs hg).2 (hC g cs hg).1 (hl.imp of_blt Nat.eq_of_beq_eq_true) h
   ·cases h
  ·rename_i g τ ag y hf
   split at h
   ·rename_i cs hg
    cases hl : Nat.blt g yB with
    | false => rw [hl] at hg; cases hg
    | true =>
     rw [hl] at hg
     have hg : calls g = some cs := hg
     exact op_callb ho hb hf (hC g cs hg).2 (hC g cs hg).1 h
   ·cases h
  ·cases h
 ·rename_i x name hb
  split at h
  ·rename_i ty τ ag y hx
   split at h
   ·rename_i g hg
    split at h
    ·rename_i cs hcs
     refine op_invoke ho hb (fun G m w v hr => ?_) hg (hC g cs hcs).2 (hC g cs hcs).1 h
     rw [hx] at hr; exact hr
    ·cases h
   ·cases h
  ·rename_i i a ia j b jb y hx
   split at h
   ·rename_i g q hg hq
    split at h
    ·rename_i c1 c2 hc1 hc2
     cases y with
     | inl z =>
      refine op_invoke ho hb (fun G m w v hr => ?_) hg (hC g c1 hc1).2 (hC g c1 hc1).1 h
      rw [hx] at hr; exact hr
     | inr z =>
      refine op_invoke ho hb (fun G m w v hr => ?_) hq (hC q c2 hc2).2 (hC q c2 hc2).1 h
      rw [hx] at hr; exact hr
    ·cases h
   ·cases h
  ·cases h
theorem opK_sound (hE : EqOk P H) (hC : CallsOk P calls) (h : opK P H calls ρ μ o k = some r) : ∃ e, k e = some r ∧ Sound P o ρ μ e := by
 cases ho : o.op
 case move => exact op_move (.inl ho) (by simpa only [opK, ho] using h)
 case assign => exact op_assign ho (by simpa only [opK, ho] using h)
 case sliceToArrayPointer => exact op_arrayAt ho (by simpa only [opK, ho] using h)
 case pick => exact op_pick ho h
 case alloc => exact op_alloc ho h
 case box => exact op_box ho h
 case build => exact op_build ho h
 case buildSlice => exact op_buildSlice ho h
 case load => exact op_load ho h
 case store => exact op_store ho h
 case nilCheck => exact op_nilCheck ho h
 case binOp => exact op_bin hE ho h
 case unOp => exact op_un ho h
 case convert => exact op_convert ho h
 case makeInterface => exact op_makeInterface ho h
 case makeFunc fn first caps =>
  cases fn with
  | func f =>
   cases hf : first.isEmpty && Nat.blt f yB with
   | true => exact op_makeFunc ho hf h
   | false => exact op_bound ho hf h
  | _ => simp [opK, ho] at h
 case makeSlice => exact op_makeSlice ho h
 case makeMap t q =>
  cases q with
  | none => exact op_makeMap hE.2.2 ho h
  | some _ => simp [opK, ho] at h
 case lookup => exact op_lookup hE.2.2 ho (by simpa only [opK, ho] using h)
 case mapUpdate => exact op_mapUpdate hE.2.2 (.inl ho) (by simpa only [opK, ho] using h)
 case insert => exact op_mapUpdate hE.2.2 (.inr ho) (by simpa only [opK, ho] using h)
 case slice =>
  rename_i ty x lo hi mx
  cases hz : nzO H (o.dst.getD 0) x with
  | true => exact op_sliceO ho (by simpa only [opK, ho, hz, cond_true] using h)
  | false =>
  by_cases hna : ∃ len e, P.underlying ty = some (.array len e)
  ·obtain ⟨len, e, hu⟩ := hna
   exact op_sliceA ho hu hz h
  ·exact op_slice ho (fun len e hu => hna ⟨len, e, hu⟩) hz h
 case fieldAddr => exact op_fieldAddr ho h
 case field => exact op_field ho h
 case indexAddr => exact op_indexAddr ho h
 case index => exact op_index ho h
 case extract => exact op_extract ho h
 case call => exact op_call hC ho h
 all_goals simp [opK, ho] at h
end
end Go.Al
