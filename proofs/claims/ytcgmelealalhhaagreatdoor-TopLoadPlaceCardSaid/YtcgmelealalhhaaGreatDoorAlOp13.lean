/- Maps: made, looked up. -/
import Derived.Test.YtcgmelealalhhaaGreatDoorAlOp12
namespace Go.Al
variable {P : Program} {H : Hint}
section
variable {R : Type} {calls : Nat → Option CallS} {ρ : Operand → AV} {μ : Loc → Option Obj} {o : Oper} {k : Eff → Option R} {r : R}
theorem mapT_some {t : Nat} {κ : Ty} {ka : Bool} {τ : Ty} {va : Bool} {et : Nat} (hE : KeyS P H) (h : mapT P H t = some (κ, ka, τ, va, et)) : ∃ kt, P.underlying t = some (.map kt et) ∧ KeyOk P kt κ ka ∧ flatT κ = true := by
 unfold mapT at h
 split at h
 case h_2 => cases h
 rename_i kt et' hu
 split at h
 case h_2 => cases h
 rename_i κ' τ' ka' va' h1 h2 h3 h4
 obtain ⟨hb, h⟩ := cond_some h
 rw [Bool.and_eq_true] at hb
 cases h
 exact ⟨kt, hu, hE kt κ ka hb.1 h1 h3, hb.2⟩
theorem op_makeMap {ty : Nat} (hE : KeyS P H) (ho : o.op = .makeMap ty none) (h : opK P H calls ρ μ o k = some r) : ∃ e, k e = some r ∧ Sound P o ρ μ e := by
 simp only [opK, ho] at h
 split at h
 case h_2 => cases h
 rename_i κ ka τ va et hm
 obtain ⟨hn, h⟩ := cond_some h
 have hnone := noneM_iff hn
 obtain ⟨kt, hu, K, hfl⟩ := mapT_some hE hm
 refine ⟨_, h, fun s hρ hμ => SemO.of fun B G a w hw => ?_⟩
 have hm : getM s.mem (.box (o.dst.getD 0)) = none := by rw [hμ _ (by simp [keys])]; exact hnone
 have hE1 : Ext G s.mem w (G.add (.box (o.dst.getD 0)) w.heap.size 0) ((.box (o.dst.getD 0), .bx (.mp κ ka τ va [])) :: s.mem) (w.alloc (.map #[] 0)) := Ext.fresh _ _ _ hm fun b hb => heap_alloc_old (hw.mem.ltS b hb)
 have hM : MRel P B (G.add (.box (o.dst.getD 0)) w.heap.size 0) ((.box (o.dst.getD 0), .bx (.mp κ ka τ va [])) :: s.mem) (w.alloc (.map #[] 0)) := by
  refine hw.mem.fresh hm (fun _ e => nomatch e) (by simp) (fun b hb _ => heap_alloc_old hb) (.inl hw.mem.grow) (by simp) (fun hs => Nat.lt_irrefl _ (hw.mem.ltS _ hs)) (fun l hl e => by have := hw.mem.lt l hl; omega) ?_ ?_
  ·right
   simp only [Gh.add, if_true]
   exact ⟨hfl, #[], World.alloc_heap_new w _, rfl, fun i hi => absurd hi (by simp)⟩
  ·unfold Real; rw [getM_cons, if_pos rfl]; trivial
 refine ⟨.map (some w.heap.size), w.alloc (.map #[] 0), _, .inl ?_, hM, hE1, ?_⟩
 ·simp [execOp, ho, Instr.makeMap]
 ·exact ⟨.inl ⟨_, (getM_cons _ _ _ _).trans (if_pos rfl)⟩, by simp [Gh.add]⟩
end
end Go.Al
