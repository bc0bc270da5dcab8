/- Maps: written. -/
import Derived.Test.YtcgmelealalhhaaGreatDoorAlOp14
namespace Go.Al
variable {P : Program} {H : Hint}
theorem valD_rel {B : Beg} {G : Gh} {m : Mem} {w : World} {μ : Loc → Option Obj} {τ : Ty} {va : Bool} {a : AV} {u : den τ} {v : Value} (h : valD μ τ va a = some u) (hr : AVRel G m w a v) (hM : MRel P B G m w) : ∃ us, Rep G.S w τ u us ∧ v = oneV va us := by
 unfold valD at h
 split at h
 case h_2 => cases h
 rename_i v0
 split at h
 case h_2 => cases h
 rename_i l f hl hfl
 split at h
 case isFalse => cases h
 rename_i e
 obtain ⟨e, ho⟩ := e
 subst e
 have hl' : cells (getM m) v0 = some l := cells_congr hl fun i hi => by rw [ho] at hi; cases hi
 obtain ⟨hall, _, _⟩ := cells_rel hl' hr
 refine ⟨_, dcAll_rel h hall, ?_⟩
 cases v0 with
 | one c =>
  cases hfl
  have hc1 : alive (getM m) c = true := by simp only [cells] at hl'; exact (cond_some hl').1
  rw [one_cells (alive_one hc1 hr)]
  simp [oneV]
 | agg l2 => cases hfl; obtain ⟨vs, e, _⟩ := hr; subst e; simp [oneV, Value.cells]
 | arr τ n xs => cases hfl; obtain ⟨vs, e, _⟩ := hr; subst e; simp [oneV, Value.cells]
 | lp => exact hr.elim
 | mp => exact hr.elim
section
variable {R : Type} {calls : Nat → Option CallS} {ρ : Operand → AV} {μ : Loc → Option Obj} {o : Oper} {k : Eff → Option R} {r : R}
theorem op_mapUpdate {ty : Nat} {x i y : Operand} (hE : KeyS P H) (ho : o.op = .mapUpdate ty x i y ∨ o.op = .insert ty x i y) (h : putK P H ρ μ ty x i y k = some r) : ∃ e, k e = some r ∧ Sound P o ρ μ e := by
 unfold putK at h
 have hops : o.op.operands = #[x, i, y] := by rcases ho with ho | ho <;> (rw [ho]; rfl)
 split at h
 case h_2 => cases h
 rename_i κ ka τ va et l hm hx
 split at h
 case h_2 => cases h
 rename_i κ' ka' τ' va' xs key u hml hkey hu
 split at h
 case isFalse => cases h
 rename_i e
 obtain ⟨e1, e2, e3, e4⟩ := e
 subst e1; subst e2; subst e3; subst e4
 obtain ⟨kt, hut, K, hfl⟩ := mapT_some hE hm
 refine ⟨_, h, fun s hρ hμ => SemO.of fun B G a w hw => ?_⟩
 have hml' : getM s.mem l = some (.bx (.mp κ' ka' τ' va' xs)) := by rw [hμ l (by simp)]; exact hml
 have ex := asC_rel (hw.ev x)
 rw [hρ x (by rw [hops]; simp), hx] at ex
 obtain ⟨_, hv⟩ := ex
 have ei := hw.ev i
 rw [hρ i (by rw [hops]; simp)] at ei
 have hkv := keyD_rel hfl hkey ei hw.mem
 have ey := hw.ev y
 rw [hρ y (by rw [hops]; simp)] at ey
 obtain ⟨us, hrep, hyv⟩ := valD_rel hu ey hw.mem
 have hW : Writ G s.mem l := by unfold Writ; rw [hml']; trivial
 rcases hw.mem.objs l _ hml' with ⟨_, hf, _⟩ | ⟨_, hMp⟩
 ·exact hf.elim
 obtain ⟨w', hrun, ⟨ob, rfl⟩, hMp'⟩ := run_put hut K hMp (hw.mem.wr l hW) key u hrep
 have hE1 : Ext G s.mem w G ((l, .bx (.mp κ' ka' τ' va' (mput κ' key u xs))) :: s.mem) (w.putObj (G.β l) ob) := Ext.write hml' rfl fun b hb => World.putObj_heap_other fun (e : b = G.β l) => hw.mem.wr _ hW (e ▸ hb)
 have hM : MRel P B G ((l, .bx (.mp κ' ka' τ' va' (mput κ' key u xs))) :: s.mem) (w.putObj (G.β l) ob) := hw.mem.write hml' hW rfl (by unfold Writ; rw [getM_cons, if_pos rfl]; trivial) (by simp) (fun b hb => World.putObj_heap_other hb) (.inr ⟨hfl, hMp'⟩)
 refine ⟨undef, w.putObj (G.β l) ob, G, ?_, hM, hE1, trivial⟩
 rcases ho with ho | ho
 ·first
   | exact .inl (by simp only [execOp, ho, hv, hkv, hyv, Sem.run_bind, hrun]; rfl)
   | exact .inr ⟨rfl, by simp only [execOp, ho, hv, hkv, hyv, Sem.run_bind, hrun]; rfl⟩
 ·first
   | exact .inl (by simp only [execOp, ho, hv, hkv, hyv, Sem.run_bind, hrun]; rfl)
   | exact .inr ⟨rfl, by simp only [execOp, ho, hv, hkv, hyv, Sem.run_bind, hrun]; rfl⟩
end
end Go.Al
