/- Maps: looked up. -/
import Derived.Test.YtcgmelealalhhaaGreatDoorAlOp13
import Derived.Test.YtcgmelealalhhaaGreatDoorAlMap3
namespace Go.Al
variable {P : Program} {H : Hint}
theorem keyD_rel {B : Beg} {G : Gh} {m : Mem} {w : World} {μ : Loc → Option Obj} {κ : Ty} {ka : Bool} {a : AV} {key : den κ} {v : Value} (hf : flatT κ = true) (h : keyD μ κ ka a = some key) (hr : AVRel G m w a v) (hM : MRel P B G m w) : v = oneV ka (kv κ key) := by
 unfold keyD at h
 split at h
 case h_2 => cases h
 rename_i v0
 split at h
 case h_2 => cases h
 rename_i l f hl hfl
 split at h
 case isFalse => cases h
 rename_i e
 subst e
 have ho := dcAll_flat hf h
 have hl' : cells (getM m) v0 = some l := cells_congr hl fun i hi => by rw [ho] at hi; cases hi
 obtain ⟨hall, _, _⟩ := cells_rel hl' hr
 have hk := rep_kv hf (dcAll_rel h hall)
 cases v0 with
 | one c =>
  cases hfl
  have hc1 : alive (getM m) c = true := by simp only [cells] at hl'; exact (cond_some hl').1
  rw [one_cells (alive_one hc1 hr)] at hk
  show v = oneV false (kv κ key)
  rw [← hk]; simp [oneV]
 | agg l2 => cases hfl; obtain ⟨vs, e, _⟩ := hr; subst e; show _ = oneV true (kv κ key); rw [← hk]; simp [oneV, Value.cells]
 | arr τ n xs => cases hfl; obtain ⟨vs, e, _⟩ := hr; subst e; show _ = oneV true (kv κ key); rw [← hk]; simp [oneV, Value.cells]
 | lp => exact hr.elim
 | mp => exact hr.elim
theorem recvL_rel {G : Gh} {m : Mem} {w : World} {τ : Ty} {ag : Bool} {x : den τ} {us : List Value} (h : Rep G.S w τ x us) : A1Rel G m w (recvL τ ag x) (oneV ag us) := by
 have hc := cs_rel (G := G) (m := m) h
 unfold recvL
 cases ag with
 | true => exact ⟨us, rfl, hc⟩
 | false =>
  simp only [cond_false]
  split
  ·rename_i c he
   rw [he] at hc
   cases hc with
   | cons h1 h2 => cases h2; exact h1
  ·trivial
section
variable {R : Type} {calls : Nat → Option CallS} {ρ : Operand → AV} {μ : Loc → Option Obj} {o : Oper} {k : Eff → Option R} {r : R}
theorem op_lookup {ty : Nat} {x i : Operand} {ok : Bool} (hE : KeyS P H) (ho : o.op = .lookup ty x i ok) (h : lookK P H ρ μ ty x i ok k = some r) : ∃ e, k e = some r ∧ Sound P o ρ μ e := by
 unfold lookK at h
 have hops : o.op.operands = #[x, i] := by rw [ho]; rfl
 split at h
 case h_2 => cases h
 rename_i κ ka τ va et l hm hx
 split at h
 case h_2 => cases h
 rename_i κ' ka' τ' va' xs key d hml hkey hd
 split at h
 case isFalse => cases h
 rename_i e
 obtain ⟨e1, e2, e3, e4, e5⟩ := e
 subst e1; subst e2; subst e3; subst e4
 obtain ⟨kt, hu, K, hfl⟩ := mapT_some hE hm
 refine ⟨_, h, fun s hρ hμ => SemO.val fun B G a w hw => ?_⟩
 have hml' : getM s.mem l = some (.bx (.mp κ' ka' τ' va' xs)) := by rw [hμ l (by simp)]; exact hml
 have ex := asC_rel (hw.ev x)
 rw [hρ x (by rw [hops]; simp), hx] at ex
 obtain ⟨_, hv⟩ := ex
 have ei := hw.ev i
 rw [hρ i (by rw [hops]; simp)] at ei
 have hkv := keyD_rel hfl hkey ei hw.mem
 unfold zeroD at hd
 split at hd
 case h_2 => cases hd
 rename_i z hz
 split at hd
 case h_2 => cases hd
 rename_i zl hzl
 obtain ⟨inf, zv, hi, hzv, hrel⟩ := zeroA_rel hz
 have hzrep := dcAll_rel hd (cells_cs hzl (hrel G s.mem w))
 have hzrun : (zeroValue et).run P w = .ok zv w := by simp [zeroValue, typeInfo, hi, hzv]
 have hzone : zv = oneV va' zv.cells.toList := by
  unfold zeroF at e5
  rw [hi] at e5
  simp only [hzv] at e5
  cases zv <;> simp at e5 <;> subst e5 <;> simp [oneV, Value.cells]
 rcases hw.mem.objs l _ hml' with ⟨_, hf, _⟩ | ⟨_, hMp⟩
 ·exact hf.elim
 obtain ⟨v, hrun, hcase⟩ := run_look hu K hMp hzrun key d ok
 have hvr : A1Rel G s.mem w (recvL τ' va' (mget κ' key d xs)) v := by
  rcases hcase with ⟨_, us, q1, rfl⟩ | ⟨_, q1, rfl⟩
  ·exact recvL_rel q1
  ·rw [q1, hzone]; exact recvL_rel hzrep
 refine ⟨_, by simp only [execOp, ho, hv, hkv, Sem.run_bind, hrun]; rfl, ?_⟩
 cases ok with
 | true => exact ⟨[v, .bool (mhas κ' key xs)], rfl, .cons hvr (.cons rfl .nil)⟩
 | false => exact hvr
end
end Go.Al
