/- A slice of an array variable: the variable is given up, and its block is read alone from here on. -/
import Derived.Test.YtcgmelealalhhaaGreatDoorAlOp10
namespace Go.Al
variable {P : Program} {H : Hint}
def Gh.fzb (G : Gh) (l : Loc) : Gh := ⟨fun b => G.S b ∨ b = G.β l, G.β, G.κ⟩
theorem MRel.killB {B : Beg} {G : Gh} {m : Mem} {w : World} (h : MRel P B G m w) {t : Nat} {v : A1} (hg : getM m (.box t) = some (.bx v)) :
  MRel P B (G.fzb (.box t)) ((.box t, .dead) :: m) w ∧ Ext G m w (G.fzb (.box t)) ((.box t, .dead) :: m) w := by
 have hre : Real G m (.box t) := by unfold Real; rw [hg]; trivial
 have hE : Ext G m w (G.fzb (.box t)) ((.box t, .dead) :: m) w := ⟨fun b hb => .inl hb, fun _ _ => rfl, fun l o ho => by
  by_cases e : Loc.box t = l
  ·subst e
   rw [hg] at ho; cases ho
   exact ⟨.dead, by rw [getM_cons, if_pos rfl], ⟨t, rfl⟩, rfl, fun _ _ => rfl⟩
  ·exact ⟨o, by rw [getM_cons, if_neg e]; exact ho, Ch.refl o, rfl, fun _ _ => rfl⟩⟩
 have hR : ∀ l, Real (G.fzb (.box t)) ((.box t, .dead) :: m) l → l ≠ .box t ∧ Real G m l := fun l hl => by
  unfold Real at hl ⊢
  by_cases e : Loc.box t = l
  ·subst e; rw [getM_cons, if_pos rfl] at hl; exact hl.elim
  ·rw [getM_cons, if_neg e] at hl; exact ⟨fun e' => e e'.symm, hl⟩
 have hW : ∀ l, Writ (G.fzb (.box t)) ((.box t, .dead) :: m) l → l ≠ .box t ∧ Writ G m l := fun l hl => by
  unfold Writ at hl ⊢
  by_cases e : Loc.box t = l
  ·subst e; rw [getM_cons, if_pos rfl] at hl; exact hl.elim
  ·rw [getM_cons, if_neg e] at hl; exact ⟨fun e' => e e'.symm, hl⟩
 refine ⟨h.step hE (Nat.le_refl _) (fun _ => False) (fun _ h => h.elim) (fun _ _ _ _ => rfl) (fun l o' ho' => ?_) (fun l hl => .inl (hR l hl).2) (fun l l' h1 _ g1 _ _ => absurd (hR l h1).2 g1) (fun l hl hs => ?_) (fun b hb => ?_) (fun b hb => ?_), hE⟩
 ·by_cases e : Loc.box t = l
  ·subst e; rw [getM_cons, if_pos rfl] at ho'; cases ho'; exact .inr trivial
  ·rw [getM_cons, if_neg e] at ho'; exact .inl ⟨ho', id⟩
 ·obtain ⟨hne, hw⟩ := hW l hl
  rcases hs with hs | hs
  ·exact h.wr l hw hs
  ·exact hne (h.inj _ _ hw.real hre hs)
 ·rcases hb with hb | rfl
  ·exact h.ltS b hb
  ·exact h.lt _ hre
 ·rcases hb with hb | rfl
  ·exact .inl hb
  ·rcases h.new _ hre with ⟨j, e, _⟩ | ⟨_, hge⟩
   ·cases e
   ·exact .inr hge
section
variable {R : Type} {calls : Nat → Option CallS} {ρ : Operand → AV} {μ : Loc → Option Obj} {o : Oper} {k : Eff → Option R} {r : R}
theorem run_sliceArr {ty e n len : Nat} (hu : P.underlying ty = some (.array len e)) (hs : sizeT P e = some n) (w : World) (a : Act) (ad : Addr) {lo hi : Option Operand} {l h : Int}
  (h1 : (lo = none ∧ l = 0) ∨ ∃ y k, lo = some y ∧ a.eval y = .int k l) (h2 : (hi = none ∧ h = len) ∨ ∃ y k, hi = some y ∧ a.eval y = .int k h)
  (g0 : 0 ≤ l) (g1 : l ≤ h) (g2 : h ≤ (len : Int)) :
  (Instr.sliceAt ty (.pointer (some ad)) (lo.map a.eval) (hi.map a.eval) none).run P w = .ok (.slice (some (if len = l.toNat then ad else ad.add (l.toNat * n))) (h.toNat - l.toNat) (len - l.toNat)) w := by
 obtain ⟨inf, hi', hz⟩ := sizeT_some hs
 have hb : ∀ {y : Operand} {k : IntKind} {i : Int} (_ : a.eval y = .int k i) (z : Nat) (code : BoundsCode) (_ : 0 ≤ i) (_ : i ≤ (z : Int)), (Instr.sliceBound (a.eval y) z code).run P w = .ok i.toNat w :=
  fun e z code a1 a2 => run_bound e a1 a2 w
 rcases h1 with ⟨rfl, rfl⟩ | ⟨y, ky, rfl, ey⟩ <;> rcases h2 with ⟨rfl, rfl⟩ | ⟨z, kz, rfl, ez⟩
 ·simp [Instr.sliceAt, run_underlying hu, Instr.sureAddr, Instr.sliceBounds, sizeOf, typeInfo, hi', hz]
 ·simp [Instr.sliceAt, run_underlying hu, Instr.sureAddr, Instr.sliceBounds, sizeOf, typeInfo, hi', hz, hb ez len .sliceAlen (by omega) (by omega)]
 ·simp [Instr.sliceAt, run_underlying hu, Instr.sureAddr, Instr.sliceBounds, sizeOf, typeInfo, hi', hz, hb ey len .sliceB (by omega) (by omega)]
 ·have q := hb ey h.toNat .sliceB (by omega) (by omega)
  simp [Instr.sliceAt, run_underlying hu, Instr.sureAddr, Instr.sliceBounds, sizeOf, typeInfo, hi', hz, hb ez len .sliceAlen (by omega) (by omega), q]
theorem op_sliceA {ty len e : Nat} {x : Operand} {lo hi mx : Option Operand} (ho : o.op = .slice ty x lo hi mx) (hu : P.underlying ty = some (.array len e)) (hz : nzO H (o.dst.getD 0) x = false) (h : opK P H calls ρ μ o k = some r) : ∃ e, k e = some r ∧ Sound P o ρ μ e := by
 simp only [opK, ho, hz, cond_false, hu] at h
 have hops : o.op.operands = #[x] ++ lo.toArray ++ hi.toArray ++ mx.toArray := by rw [ho]; rfl
 have hmem : ∀ y, (y = x ∨ lo = some y ∨ hi = some y ∨ mx = some y) → y ∈ o.op.operands := fun y hy => by
  rw [hops]; rcases hy with rfl | rfl | rfl | rfl <;> simp
 split at h
 case h_2 => cases h
 rename_i τ n b room hty hs hx
 split at h
 case h_2 => cases h
 rename_i τ0 N zs hm0
 split at h
 case h_2 => cases h
 rename_i l hc
 split at h
 case h_2 => cases h
 rename_i xs hxs
 obtain ⟨hb, h⟩ := cond_some h
 simp only [Bool.and_eq_true] at hb
 obtain ⟨hb, hlen1⟩ := hb
 have hb := Nat.eq_of_beq_eq_true hb
 have hlen1 := Nat.le_of_ble_eq_true hlen1
 unfold sliceA at h
 split at h
 case h_2 => cases h
 rename_i i0 h0 hl hh
 obtain ⟨hr, h⟩ := ite_some h
 have hr : (0 ≤ i0 ∧ i0 ≤ h0) ∧ h0 ≤ (len : Int) := by simpa using hr
 refine ⟨_, h, fun s hρ hμ => SemO.of fun B G a w hw => ?_⟩
 have ey : ∀ y, (y = x ∨ lo = some y ∨ hi = some y) → AVRel G s.mem w (ρ y) (a.eval y) := fun y hy => by
  rw [← hρ y (hmem y (by rcases hy with h | h | h <;> simp [h]))]; exact hw.ev y
 have hm : getM s.mem (.box b) = some (.bx (.arr τ0 N zs)) := by rw [hμ _ (by simp)]; exact hm0
 have ex := asC_rel (ey x (.inl rfl))
 rw [hx] at ex
 obtain ⟨_, ev'⟩ := ex
 have l1 := loOf_rel (a := a) (fun y hy => ey y (.inr (.inl hy))) hl
 have l2 := hiOf_rel (a := a) (fun y hy => ey y (.inr (.inr hy))) hh
 obtain ⟨hM, hE⟩ := hw.mem.killB hm
 obtain ⟨vs, hcs, hrange, _⟩ := (hw.mem.objs _ _ hm).cells rfl
 obtain ⟨g1, g2, g3⟩ := hcs
 have hc' : cells (getM s.mem) (.arr τ0 N zs) = some l := by
  rw [← hc]; unfold cells; rfl
 have hrel := (cells_rel (G := G) (w := w) (v := .agg vs.toArray) hc' ⟨vs, rfl, g1, g2, g3⟩).1
 have hrel : All2 (CRel G s.mem w) l vs := hrel
 obtain ⟨e1, e2, e3⟩ := dcRow_rel hxs hrel
 refine ⟨_, w, _, .inl (by simp only [execOp, ho, ev', Sem.run_bind, Option.map_none, run_sliceArr hu hs w a _ l1 l2 hr.1.1 hr.1.2 hr.2]; rfl), hM, hE, ?_⟩
 have hcl := cut_len xs i0.toNat h0.toNat (by omega)
 refine ⟨_, _, by rw [hcl], by rw [hcl]; omega, ?_, (fun _ e => by cases e; rfl), (fun e => nomatch e)⟩
 rw [← hb]
 have hrow : ∀ i (hi : i < xs.length), ∃ b' o us, (some (⟨G.β (.box b), 0, none⟩ : Addr)) = some ⟨b', o, none⟩ ∧ (G.fzb (.box b)).S b' ∧ Rep (G.fzb (.box b)).S w τ xs[i] us ∧ w.rangeAt b' (o + i * ncell τ) us := fun i hi => by
  refine ⟨_, _, _, rfl, .inr rfl, (e3 i hi).mono hE.S hE.heap, fun j u hj => ?_⟩
  have hjl : j < ncell τ := by
   have := (List.getElem?_eq_some_iff.1 hj).1
   simp at this; omega
  rw [List.getElem?_take, if_pos hjl, List.getElem?_drop] at hj
  have := hrange _ _ hj
  rw [show 0 + i * ncell τ + j = 0 + (i * ncell τ + j) by omega]
  exact this
 have := cut_row (G := G.fzb (.box b)) (w := w) (l := i0.toNat) (h := h0.toNat) (c := len) (by omega) (by omega) (by omega) hrow
 intro i hi
 obtain ⟨b', o', us, q1, q2⟩ := this i hi
 refine ⟨b', o', us, ?_, q2⟩
 rw [← q1]
 split <;> simp
end
end Go.Al
