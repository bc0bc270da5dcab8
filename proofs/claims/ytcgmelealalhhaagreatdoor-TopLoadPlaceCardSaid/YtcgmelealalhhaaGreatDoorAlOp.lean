/- Each operation of the evaluator is what the model's operation does: the ones that write nothing. -/
import Derived.Test.YtcgmelealalhhaaGreatDoorAlStep
import Derived.Laws.StructEq
import Derived.Laws.Slices
namespace Go.Al
variable {P : Program} {H : Hint}
def fw (rd : Option Nat) : Fence := { Fence.wide with round := rd }
def SemO (P : Program) (o : Oper) (s : St) (e : Eff) : Prop :=
 ∀ (B : Beg) (G : Gh) (a : Act) (w : World) (K : Act → World → Prop) (Q : Exit → Act → World → Prop), WRel P B G s a w → (∀ d, o.dst = some d → d < B.nt) →
  (∀ G' a' w', WRel P B G' (s.app o.dst e) a' w' → K a' w') → o.wpIn (fw B.rd) 0 P a w K Q
def Sound (P : Program) (o : Oper) (ρ : Operand → AV) (μ : Loc → Option Obj) (e : Eff) : Prop :=
 ∀ s : St, (∀ x ∈ o.op.operands, ev s x = ρ x) → (∀ l ∈ e.rd ++ keys e.wr, getM s.mem l = μ l) → SemO P o s e
theorem constC_rel (G : Gh) (m : Mem) (w : World) (v : Value) : CRel G m w (constC v) v := by
 unfold constC
 split <;> simp [CRel]
theorem constA_rel (G : Gh) (m : Mem) (w : World) (v : Value) : AVRel G m w (constA v) v := by
 unfold constA
 split
 ·rename_i cs
  refine ⟨cs.toList, by simp, ?_⟩
  have : ∀ l : List Value, All2 (CRel G m w) (l.map constC) l := fun l => by
   induction l with
   | nil => exact .nil
   | cons v r ih => exact .cons (constC_rel G m w v) ih
  exact this _
 ·exact trivial
 ·exact constC_rel G m w _
theorem WRel.ev {B : Beg} {G : Gh} {s : St} {a : Act} {w : World} (h : WRel P B G s a w) : ∀ x : Operand, AVRel G s.mem w (Al.ev s x) (a.eval x)
 | .tmp t => h.regs t
 | .const v => constA_rel G s.mem w v
 | .global _ => trivial
 | .func f => by
  show AVRel _ _ _ (.a (.one (bif Nat.blt f yB then .fn f [] else .und))) _
  cases hb : Nat.blt f yB with
  | false => trivial
  | true => exact ⟨fun l hl => (List.not_mem_nil hl).elim, by rw [fnV_lt (of_blt hb)]; rfl⟩
theorem asC_rel {G : Gh} {m : Mem} {w : World} {x : AV} {v : Value} (h : AVRel G m w x v) : CRel G m w (asC x) v := by
 unfold asC
 split
 ·exact h
 ·trivial
theorem no_defer {o : Oper} {ρ : Operand → Value} {w w' : World} {n : Next} (h : (execOp ρ o).run P w = .ok n w') (hn : ∀ d, n ≠ .defer d) : ∀ c, o.op ≠ .defer c := fun c hc => by
 simp only [execOp, hc, Sem.run_bind] at h
 cases hr : (Go.resolve ρ c o.type).run P w with
 | ok d w1 => rw [hr] at h; simp [Result.andThen] at h; exact hn _ h.1.symm
 | halt r w1 => rw [hr] at h; simp [Result.andThen] at h
theorem SemO.of {o : Oper} {s : St} {e : Eff} (h : ∀ (B : Beg) (G : Gh) (a : Act) (w : World), WRel P B G s a w → ∃ v w' G',
  ((execOp a.eval o).run P w = .ok (.value v) w' ∨ (v = undef ∧ (execOp a.eval o).run P w = .ok .skip w')) ∧ MRel P B G' (setMs s.mem e.wr) w' ∧ Ext G s.mem w G' (setMs s.mem e.wr) w' ∧
  AVRel G' (setMs s.mem e.wr) w' e.val v) : SemO P o s e := by
 intro B G a w K Q hw hd hK
 obtain ⟨v, w', G', hr, hm, hE, hv⟩ := h B G a w hw
 have h1 : WRel P B G' ⟨s.regs, setMs s.mem e.wr⟩ a w' := ⟨fun t => hE.AV (hw.regs t), hw.size, hw.nod.ext hE, hm⟩
 have h2 : WRel P B G' (s.app o.dst e) (a.put o.dst v) w' := by
  unfold St.app
  cases hdst : o.dst with
  | none => exact h1
  | some d => exact h1.put (hd d hdst) hv
 refine ⟨fun _ _ => trivial, ?_⟩
 rcases hr with hr | ⟨rfl, hr⟩
 ·rw [Oper.semAt_eq _ _ _ (no_defer hr fun d e => nomatch e), hr]; exact hK _ _ _ h2
 ·rw [Oper.semAt_eq _ _ _ (no_defer hr fun d e => nomatch e), hr]; exact hK _ _ _ h2
theorem SemO.val {o : Oper} {s : St} {x : AV} {rd : List Loc} (h : ∀ (B : Beg) (G : Gh) (a : Act) (w : World), WRel P B G s a w → ∃ v, (execOp a.eval o).run P w = .ok (.value v) w ∧ AVRel G s.mem w x v) :
  SemO P o s ⟨x, [], rd⟩ := SemO.of fun B G a w hw => by
 obtain ⟨v, hr, hv⟩ := h B G a w hw
 exact ⟨v, w, G, .inl hr, hw.mem, Ext.refl _ _ _, hv⟩
section
variable {R : Type} {calls : Nat → Option CallS} {ρ : Operand → AV} {μ : Loc → Option Obj} {o : Oper} {k : Eff → Option R} {r : R}
theorem op_move {x : Operand} (ho : o.op = .move x ∨ o.op = .assign x) (hk : k (ret (ρ x)) = some r) : ∃ e, k e = some r ∧ Sound P o ρ μ e := by
 refine ⟨_, hk, fun s hρ _ => SemO.val fun B G a w hw => ⟨a.eval x, ?_, ?_⟩⟩
 ·rcases ho with ho | ho <;> simp [execOp, ho]
 ·have := hw.ev x
  rw [hρ x (by rcases ho with ho | ho <;> simp [ho, Op.operands])] at this
  exact this
theorem asBool_run (b : Bool) (w : World) : (asBool (.bool b)).run P w = .ok b w := rfl
theorem op_pick {c x y : Operand} (ho : o.op = .pick c x y) (h : opK P H calls ρ μ o k = some r) : ∃ e, k e = some r ∧ Sound P o ρ μ e := by
 simp only [opK, ho] at h
 have hops : o.op.operands = #[c, x, y] := by rw [ho]; rfl
 split at h
 case h_2 => cases h
 rename_i v hc
 have main : ∀ z : AV, (v = true → z = ρ x ∨ (∃ b d, asC (ρ x) = .bool b ∧ z = one (.bool d) ∧ d = b)) → (v = false → z = ρ y ∨ (∃ b d, asC (ρ y) = .bool b ∧ z = one (.bool d) ∧ d = b)) →
   k (ret z) = some r → ∃ e, k e = some r ∧ Sound P o ρ μ e := fun z h1 h2 hk => by
  refine ⟨_, hk, fun s hρ _ => SemO.val fun B G a w hw => ?_⟩
  have ec := asC_rel (hw.ev c)
  rw [hρ c (by rw [hops]; simp), hc] at ec
  have ec : a.eval c = .bool v := ec
  have ex := hw.ev x
  rw [hρ x (by rw [hops]; simp)] at ex
  have ey := hw.ev y
  rw [hρ y (by rw [hops]; simp)] at ey
  refine ⟨if v then a.eval x else a.eval y, ?_, ?_⟩
  ·simp [execOp, ho, ec, asBool_run]
  ·cases v with
   | true =>
    rcases h1 rfl with e | ⟨b, d, e1, e2, e3⟩
    ·rw [e]; exact ex
    ·have := asC_rel ex; rw [e1] at this; rw [e2, e3]; exact this
   | false =>
    rcases h2 rfl with e | ⟨b, d, e1, e2, e3⟩
    ·rw [e]; exact ey
    ·have := asC_rel ey; rw [e1] at this; rw [e2, e3]; exact this
 split at h
 ·rename_i b1 b2 hx hy
  exact main _ (fun e => .inr ⟨b1, _, hx, rfl, by rw [e]; rfl⟩) (fun e => .inr ⟨b2, _, hy, rfl, by rw [e]; rfl⟩) h
 ·split at h
  ·rename_i hv; exact main _ (fun _ => .inl rfl) (fun e => by rw [hv] at e; cases e) h
  ·rename_i hv; exact main _ (fun e => absurd e hv) (fun _ => .inl rfl) h
theorem op_nilCheck {x : Operand} (ho : o.op = .nilCheck x) (h : opK P H calls ρ μ o k = some r) : ∃ e, k e = some r ∧ Sound P o ρ μ e := by
 simp only [opK, ho] at h
 have hops : o.op.operands = #[x] := by rw [ho]; rfl
 have main : (∀ (G : Gh) (m : Mem) (w : World) (v : Value), CRel G m w (asC (ρ x)) v → (∀ i, asC (ρ x) = .pel i 0 0 → False) ∨ True → (∃ a, v = .pointer (some a)) ∨ (∃ f fs l, v = .func (.func f) fs l) ∨ (∃ b, v = .func (.yield b) #[] #[]) ∨ (∃ t y, v = .iface t y)) →
   k (ret (ρ x)) = some r → ∃ e, k e = some r ∧ Sound P o ρ μ e := fun hv hk => by
  refine ⟨_, hk, fun s hρ _ => SemO.val fun B G a w hw => ⟨a.eval x, ?_, ?_⟩⟩
  ·have ex := asC_rel (hw.ev x)
   rw [hρ x (by rw [hops]; simp)] at ex
   rcases hv G s.mem w _ ex (.inr trivial) with ⟨p, e⟩ | ⟨f, fs, l, e⟩ | ⟨b, e⟩ | ⟨t, y, e⟩ <;> simp [execOp, ho, e]
  ·have ex := hw.ev x
   rw [hρ x (by rw [hops]; simp)] at ex
   exact ex
 split at h
 ·rename_i hc; exact main (fun G m w v r _ => by rw [hc] at r; exact .inl ⟨_, r.2⟩) h
 ·cases h
 ·rename_i hc; exact main (fun G m w v r _ => by rw [hc] at r; obtain ⟨_, _, _, e, _⟩ := r; exact .inl ⟨_, e⟩) h
 ·rename_i hc; exact main (fun G m w v r _ => by rw [hc] at r; rw [r.2]; exact .inr ((fnV_or _ _).imp (fun ⟨g, l, e⟩ => ⟨g, #[], l, e⟩) .inl)) h
 ·rename_i hc; exact main (fun G m w v r _ => by rw [hc] at r; obtain ⟨_, _, e⟩ := r; exact .inr (.inr (.inr ⟨_, _, e⟩))) h
 ·rename_i hc
  exact main (fun G m w v r _ => by
   rw [hc] at r
   simp only [CRel] at r
   split at r <;> (obtain ⟨_, _, e⟩ := r; exact .inr (.inr (.inr ⟨_, _, e⟩)))) h
 ·rename_i hc; exact main (fun G m w v r _ => by rw [hc] at r; obtain ⟨_, _, _, e⟩ := r; exact .inr (.inl ⟨_, _, _, e⟩)) h
 ·cases h
end
end Go.Al
