/- Slices that are not empty; slices as arrays. -/
import Derived.Test.YtcgmelealalhhaaGreatDoorAlOp7
namespace Go.Al
variable {P : Program} {H : Hint}
section
variable {R : Type} {calls : Nat → Option CallS} {ρ : Operand → AV} {μ : Loc → Option Obj} {o : Oper} {k : Eff → Option R} {r : R}
theorem op_assign {x : Operand} (ho : o.op = .assign x) (h : (bif nzO H (o.dst.getD 0) x then nzK μ (ρ x) k else k (ret (ρ x))) = some r) : ∃ e, k e = some r ∧ Sound P o ρ μ e := by
 have hops : o.op.operands = #[x] := by rw [ho]; rfl
 cases hb : nzO H (o.dst.getD 0) x with
 | false => rw [hb] at h; exact op_move (.inr ho) h
 | true =>
  rw [hb] at h
  have h : nzK μ (ρ x) k = some r := h
  unfold nzK at h
  split at h
  case h_2 => exact op_move (.inr ho) h
  rename_i c hx
  split at h
  case h_2 => exact op_move (.inr ho) h
  rename_i τ xs ex hc
  split at h
  case isFalse => cases h
  rename_i hne
  refine ⟨_, h, fun s hρ hμ => SemO.of fun B G a w hw => ?_⟩
  have hown : ∀ i ∈ ownsOf [c], getM s.mem (.own i) = μ (.own i) := fun i hi => hμ _ (by simp [ownLs_mem hi])
  have ev := hw.ev x
  rw [hρ x (by rw [hops]; simp), hx] at ev
  have hall : All2 (CRel G s.mem w) [c] [a.eval x] := .cons ev .nil
  obtain ⟨G', hM, hE, hS⟩ := hw.mem.frz (ownsOf [c])
  have hfz : freeze μ (ownsOf [c]) = freeze (getM s.mem) (ownsOf [c]) := freeze_congr fun i hi => (hown i hi).symm
  have hrs : [c].map (resolve μ) = [c].map (resolve (getM s.mem)) := resolves_congr fun i hi => (hown i hi).symm
  have hall' := resolve_all hw.mem hE hS hall
  rw [← hrs, List.map_cons, hc] at hall'
  cases hall' with
  | cons h1 _ =>
   obtain ⟨ad, q, e1, e2, e3, e4, e5⟩ := h1
   refine ⟨a.eval x, w, G', .inl (by simp [execOp, ho]), by rw [hfz]; exact hM, by rw [hfz]; exact hE, ?_⟩
   rw [hfz]
   refine ⟨ad, q, e1, e2, e3, fun b hb => ?_, e5⟩
   cases hb
   have hlen : 0 < xs.length := by
    cases xs with
    | nil => simp at hne
    | cons _ _ => simp
   obtain ⟨b, oo, us, e, _⟩ := e3 0 hlen
   rw [e]; rfl
theorem getN_rel {S : Nat → Prop} {w : World} {τ : Ty} {xs : List (den τ)} {b oo : Nat} (h : ∀ i (_ : i < xs.length), ∃ us, Rep S w τ xs[i] us ∧ w.rangeAt b (oo + i * ncell τ) us) :
  ∀ (n j : Nat), j + n < xs.length → ∃ us, Rep S w (pairN τ n) (getN τ n xs j) us ∧ w.rangeAt b (oo + j * ncell τ) us
 | 0, j, hj => by
  obtain ⟨us, h1, h2⟩ := h j (by omega)
  refine ⟨us, ?_, h2⟩
  have : getN τ 0 xs j = xs[j]'(by omega) := by
   show List.getD xs j (dflt τ) = _
   rw [List.getD, List.getElem?_eq_getElem (show j < xs.length by omega)]; rfl
  rw [this]; exact h1
 | n + 1, j, hj => by
  obtain ⟨us, h1, h2⟩ := h j (by omega)
  obtain ⟨vs, h3, h4⟩ := getN_rel h n (j + 1) (by omega)
  refine ⟨us ++ vs, ⟨us, vs, rfl, ?_, h3⟩, ?_⟩
  ·have : (getN τ (n + 1) xs j).1 = xs[j]'(by omega) := by
    show List.getD xs j (dflt τ) = _
    rw [List.getD, List.getElem?_eq_getElem (show j < xs.length by omega)]; rfl
   rw [this]; exact h1
  ·intro i v hv
   rw [List.getElem?_append] at hv
   split at hv
   ·exact h2 i v hv
   ·have := h4 (i - us.length) v hv
    rw [h1.len] at *
    rw [show oo + (j + 1) * ncell τ + (i - ncell τ) = oo + j * ncell τ + i by
     have : ¬ i < ncell τ := ‹_›
     rw [Nat.add_mul]; omega] at this
    exact this
theorem op_arrayAt {ty : Nat} {x : Operand} (ho : o.op = .sliceToArrayPointer ty x) (h : arrayK P ty (asC (ρ x)) k = some r) : ∃ e, k e = some r ∧ Sound P o ρ μ e := by
 unfold arrayK at h
 have hops : o.op.operands = #[x] := by rw [ho]; rfl
 split at h
 case h_2 => cases h
 rename_i len e hu
 split at h
 case h_2 => cases h
 rename_i n τ xs nl ex hs hx
 obtain ⟨_, h⟩ := cond_some h
 split at h
 case isFalse => cases h
 rename_i hle
 have hle := Nat.le_of_ble_eq_true hle
 refine ⟨_, h, fun s hρ hμ => SemO.val fun B G a w hw => ?_⟩
 have ev := asC_rel (hw.ev x)
 rw [hρ x (by rw [hops]; simp), hx] at ev
 obtain ⟨ad, q, e1, e2, e3, _⟩ := ev
 obtain ⟨b, oo, us, e4, e5, _⟩ := e3 0 (by omega)
 subst e4
 obtain ⟨vs, h3, h4⟩ := getN_rel (b := b) (oo := oo) (fun i hi => by
  obtain ⟨b', o', us, q1, _, q2, q3⟩ := e3 i hi
  cases q1
  exact ⟨us, q2, q3⟩) len 0 (by omega)
 refine ⟨.pointer (some ⟨b, oo, none⟩), ?_, b, oo, vs, rfl, e5, h3, by simpa using h4⟩
 have : ¬ xs.length < len + 1 := by omega
 simp [execOp, ho, e1, Instr.arrayAt, run_underlying hu, this]
end
end Go.Al
