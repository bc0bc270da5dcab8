/- A block that holds no cells is turned: all that is known stays. -/
import Derived.Test.YtcgmelealalhhaaGreatDoorAlLoop
namespace Go.Al
variable {P : Program} {H : Hint}
def NoCells (w : World) (r : Nat) : Prop := ∀ o, w.cell? ⟨r, o, none⟩ = none
theorem NoCells.range {w : World} {r b o : Nat} {us : List Value} (h : NoCells w r) (hr : w.rangeAt b o us) (hu : us ≠ []) : b ≠ r := fun e => by
 subst e
 obtain ⟨u, hj⟩ : ∃ u, us[0]? = some u := by
  cases us with
  | nil => exact absurd rfl hu
  | cons u _ => exact ⟨u, rfl⟩
 have := hr 0 u hj
 rw [h] at this; cases this
theorem Rep.off {S : Nat → Prop} {w : World} {r : Nat} (h : NoCells w r) : ∀ {τ : Ty} {x : den τ} {vs : List Value}, Rep S w τ x vs → Rep (fun b => S b ∧ b ≠ r) w τ x vs
 | .int _, _, _, h => h
 | .bool, _, _, h => h
 | .str, _, _, h => h
 | .pair a b, x, vs, h' => by
  obtain ⟨v1, v2, rfl, h1, h2⟩ := h'
  exact ⟨v1, v2, rfl, h1.off h, h2.off h⟩
 | .list t, _, _, h' => by
  obtain ⟨ad, c, rfl, hc, hi⟩ := h'
  exact ⟨ad, c, rfl, hc, fun i hlt => by
   obtain ⟨b, o, us, e, hb, hr, hcell⟩ := hi i hlt
   refine ⟨b, o, us, e, ⟨hb, h.range hcell fun e => ?_⟩, hr.off h, hcell⟩
   have := hr.len; rw [e] at this; have := ncell_pos t; simp at *; omega⟩
 | .alt i a ia j b jb, x, vs, h' => by
  cases x with
  | inl y => obtain ⟨us, hr, rfl⟩ := h'; exact ⟨us, hr.off h, rfl⟩
  | inr y => obtain ⟨us, hr, rfl⟩ := h'; exact ⟨us, hr.off h, rfl⟩
def Gh.off (G : Gh) (r : Nat) : Gh := ⟨fun b => G.S b ∧ b ≠ r, G.β, G.κ⟩
theorem CRel.off {G : Gh} {m : Mem} {w : World} {r : Nat} (h : NoCells w r) {c : C} {v : Value} (hc : CRel G m w c v) : CRel (G.off r) m w c v := by
 cases c <;> try exact hc
 case sl τ xs nl ex =>
  obtain ⟨ad, c, e, h1, h2, h3⟩ := hc
  refine ⟨ad, c, e, h1, fun i hi => ?_, h3⟩
  obtain ⟨b, o, us, e, hb, hr, hcell⟩ := h2 i hi
  refine ⟨b, o, us, e, ⟨hb, h.range hcell fun e => ?_⟩, hr.off h, hcell⟩
  have := hr.len; rw [e] at this; have := ncell_pos τ; simp at *; omega
 case er τ x off =>
  obtain ⟨b, o, us, e, hb, hr, hcell⟩ := hc
  refine ⟨b, o, us, e, ⟨hb, h.range hcell fun e => ?_⟩, hr.off h, hcell⟩
  have := hr.len; rw [e] at this; have := ncell_pos τ; simp at *; omega
 case ifc t τ ag x => obtain ⟨us, hr, e⟩ := hc; exact ⟨us, hr.off h, e⟩
 case ifs i a ia j b jb x =>
  cases x with
  | inl y => obtain ⟨us, hr, e⟩ := hc; exact ⟨us, hr.off h, e⟩
  | inr y => obtain ⟨us, hr, e⟩ := hc; exact ⟨us, hr.off h, e⟩
 case fnb f τ ag x => obtain ⟨hf, us, hr, e⟩ := hc; exact ⟨hf, us, hr.off h, e⟩
theorem CsRel.off {G : Gh} {m : Mem} {w : World} {r : Nat} (h : NoCells w r) {x : A1} {vs : List Value} (hc : CsRel G m w x vs) : CsRel (G.off r) m w x vs := by
 cases x with
 | one c => obtain ⟨v, e, hc⟩ := hc; exact ⟨v, e, hc.off h⟩
 | agg l => exact hc.imp fun _ _ h' => h'.off h
 | arr τ n xs => exact ⟨hc.1, hc.2.1, hc.2.2.imp fun _ _ h' => h'.off h⟩
 | lp => exact hc.elim
 | mp => exact hc.elim
theorem A1Rel.off {G : Gh} {m : Mem} {w : World} {r : Nat} (h : NoCells w r) {x : A1} {v : Value} (hc : A1Rel G m w x v) : A1Rel (G.off r) m w x v := by
 cases x with
 | one c => exact CRel.off h hc
 | agg l => obtain ⟨vs, e, hc⟩ := hc; exact ⟨vs, e, hc.imp fun _ _ h' => h'.off h⟩
 | arr τ n xs => obtain ⟨vs, e, h1, h2, hc⟩ := hc; exact ⟨vs, e, h1, h2, hc.imp fun _ _ h' => h'.off h⟩
 | lp => exact hc.elim
 | mp => exact hc.elim
theorem AVRel.off {G : Gh} {m : Mem} {w : World} {r : Nat} (h : NoCells w r) {x : AV} {v : Value} (hc : AVRel G m w x v) : AVRel (G.off r) m w x v := by
 cases x with
 | a x => exact A1Rel.off h hc
 | tup l => obtain ⟨vs, e, hc⟩ := hc; exact ⟨vs, e, hc.imp fun _ _ h' => h'.off h⟩
section
variable {B : Beg} {G : Gh} {m : Mem} {w w' : World} {r : Nat}
theorem off_ext (hblk : ∀ b, b ≠ r → w'.heap[b]? = w.heap[b]?) : Ext (G.off r) m w G m w' := ⟨fun _ h => h.1, fun b hb => hblk b hb.2, fun _ o h => ⟨o, h, Ch.refl o, rfl, fun _ _ => rfl⟩⟩
theorem rangeAt_off (h : NoCells w r) (hblk : ∀ b, b ≠ r → w'.heap[b]? = w.heap[b]?) {b o : Nat} {us : List Value} (hr : w.rangeAt b o us) : w'.rangeAt b o us := by
 cases us with
 | nil => exact fun j u hj => by simp at hj
 | cons u us => exact rangeAt_same hr (hblk b (h.range hr (by simp)))
theorem MRel.off (hM : MRel P B G m w) (h : NoCells w r) (hS : G.S r) (hr : B.w0.heap.size ≤ r) (hsz : w'.heap.size = w.heap.size) (hblk : ∀ b, b ≠ r → w'.heap[b]? = w.heap[b]?) (hio : SameIo w w' := by exact ⟨rfl, rfl⟩) : MRel P B G m w' := by
 refine ⟨fun l o ho => ?_, hM.inj, hM.wr, fun l hl => by rw [hsz]; exact hM.lt l hl, fun b hb => by rw [hsz]; exact hM.ltS b hb, hM.new, by rw [hsz]; exact hM.grow, fun b hb hn hg => ?_, hM.s0, hM.s1, hM.outs, ⟨hio.1.trans hM.io.1, hio.2.trans hM.io.2⟩, fun g k xs e => ⟨(hM.tab g k xs e).1, rangeAt_off h hblk (hM.tab g k xs e).2⟩⟩
 ·have hE : Ext (G.off r) m w G m w' := off_ext hblk
  have hobj := hM.objs l o ho
  cases o with
  | dead => trivial
  | bx v =>
   have hW : Writ G m l := by unfold Writ; rw [ho]; trivial
   have hne : G.β l ≠ r := fun e => hM.wr l hW (e ▸ hS)
   rcases hobj with ⟨vs, h1, h2, h3⟩ | hlp
   case inr => exact .inr (hlp.imp (fun _ _ hc => hE.C (hc.off h)) (fun _ _ _ _ _ _ _ _ hr => (hr.off h).mono hE.S hE.heap) (hblk _ hne))
   refine .inl ⟨vs, hE.Cs (h1.off h), rangeAt_same h2 (hblk _ hne), fun j hj => ?_⟩
   rw [World.frozen?_of_block (a := ⟨G.β l, j, none⟩) (hblk _ hne)]; exact h3 j hj
  | sl τ xs fr =>
   obtain ⟨i, e, h1, h2, h3, h4⟩ := hobj
   refine ⟨i, e, h1, h2, fun j hj => ?_, fun hf j hj => ?_⟩
   ·obtain ⟨us, hr, hc⟩ := h3 j hj
    exact ⟨us, (hr.off h).mono hE.S hE.heap, rangeAt_off h hblk hc⟩
   ·obtain ⟨q1, q2⟩ := h4 hf j hj
    have hne : G.β l ≠ r := fun e => by
     rw [e] at q1; rw [h] at q1; cases q1
    have hb := hblk _ hne
    exact ⟨by rw [World.cell?_of_block (a := ⟨G.β l, j, none⟩) hb]; exact q1, by rw [World.frozen?_of_block (a := ⟨G.β l, j, none⟩) hb]; exact q2⟩
 ·rw [hblk b (by omega)]; exact hM.kept b hb hn hg
theorem WRel.off {s : St} {a : Act} (hW : WRel P B G s a w) (h : NoCells w r) (hS : G.S r) (hr : B.w0.heap.size ≤ r) (hsz : w'.heap.size = w.heap.size) (hblk : ∀ b, b ≠ r → w'.heap[b]? = w.heap[b]?)
  {ds : List Deferred} (hd : Marks B G w' ds) (hio : SameIo w w' := by exact ⟨rfl, rfl⟩) : WRel P B G s { a with defers := ds } w' :=
 ⟨fun t => (off_ext hblk).AV ((hW.regs t).off h), hW.size, hd, hW.mem.off h hS hr hsz hblk hio⟩
theorem noCells_deferred {ds : Option (List Deferred)} (h : w.heap[r]? = some (.deferred ds)) : NoCells w r := fun o => by
 simp [World.cell?, h]
theorem noCells_loop {lp : Loop} (h : w.heap[r]? = some (.loop lp)) : NoCells w r := fun o => by
 simp [World.cell?, h]
end
theorem leaves_marks {fn : Func} {tmps : Array Value} {R : Ending → World → Prop} {B : Beg} {G : Gh} {s : St} : ∀ (ds : List Deferred) (a : Act) (w : World), a.tmps = tmps → WRel P B G s { a with defers := ds } w →
  (∀ w', WRel P B G s { a with defers := [] } w' → ∃ v, (results fn tmps).run P w' = .ok v w' ∧ R (.returned v) w') → LeavesInM (fw none) 0 P fn tmps R ds .returning w
 | [], a, w, ha, hw, hfin => hfin w hw
 | d :: ds, a, w, ha, hw, hfin => by
  obtain ⟨hn, hmk⟩ := hw.nod
  obtain ⟨r, rfl, hS, hh, hr⟩ := hmk d List.mem_cons_self
  refine ⟨by simp, .inl ⟨r, _, rfl, run_takeDeferred hh, ?_⟩⟩
  have hlt := (Array.getElem?_eq_some_iff.1 hh).1
  obtain ⟨hn1, hn2⟩ := List.nodup_cons.1 hn
  refine leaves_marks ds a _ ha (hw.off (a := { a with defers := _ }) (noCells_deferred hh) hS hr (by simp) (fun b hb => World.putObj_heap_other hb) ⟨hn2, fun d' hd' => ?_⟩) hfin
  obtain ⟨r', rfl, hS', hh', hr'⟩ := hmk d' (List.mem_cons_of_mem _ hd')
  have hne : r' ≠ r := fun e => by subst e; exact hn1 hd'
  exact ⟨r', rfl, hS', by rw [World.putObj_heap_other hne]; exact hh', hr'⟩
end Go.Al
