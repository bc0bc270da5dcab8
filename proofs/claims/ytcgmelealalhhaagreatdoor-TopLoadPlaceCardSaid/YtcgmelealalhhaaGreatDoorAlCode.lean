/- Code. -/
import Derived.Test.YtcgmelealalhhaaGreatDoorAlReg3
namespace Go.Al
variable {P : Program} {H : Hint} {rb : Bool}
theorem Ext.same {G : Gh} {m m' : Mem} {w : World} (h : getM m = getM m') : Ext G m w G m' w := ⟨fun _ h => h, fun _ _ => rfl, fun l o ho => ⟨o, by rw [← h]; exact ho, Ch.refl o, rfl, fun _ _ => rfl⟩⟩
theorem MRel.congr {B : Beg} {G : Gh} {m m' : Mem} {w : World} (h : MRel P B G m w) (e : getM m = getM m') : MRel P B G m' w := by
 have hR : ∀ l, Real G m' l → Real G m l := fun l => by unfold Real; rw [e]; exact id
 have hW : ∀ l, Writ G m' l → Writ G m l := fun l => by unfold Writ; rw [e]; exact id
 exact ⟨fun l o ho => (Ext.same e).O rfl (fun _ _ => rfl) rfl (h.objs l o (by rw [e]; exact ho)), fun l l' h1 h2 => h.inj l l' (hR l h1) (hR l' h2), fun l hl => h.wr l (hW l hl), fun l hl => h.lt l (hR l hl), h.ltS,
  fun l hl => h.new l (hR l hl), h.grow, h.kept, h.s0, h.s1, fun j hj => by obtain ⟨x, hx⟩ := h.outs j hj; exact ⟨x, by rw [← e]; exact hx⟩, h.io, h.tab⟩
theorem WRel.congr {B : Beg} {G : Gh} {s s' : St} {a : Act} {w : World} (h : WRel P B G s a w) (e1 : getR s.regs = getR s'.regs) (e2 : getM s.mem = getM s'.mem) : WRel P B G s' a w :=
 ⟨fun t => by rw [← e1]; exact (Ext.same e2).AV (h.regs t), h.size, h.nod.ext (Ext.same e2), h.mem.congr e2⟩
theorem WRel.drew {B : Beg} {G : Gh} {s : St} {a : Act} {w : World} (h : WRel P B G s a w) : WRel P B G s a w.drew :=
 ⟨fun t => (Ext.drew _ _ _).AV (h.regs t), h.size, h.nod.ext (Ext.drew G s.mem w), h.mem.drew⟩
def X.exit : X → Exit
 | .nrm => .normal | .ext id => .exit id | .ret => .ret
def Runs (P : Program) (rb : Bool) (n : Nat) (c : Code) (s : St) (x : X) (s' : St) : Prop :=
 ∀ (B : Beg) (G : Gh) (a : Act) (w : World) (Q : Exit → Act → World → Prop), B.nt = n → B.rd.isSome = rb → WRel P B G s a w → (∀ G' a' w', WRel P B G' s' a' w' → Q x.exit a' w') → c.wpIn (fw B.rd) 0 P Q a w
def OrcOk (P : Program) (rb : Bool) (n : Nat) (c : Code) (g : Orc) : Prop :=
 ∀ (R : Type) (s : St) (k : X → St → Option R) (r : R), g.run R s k = some r → ∃ x s', k x s' = some r ∧ Runs P rb n c s x s'
inductive At (root : Code) : Nat → Code → Prop
 | root : At root 1 root
 | seqL {p a b} : At root p (.seq a b) → At root (2 * p) a
 | seqR {p a b} : At root p (.seq a b) → At root (2 * p + 1) b
 | condL {p c a b} : At root p (.cond c a b) → At root (2 * p) a
 | condR {p c a b} : At root p (.cond c a b) → At root (2 * p + 1) b
 | block {p id a} : At root p (.block id a) → At root (2 * p) a
theorem At.pos {root : Code} {p : Nat} {c : Code} (h : At root p c) : 1 ≤ p := by
 induction h <;> omega
theorem At.code {root : Code} {p : Nat} {c : Code} (h : At root p c) : ∀ f, p ≤ f → codeAt root f p = some c := by
 have nb : ∀ p, 1 ≤ p → Nat.ble (2 * p) 1 = false ∧ Nat.ble (2 * p + 1) 1 = false := fun p hp => by
  constructor <;> (cases h : Nat.ble _ 1 with | false => rfl | true => have := Nat.le_of_ble_eq_true h; omega)
 induction h with
 | root => intro f hf; cases f <;> rfl
 | seqL h ih =>
  intro f hf
  have hp := h.pos
  obtain ⟨f, rfl⟩ : ∃ g, f = g + 1 := ⟨f - 1, by omega⟩
  rename_i p _ _
  rw [codeAt, (nb p hp).1, show 2 * p / 2 = p by omega, ih f (by omega), show 2 * p % 2 = 0 by omega]; rfl
 | seqR h ih =>
  intro f hf
  have hp := h.pos
  obtain ⟨f, rfl⟩ : ∃ g, f = g + 1 := ⟨f - 1, by omega⟩
  rename_i p _ _
  rw [codeAt, (nb p hp).2, show (2 * p + 1) / 2 = p by omega, ih f (by omega), show (2 * p + 1) % 2 = 1 by omega]; rfl
 | condL h ih =>
  intro f hf
  have hp := h.pos
  obtain ⟨f, rfl⟩ : ∃ g, f = g + 1 := ⟨f - 1, by omega⟩
  rename_i p _ _ _
  rw [codeAt, (nb p hp).1, show 2 * p / 2 = p by omega, ih f (by omega), show 2 * p % 2 = 0 by omega]; rfl
 | condR h ih =>
  intro f hf
  have hp := h.pos
  obtain ⟨f, rfl⟩ : ∃ g, f = g + 1 := ⟨f - 1, by omega⟩
  rename_i p _ _ _
  rw [codeAt, (nb p hp).2, show (2 * p + 1) / 2 = p by omega, ih f (by omega), show (2 * p + 1) % 2 = 1 by omega]; rfl
 | block h ih =>
  intro f hf
  have hp := h.pos
  obtain ⟨f, rfl⟩ : ∃ g, f = g + 1 := ⟨f - 1, by omega⟩
  rename_i p _ _
  rw [codeAt, (nb p hp).1, show 2 * p / 2 = p by omega, ih f (by omega)]; rfl
theorem region_nodraw {n : Nat} {id : Nat} {ops : Array Oper} {s s' : St} {es : List Eff} (h : Trace P ops n ops.toList (getR s.regs) (getM s.mem) es (getR s'.regs) (getM s'.mem)) : Runs P rb n (.region id ops false) s .nrm s' := by
 intro B G a w Q hn hrd hw hQ
 refine wpIn_region ?_
 have := h.seq (Q := Q) hn 0 (fun i => by simp) s G a w rfl rfl hw fun G' s2 a' w' e1 e2 hw' => hQ G' a' w' (hw'.congr e1 e2)
 rw [List.range_eq_range']
 simpa using this
theorem region_drawn (hm : P.follows .mixedOrders = true) {n : Nat} {id : Nat} {ops : Array Oper} {s s' : St} {es : List Eff} (h : Trace P ops n ops.toList (getR s.regs) (getM s.mem) es (getR s'.regs) (getM s'.mem))
  (hd : drawOk ops (es.map footOf) = true) : Runs P rb n (.region id ops true) s .nrm s' := by
 intro B G a w Q hn hrd hw hQ
 refine wpIn_region_any hm ?_
 have hlen : es.length = ops.size := by rw [h.len]; simp
 obtain ⟨h1, h2⟩ := drawOk_spec hlen hd
 obtain ⟨i1, i2, i3⟩ := h.steps 0 (fun i => (ops[i]?).bind (·.dst)) (fun i => es.getD i (ret (one .und))) (getR s.regs) (getM s.mem) rfl rfl (fun i o hi => by
  have : ops[i]? = some o := by simpa using hi
  simp [this]) (fun i e hi => by simp [List.getD_eq_getElem?_getD, hi])
 simp only [Nat.zero_add] at i1 i2 i3
 have hsz : ops.toList.length = ops.size := by simp
 rw [hsz] at i2 i3
 have hrep : ∀ j, (Array.replicate ops.size false).getD j false = false := fun j => by
  rw [Array.getD_eq_getD_getElem?]
  cases hg : (Array.replicate ops.size false)[j]? with
  | none => rfl
  | some b => have := Array.getElem?_replicate (n := ops.size) (v := false) (i := j); rw [hg] at this; split at this <;> simp_all
 have hX : (fun j => (Array.replicate ops.size false).getD j false) = fun j => decide (j < 0) := funext fun j => by rw [hrep]; simp
 refine draw_sound (P := P) (dst := fun i => (ops[i]?).bind (·.dst)) (ef := fun i => es.getD i (ret (one .und))) (rg0 := getR s.regs) (mm0 := getM s.mem) (fun i o hi => by simp [hi])
  (fun i o hi => i1 i o (by simpa using hi)) h1 h2 hn (fun G' s2 a' w' e1 e2 hw' => hQ G' a' w' (hw'.congr (e1.trans i2.symm) (e2.trans i3.symm))) ops.size (Array.replicate ops.size false) (by simp) ?_ ?_ s G a w.drew ?_ ?_ hw.drew
 ·intro j o _ hj
  simp only [hrep] at hj; cases hj
 ·exact Nat.le_trans (List.length_filter_le _ _) (by simp)
 ·rw [hX]; exact funext fun t => (regX_below (Nat.zero_le _)).symm
 ·rw [hX]; exact funext fun t => (memX_below (Nat.zero_le _)).symm
theorem cond_rel {B : Beg} {G : Gh} {s : St} {a : Act} {w : World} (h : WRel P B G s a w) {c : Operand} {v : Bool} (e : asC (ev s c) = .bool v) : a.eval c = .bool v := by
 have := asC_rel (h.ev c)
 rw [e] at this; exact this
theorem codeK_sound (hm : P.follows .mixedOrders = true) {R : Type} {calls : Nat → Option CallS} {orc : Nat → Option Orc} {n : Nat} (hE : EqOk P H) (hC : CallsOk P calls) {root : Code}
  (hO : ∀ p g c, orc p = some g → At root p c → OrcOk P rb n c g) : ∀ (c : Code) (p : Nat) (s : St) (k : X → St → Option R) (r : R), At root p c → codeK P H calls orc n c p s k = some r →
  ∃ x s', k x s' = some r ∧ Runs P rb n c s x s' := by
 intro c
 induction c with
 | skip =>
  intro p s k r hA h
  unfold codeK at h
  split at h
  ·rename_i g hg; exact hO p g _ hg hA R s k r h
  ·exact ⟨_, _, h, fun B G a w Q _ _ hw hQ => wpIn_skip (hQ G a w hw)⟩
 | region id ops draw =>
  intro p s k r hA h
  unfold codeK at h
  split at h
  ·rename_i g hg; exact hO p g _ hg hA R s k r h
  ·simp only at h
   obtain ⟨es, s', ht, hk⟩ := opsK_trace hE hC h
   obtain ⟨hd, hk⟩ := cond_some hk
   refine ⟨_, _, hk, ?_⟩
   cases draw with
   | false => exact region_nodraw ht
   | true => exact region_drawn hm ht (by simpa using hd)
 | seq a b iha ihb =>
  intro p s k r hA h
  unfold codeK at h
  split at h
  ·rename_i g hg; exact hO p g _ hg hA R s k r h
  ·simp only at h
   obtain ⟨x, s', hk, hr⟩ := iha _ _ _ _ hA.seqL h
   cases x with
   | nrm =>
    obtain ⟨x2, s2, hk2, hr2⟩ := ihb _ _ _ _ hA.seqR hk
    exact ⟨x2, s2, hk2, fun B G a w Q hn hrd hw hQ => wpIn_seq (hr B G a w _ hn hrd hw fun G' a' w' hw' => hr2 B G' a' w' Q hn hrd hw' hQ)⟩
   | ext id => exact ⟨.ext id, s', hk, fun B G a w Q hn hrd hw hQ => wpIn_seq (hr B G a w _ hn hrd hw hQ)⟩
   | ret => exact ⟨.ret, s', hk, fun B G a w Q hn hrd hw hQ => wpIn_seq (hr B G a w _ hn hrd hw hQ)⟩
 | cond c a b iha ihb =>
  intro p s k r hA h
  unfold codeK at h
  split at h
  ·rename_i g hg; exact hO p g _ hg hA R s k r h
  ·simp only at h
   split at h
   ·rename_i v hv
    split at h
    ·rename_i hvt
     obtain ⟨x, s', hk, hr⟩ := iha _ _ _ _ hA.condL h
     exact ⟨x, s', hk, fun B G a w Q hn hrd hw hQ => wpIn_cond_true (by rw [cond_rel hw hv, hvt]) (hr B G a w Q hn hrd hw hQ)⟩
    ·rename_i hvt
     obtain ⟨x, s', hk, hr⟩ := ihb _ _ _ _ hA.condR h
     exact ⟨x, s', hk, fun B G a w Q hn hrd hw hQ => wpIn_cond_false (by rw [cond_rel hw hv]; simpa using hvt) (hr B G a w Q hn hrd hw hQ)⟩
   ·cases h
 | block id a iha =>
  intro p s k r hA h
  unfold codeK at h
  split at h
  ·rename_i g hg; exact hO p g _ hg hA R s k r h
  ·simp only at h
   obtain ⟨x, s', hk, hr⟩ := iha _ _ _ _ hA.block h
   cases x with
   | nrm => exact ⟨.nrm, s', hk, fun B G a w Q hn hrd hw hQ => wpIn_block (hr B G a w _ hn hrd hw hQ)⟩
   | ret => exact ⟨.ret, s', hk, fun B G a w Q hn hrd hw hQ => wpIn_block (hr B G a w _ hn hrd hw hQ)⟩
   | ext i =>
    simp only at hk
    cases hb : Nat.beq i id with
    | true =>
     rw [hb] at hk
     exact ⟨.nrm, s', hk, fun B G a w Q hn hrd hw hQ => wpIn_block (hr B G a w _ hn hrd hw fun G' a' w' hw' => by
      show Exit.inBlock id Q (.exit i) a' w'
      simp only [Exit.inBlock]
      rw [if_pos (Nat.eq_of_beq_eq_true hb)]; exact hQ G' a' w' hw')⟩
    | false =>
     rw [hb] at hk
     exact ⟨.ext i, s', hk, fun B G a w Q hn hrd hw hQ => wpIn_block (hr B G a w _ hn hrd hw fun G' a' w' hw' => by
      show Exit.inBlock id Q (.exit i) a' w'
      simp only [Exit.inBlock]
      rw [if_neg (Nat.ne_of_beq_eq_false hb)]; exact hQ G' a' w' hw')⟩
 | exit id =>
  intro p s k r hA h
  unfold codeK at h
  split at h
  ·rename_i g hg; exact hO p g _ hg hA R s k r h
  ·exact ⟨_, _, h, fun B G a w Q _ _ hw hQ => wpIn_exit (hQ G a w hw)⟩
 | ret =>
  intro p s k r hA h
  unfold codeK at h
  split at h
  ·rename_i g hg; exact hO p g _ hg hA R s k r h
  ·exact ⟨_, _, h, fun B G a w Q _ _ hw hQ => wpIn_ret (hQ G a w hw)⟩
 | _ =>
  intro p s k r hA h
  unfold codeK at h
  split at h
  ·rename_i g hg; exact hO p g _ hg hA R s k r h
  ·simp at h
end Go.Al
