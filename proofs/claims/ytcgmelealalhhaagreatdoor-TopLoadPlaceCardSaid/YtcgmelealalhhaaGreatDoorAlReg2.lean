/- Regions in the order of their text. -/
import Derived.Test.YtcgmelealalhhaaGreatDoorAlReg
namespace Go.Al
variable {P : Program} {H : Hint}
def rgPut (rg : Nat → AV) (d : Option Nat) (e : Eff) : Nat → AV := fun t => if d = some t then e.val else rg t
def mmPut (mm : Loc → Option Obj) (e : Eff) : Loc → Option Obj := fun l => match lastW e.wr l with | some o => some o | none => mm l
inductive Trace (P : Program) (ops : Array Oper) (n : Nat) : List Oper → (Nat → AV) → (Loc → Option Obj) → List Eff → (Nat → AV) → (Loc → Option Obj) → Prop
 | nil {rg mm} : Trace P ops n [] rg mm [] rg mm
 | cons {o r rg mm e es rg' mm'} : StepOk P ops n o rg mm e → Trace P ops n r (rgPut rg o.dst e) (mmPut mm e) es rg' mm' → Trace P ops n (o :: r) rg mm (e :: es) rg' mm'
def footOf (e : Eff) : List Loc × List Loc := (e.rd, keys e.wr)
theorem app_rg (s : St) (d : Option Nat) (e : Eff) : getR (s.app d e).regs = rgPut (getR s.regs) d e := funext fun t => app_regs s d e t
theorem app_mm (s : St) (d : Option Nat) (e : Eff) : getM (s.app d e).mem = mmPut (getM s.mem) e := funext fun l => app_mem s d e l
theorem asC_bool {x : AV} {b : Bool} (h : asC x = .bool b) : x = one (.bool b) := by
 unfold asC at h
 split at h
 ·rw [h]; rfl
 ·cases h
theorem asC_skp {x : AV} (h : asC x = .skp) : x = one .skp := by
 unfold asC at h
 split at h
 ·rw [h]; rfl
 ·cases h
theorem opsK_trace {R : Type} {calls : Nat → Option CallS} {n : Nat} {ops : Array Oper} (hE : EqOk P H) (hC : CallsOk P calls) {k : St → Foot → Option R} {r : R} : ∀ {l : List Oper} {s : St} {f : Foot},
  opsK P H calls n ops.toList l s f k = some r → ∃ es s', Trace P ops n l (getR s.regs) (getM s.mem) es (getR s'.regs) (getM s'.mem) ∧ k s' (f ++ es.map footOf) = some r
 | [], s, f, h => ⟨[], s, .nil, by simpa [opsK] using h⟩
 | o :: q, s, f, h => by
  simp only [opsK] at h
  obtain ⟨hd, h⟩ := cond_some h
  have hdst : ∀ d, o.dst = some d → d < n := fun d e => by
   rw [e] at hd
   simpa [Nat.blt_eq] using hd
  split at h
  ·rename_i hg
   obtain ⟨e, h2, hS⟩ := opK_sound hE hC h
   obtain ⟨es, s', ht, hk⟩ := opsK_trace hE hC h2
   rw [app_rg, app_mm] at ht
   refine ⟨e :: es, s', .cons ⟨hdst, .inl ⟨by unfold GuardIs; rw [hg], by rw [← ev_evR]; exact hS⟩⟩ ht, by simpa [footOf] using hk⟩
  ·rename_i j want hg
   split at h
   ·rename_i d hj
    have hj' : (ops[j]?).bind (·.dst) = some d := by simpa using hj
    split at h
    ·rename_i b hb
     have hrg : ∀ v, v = b → getR (s.put d (one (.bool v))).regs = getR s.regs := fun v hv => funext fun t => by
      rw [getR_put]
      by_cases e : d = t
      ·subst e; rw [if_pos rfl, asC_bool hb, hv]
      ·rw [if_neg e]
     by_cases hbw : b = want
     ·rw [if_pos hbw] at h
      obtain ⟨e, h2, hS⟩ := opK_sound hE hC h
      obtain ⟨es, s', ht, hk⟩ := opsK_trace hE hC h2
      rw [app_rg, app_mm, hrg want hbw.symm] at ht
      rw [ev_evR, hrg want hbw.symm] at hS
      refine ⟨e :: es, s', .cons ⟨hdst, .inl ⟨?_, hS⟩⟩ ht, by simpa [footOf] using hk⟩
      unfold GuardIs
      rw [hg]
      exact ⟨d, hj', .inl (by rw [asC_bool hb, hbw]; rfl)⟩
     ·rw [if_neg hbw] at h
      have hbn : (!want) = b := by cases b <;> cases want <;> simp_all
      obtain ⟨es, s', ht, hk⟩ := opsK_trace hE hC h
      rw [app_rg, app_mm, hrg _ hbn] at ht
      refine ⟨ret (one .skp) :: es, s', .cons ⟨hdst, .inr ⟨?_, rfl⟩⟩ ht, by simpa [footOf, ret, keys] using hk⟩
      unfold GuardIs
      rw [hg]
      exact ⟨d, hj', .inl (by rw [asC_bool hb, ← hbn]; rfl)⟩
    ·rename_i hb
     obtain ⟨es, s', ht, hk⟩ := opsK_trace hE hC h
     rw [app_rg, app_mm] at ht
     refine ⟨ret (one .skp) :: es, s', .cons ⟨hdst, .inr ⟨?_, rfl⟩⟩ ht, by simpa [footOf, ret, keys] using hk⟩
     unfold GuardIs
     rw [hg]
     exact ⟨d, hj', .inr ⟨rfl, asC_skp hb⟩⟩
    ·cases h
   ·cases h
theorem Trace.len {ops : Array Oper} {n : Nat} {l : List Oper} {rg mm es rg' mm'} (h : Trace P ops n l rg mm es rg' mm') : es.length = l.length := by
 induction h with
 | nil => rfl
 | cons _ _ ih => simp [ih]
theorem Trace.seq {ops : Array Oper} {n : Nat} {l : List Oper} {rg mm es rg' mm'} (h : Trace P ops n l rg mm es rg' mm') {Q : Exit → Act → World → Prop} {B : Beg} (hn : B.nt = n) :
  ∀ (p : Nat) (_ : ∀ i, l[i]? = ops[p + i]?) (s : St) (G : Gh) (a : Act) (w : World), getR s.regs = rg → getM s.mem = mm → WRel P B G s a w →
   (∀ G' s' a' w', getR s'.regs = rg' → getM s'.mem = mm' → WRel P B G' s' a' w' → Q .normal a' w') → wpOpsIn (fw B.rd) 0 P ops Q (List.range' p l.length) a w := by
 induction h with
 | nil => intro p _ s G a w h1 h2 hw hQ; exact hQ G s a w h1 h2 hw
 | cons hst _ ih =>
  intro p hp s G a w h1 h2 hw hQ
  rename_i o r rg mm e es rg' mm' _
  have hi : ops[p]? = some o := by rw [← Nat.add_zero p, ← hp 0]; rfl
  show wpOpsIn (fw B.rd) 0 P ops Q (p :: List.range' (p + 1) r.length) a w
  rw [wpOpsIn_cons]
  refine step_sem hst hi (fun t _ => by rw [h1]) (fun l _ => by rw [h2]) hw hn fun G' a' w' hw' => ?_
  exact ih (p + 1) (fun i => by rw [show p + 1 + i = p + (i + 1) by omega, ← hp (i + 1)]; rfl) _ G' a' w' (by rw [app_rg, h1]) (by rw [app_mm, h2]) hw' hQ
theorem Trace.steps {ops : Array Oper} {n : Nat} {l : List Oper} {rg mm es rg' mm'} (h : Trace P ops n l rg mm es rg' mm') : ∀ (p : Nat) (dst : Nat → Option Nat) (ef : Nat → Eff) (rg0 : Nat → AV) (mm0 : Loc → Option Obj),
  rg = regX dst ef rg0 p (fun _ => true) → mm = memX ef mm0 p (fun _ => true) → (∀ i o, l[i]? = some o → dst (p + i) = o.dst) → (∀ i e, es[i]? = some e → ef (p + i) = e) →
  (∀ i o, l[i]? = some o → StepOk P ops n o (regX dst ef rg0 (p + i) (fun _ => true)) (memX ef mm0 (p + i) (fun _ => true)) (ef (p + i))) ∧ rg' = regX dst ef rg0 (p + l.length) (fun _ => true) ∧ mm' = memX ef mm0 (p + l.length) (fun _ => true) := by
 induction h with
 | nil => intro p dst ef rg0 mm0 h1 h2 _ _; exact ⟨fun i o hi => by simp at hi, h1, h2⟩
 | cons hst _ ih =>
  intro p dst ef rg0 mm0 h1 h2 hd he
  rename_i o r rg mm e es rg' mm' _
  have hd0 : dst p = o.dst := by have := hd 0 o rfl; exact this
  have he0 : ef p = e := by have := he 0 e rfl; exact this
  obtain ⟨i1, i2, i3⟩ := ih (p + 1) dst ef rg0 mm0 (funext fun t => by
    show (if o.dst = some t then e.val else rg t) = (if true = true ∧ dst p = some t then (ef p).val else regX dst ef rg0 p (fun _ => true) t)
    rw [hd0, he0, h1]; simp) (funext fun l => by
    show (match lastW e.wr l with | some o => some o | none => mm l) = (if true = true then (match lastW (ef p).wr l with | some o => some o | none => memX ef mm0 p (fun _ => true) l) else _)
    rw [he0, h2, if_pos rfl])
   (fun i o hi => by rw [show p + 1 + i = p + (i + 1) by omega]; exact hd (i + 1) o (by simpa using hi)) (fun i e hi => by rw [show p + 1 + i = p + (i + 1) by omega]; exact he (i + 1) e (by simpa using hi))
  refine ⟨fun i o' hi => ?_, by rw [i2]; congr 1; simp; omega, by rw [i3]; congr 1; simp; omega⟩
  cases i with
  | zero =>
   simp at hi; subst hi
   show StepOk P ops n o (regX dst ef rg0 p _) (memX ef mm0 p _) (ef p)
   rw [← h1, ← h2, he0]; exact hst
  | succ i =>
   have := i1 i o' (by simpa using hi)
   rw [show p + 1 + i = p + (i + 1) by omega] at this
   exact this
end Go.Al
