/- Regions: what one operation of a region does, and the runs of a region in whatever order. -/
import Derived.Test.YtcgmelealalhhaaGreatDoorAlAll
namespace Go.Al
variable {P : Program} {H : Hint}
def lastW : List (Loc × Obj) → Loc → Option Obj
 | [], _ => none
 | (l0, o) :: r, l => match lastW r l with | some x => some x | none => if l0 = l then some o else none
theorem getM_setMs : ∀ (wr : List (Loc × Obj)) (m : Mem) (l : Loc), getM (setMs m wr) l = match lastW wr l with | some o => some o | none => getM m l
 | [], _, _ => rfl
 | (l0, o) :: r, m, l => by
  rw [setMs, getM_setMs r, lastW, getM_cons]
  cases lastW r l with
  | some x => rfl
  | none => by_cases e : l0 = l <;> simp [e]
theorem lastW_keys : ∀ {wr : List (Loc × Obj)} {l : Loc} {o : Obj}, lastW wr l = some o → l ∈ keys wr
 | (l0, o0) :: r, l, o, h => by
  simp only [lastW] at h
  split at h
  ·rename_i x hx
   exact List.mem_cons_of_mem _ (lastW_keys hx)
  ·by_cases e : l0 = l
   ·subst e; exact List.mem_cons_self
   ·rw [if_neg e] at h; cases h
def evR (rg : Nat → AV) : Operand → AV
 | .tmp t => rg t | .const v => constA v | .func f => .a (.one (bif Nat.blt f yB then .fn f [] else .und)) | .global _ => .a (.one .und)
theorem ev_evR (s : St) : ev s = evR (getR s.regs) := by
 funext x; cases x <;> rfl
def GuardIs (ops : Array Oper) (o : Oper) (rg : Nat → AV) (b : Bool) : Prop := match o.guard with
 | none => b = true
 | some (j, want) => ∃ d, (ops[j]?).bind (·.dst) = some d ∧ (rg d = one (.bool (if b then want else !want)) ∨ (b = false ∧ rg d = one .skp))
structure StepOk (P : Program) (ops : Array Oper) (n : Nat) (o : Oper) (rg : Nat → AV) (mm : Loc → Option Obj) (e : Eff) : Prop where
 dst : ∀ d, o.dst = some d → d < n
 run : (GuardIs ops o rg true ∧ Sound P o (evR rg) mm e) ∨ (GuardIs ops o rg false ∧ e = ret (one .skp))
theorem yields {B : Beg} {G : Gh} {s : St} {a : Act} {w : World} (h : WRel P B G s a w) {ops : Array Oper} {j d : Nat} {b : Bool} (hj : (ops[j]?).bind (·.dst) = some d) (hb : getR s.regs d = one (.bool b)) :
  yielded ops a.tmps j = some b := by
 have hr := h.regs d
 rw [hb] at hr
 have hr : a.tmps.getD d undef = .bool b := hr
 unfold yielded
 rw [hj, Option.bind_some]
 have : a.tmps[d]? = some (.bool b) := by
  rw [Array.getD_eq_getD_getElem?] at hr
  cases hg : a.tmps[d]? with
  | none => rw [hg] at hr; simp [undef] at hr
  | some v => rw [hg] at hr; simp at hr; rw [hr]
 rw [this]
theorem yields_skp {B : Beg} {G : Gh} {s : St} {a : Act} {w : World} (h : WRel P B G s a w) {ops : Array Oper} {j d : Nat} (hj : (ops[j]?).bind (·.dst) = some d) (hb : getR s.regs d = one .skp) :
  yielded ops a.tmps j = none := by
 have hr := h.regs d
 rw [hb] at hr
 have hr : a.tmps.getD d undef = undef := hr
 unfold yielded
 rw [hj, Option.bind_some]
 rw [Array.getD_eq_getD_getElem?] at hr
 cases hg : a.tmps[d]? with
 | none => rfl
 | some v => rw [hg] at hr; simp at hr; rw [hr]; rfl
theorem app_regs (s : St) (dst : Option Nat) (e : Eff) (t : Nat) : getR (s.app dst e).regs t = if dst = some t then e.val else getR s.regs t := by
 unfold St.app
 cases dst with
 | none => simp
 | some d => simp only [getR, nat_beq]; by_cases h : d = t <;> simp [h]
theorem app_mem (s : St) (dst : Option Nat) (e : Eff) (l : Loc) : getM (s.app dst e).mem l = match lastW e.wr l with | some o => some o | none => getM s.mem l := getM_setMs _ _ _
theorem step_sem {ops : Array Oper} {n : Nat} {o : Oper} {rg : Nat → AV} {mm : Loc → Option Obj} {e : Eff} (h : StepOk P ops n o rg mm e) {i : Nat} (hi : ops[i]? = some o) {s : St}
  (hr : ∀ t ∈ o.looksAt ops, getR s.regs t = rg t) (hm : ∀ l ∈ e.rd ++ keys e.wr, getM s.mem l = mm l) {B : Beg} {G : Gh} {a : Act} {w : World} (hw : WRel P B G s a w) (hn : B.nt = n)
  {K : Act → World → Prop} {Q : Exit → Act → World → Prop} (hK : ∀ G' a' w', WRel P B G' (s.app o.dst e) a' w' → K a' w') : wpOpIn (fw B.rd) 0 P ops Q i K a w := by
 have hg : ∀ b, GuardIs ops o rg b → Region.wanted o (yielded ops a.tmps) = b := fun b hb => by
  unfold GuardIs at hb
  unfold Region.wanted
  cases hgd : o.guard with
  | none => rw [hgd] at hb; exact hb.symm
  | some jw =>
   obtain ⟨j, want⟩ := jw
   rw [hgd] at hb
   obtain ⟨d, hd, hv⟩ := hb
   have hlook : d ∈ o.looksAt ops := by
    unfold Oper.looksAt
    rw [hgd]
    refine List.mem_append_right _ ?_
    show d ∈ ((ops[j]?).bind (·.dst)).toList
    rw [hd]; simp
   rcases hv with hv | ⟨rfl, hv⟩
   ·have := yields hw hd ((hr d hlook).trans hv)
    show (yielded ops a.tmps j == some want) = b
    rw [this]
    cases b <;> cases want <;> rfl
   ·have := yields_skp hw hd ((hr d hlook).trans hv)
    show (yielded ops a.tmps j == some want) = false
    rw [this]; rfl
 unfold wpOpIn
 rw [hi]
 rcases h.run with ⟨hgb, hS⟩ | ⟨hgb, rfl⟩
 ·show if Region.wanted o (yielded ops a.tmps) = true then _ else _
  rw [hg _ hgb, if_pos rfl]
  refine (hS s (fun x hx => ?_) hm B G a w K Q hw (fun d hd => by rw [hn]; exact h.dst d hd) hK)
  rw [ev_evR]
  cases x with
  | tmp t =>
   exact hr t (List.mem_append_left _ (List.mem_filterMap.2 ⟨.tmp t, by simpa using hx, rfl⟩))
  | _ => rfl
 ·show if Region.wanted o (yielded ops a.tmps) = true then _ else _
  rw [hg _ hgb, if_neg (by simp)]
  refine ⟨fun _ _ => trivial, hK G _ w ?_⟩
  unfold St.app
  cases hd : o.dst with
  | none => exact hw
  | some d => exact hw.put (by rw [hn]; exact h.dst d hd) (v := undef) rfl
section
variable (dst : Nat → Option Nat) (es : Nat → Eff) (rg : Nat → AV) (mm : Loc → Option Obj)
def regX : Nat → (Nat → Bool) → Nat → AV
 | 0, _, t => rg t
 | n + 1, X, t => if X n = true ∧ dst n = some t then (es n).val else regX n X t
def memX : Nat → (Nat → Bool) → Loc → Option Obj
 | 0, _, l => mm l
 | n + 1, X, l => if X n = true then (match lastW (es n).wr l with | some o => some o | none => memX n X l) else memX n X l
end
section
variable {dst : Nat → Option Nat} {es : Nat → Eff} {rg : Nat → AV} {mm : Loc → Option Obj}
theorem regX_agree {X Y : Nat → Bool} {t : Nat} : ∀ {n : Nat}, (∀ j, j < n → dst j = some t → X j = Y j) → regX dst es rg n X t = regX dst es rg n Y t
 | 0, _ => rfl
 | n + 1, h => by
  have ih := regX_agree (X := X) (Y := Y) (t := t) (n := n) fun j hj => h j (by omega)
  simp only [regX, ih]
  by_cases hd : dst n = some t
  ·rw [h n (by omega) hd]
  ·simp [hd]
theorem memX_agree {X Y : Nat → Bool} {l : Loc} : ∀ {n : Nat}, (∀ j, j < n → l ∈ keys (es j).wr → X j = Y j) → memX es mm n X l = memX es mm n Y l
 | 0, _ => rfl
 | n + 1, h => by
  have ih := memX_agree (X := X) (Y := Y) (l := l) (n := n) fun j hj => h j (by omega)
  simp only [memX, ih]
  cases hl : lastW (es n).wr l with
  | none => simp
  | some o => rw [h n (by omega) (lastW_keys hl)]
theorem regX_last {X : Nat → Bool} {t i : Nat} (hd : dst i = some t) (hX : X i = true) : ∀ {n : Nat}, i < n → (∀ j, i < j → j < n → X j = true → dst j ≠ some t) → regX dst es rg n X t = (es i).val
 | 0, h, _ => absurd h (Nat.not_lt_zero _)
 | n + 1, h, hn => by
  simp only [regX]
  by_cases e : i = n
  ·subst e; rw [if_pos ⟨hX, hd⟩]
  ·rw [if_neg fun hh => hn n (by omega) (by omega) hh.1 hh.2]
   exact regX_last hd hX (by omega) fun j h1 h2 => hn j h1 (by omega)
theorem memX_last {X : Nat → Bool} {l : Loc} {i : Nat} {o : Obj} (hd : lastW (es i).wr l = some o) (hX : X i = true) : ∀ {n : Nat}, i < n → (∀ j, i < j → j < n → X j = true → l ∉ keys (es j).wr) → memX es mm n X l = some o
 | 0, h, _ => absurd h (Nat.not_lt_zero _)
 | n + 1, h, hn => by
  simp only [memX]
  by_cases e : i = n
  ·subst e; rw [if_pos hX, hd]
  ·have ih := memX_last hd hX (n := n) (by omega) fun j h1 h2 => hn j h1 (by omega)
   by_cases hXn : X n = true
   ·rw [if_pos hXn]
    cases hl : lastW (es n).wr l with
    | none => exact ih
    | some q => exact absurd (lastW_keys hl) (hn n (by omega) (by omega) hXn)
   ·rw [if_neg hXn]; exact ih
theorem regX_below {t : Nat} : ∀ {n i : Nat}, i ≤ n → regX dst es rg n (fun j => decide (j < i)) t = regX dst es rg i (fun _ => true) t
 | 0, i, h => by
  have : i = 0 := by omega
  subst this; rfl
 | n + 1, i, h => by
  by_cases e : i = n + 1
  ·subst e
   exact regX_agree fun j hj _ => by simp [hj]
  ·simp only [regX]
   rw [if_neg (by simp; omega)]
   exact regX_below (by omega)
theorem memX_below {l : Loc} : ∀ {n i : Nat}, i ≤ n → memX es mm n (fun j => decide (j < i)) l = memX es mm i (fun _ => true) l
 | 0, i, h => by
  have : i = 0 := by omega
  subst this; rfl
 | n + 1, i, h => by
  by_cases e : i = n + 1
  ·subst e
   exact memX_agree fun j hj _ => by simp [hj]
  ·simp only [memX]
   rw [if_neg (by simp; omega)]
   exact memX_below (by omega)
end
end Go.Al
