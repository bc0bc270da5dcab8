/- Ranges over functions: the statement. -/
import Derived.Test.YtcgmelealalhhaaGreatDoorAlFn
import Derived.RangeFuncIn
namespace Go.Al
variable {P : Program} {H : Hint}
def codeX : X → Int
 | .nrm => 0 | .ret => 1 | .ext id => (id : Int) + 2
def jumpsK {R : Type} (k : X → Option R) (st : Int) : List X → Option R
 | [] => none
 | x :: r => if (st == codeX x) = true then k x else jumpsK k st r
def cellsR (s : St) : List Nat → Option (List C)
 | [] => some []
 | t :: r => match getR s.regs t, cellsR s r with | .a (.one c), some l => some (c :: l) | _, _ => none
def lpMem (g : Nat) (p ts : List Nat) (tl : Nat) (l : List C) (m : Mem) : Mem := (.box tl, .bx (.lp g p ts (.int .i64 0 :: l))) :: m
def rfA (Y tl : Nat) (μ : Loc → Option Obj) : C → Option (Nat × List AV)
 | .fn it caps => some (it, one (.fn Y [.box tl]) :: caps.map fun x => one (.ptr x 0 (roomOf μ x)))
 | .fnb it τ ag y => some (it, [recvA τ ag y, one (.fn Y [.box tl])])
 | _ => none
def rfOrc (calls : Nat → Option CallS) (fv : Operand) (g : Nat) (p ts : List Nat) (Y tl : Nat) (xs : List X) : Orc := ⟨fun _ s k =>
 match cellsR s ts with
 | some l => match rfA Y tl (getM (lpMem g p ts tl l s.mem)) (asC (ev s fv)) with
  | some (it, args) => match (bif Nat.blt it yB && noneM (getM s.mem) (.box tl) then calls it else none) with
   | some c => callK c tl (getM (lpMem g p ts tl l s.mem)) args fun e =>
    match getM (setMs (lpMem g p ts tl l s.mem) e.wr) (.box tl) with
    | some (.bx (.lp _ _ _ (.int .i64 st :: _))) => jumpsK (fun x => k x ⟨s.regs, (.box tl, .dead) :: setMs (lpMem g p ts tl l s.mem) e.wr⟩) st (.nrm :: xs)
    | _ => none
   | none => none
  | none => none
 | none => none⟩
def pendX : X → Option Code
 | .nrm => none | .ret => some .ret | .ext id => some (.exit id)
theorem jumpsK_some {R : Type} {k : X → Option R} {st : Int} {r : R} : ∀ {xs : List X}, jumpsK k st xs = some r → ∃ x, st = codeX x ∧ k x = some r
 | [], h => by cases h
 | x :: q, h => by
  simp only [jumpsK] at h
  split at h
  ·rename_i e; exact ⟨x, by simpa using e, h⟩
  ·exact jumpsK_some h
theorem cellsR_rel {B : Beg} {G : Gh} {s : St} {a : Act} {w : World} (hw : WRel P B G s a w) : ∀ {ts : List Nat} {l : List C}, cellsR s ts = some l → All2 (CRel G s.mem w) l (ts.map fun t => a.tmps.getD t undef)
 | [], l, h => by cases h; exact .nil
 | t :: r, l, h => by
  simp only [cellsR] at h
  split at h
  ·rename_i c l' hc hl
   cases h
   have := hw.regs t
   rw [hc] at this
   exact .cons this (cellsR_rel hw hl)
  ·cases h
theorem rfA_rel {G : Gh} {m : Mem} {w : World} {Y tl it b : Nat} {x : C} {v : Value} {args : List AV} (hY : Nat.blt Y yB = false) (hit : it < yB) (h : rfA Y tl (getM m) x = some (it, args)) (hv : CRel G m w x v) {o : A1} (hl : getM m (.box tl) = some (.bx o)) (hb : G.β (.box tl) = b) :
  ∃ first caps : Array Value, v = .func (.func it) first caps ∧ All2 (AVRel G m w) args (first.toList ++ [.func (.yield b) #[] #[]] ++ caps.toList) := by
 have hy : CRel G m w (.fn Y [.box tl]) (.func (.yield b) #[] #[]) := by
  refine ⟨fun l' hl' => by obtain rfl := List.mem_singleton.1 hl'; exact .inl ⟨_, hl⟩, ?_⟩
  rw [fnV_ge (by intro h; have := Nat.blt_eq.symm ▸ h; rw [hY] at this; cases this)]
  simp [ptrs, hb]
 cases x <;> simp only [rfA] at h <;> try (cases h; done)
 ·rename_i f caps
  cases h
  obtain ⟨hcap, hval⟩ := hv
  rw [fnV_lt hit] at hval
  refine ⟨#[], (ptrs G caps).toArray, hval, ?_⟩
  simp only [List.nil_append, List.cons_append]
  refine .cons hy ?_
  unfold ptrs
  have : ∀ q : List Loc, (∀ l ∈ q, l ∈ caps) → All2 (AVRel G m w) (q.map fun x => one (.ptr x 0 (roomOf (getM m) x))) (q.map fun x => Value.pointer (some ⟨G.β x, 0, none⟩)) := fun q => by
   induction q with
   | nil => intro _; exact .nil
   | cons x q ih =>
    intro hs
    refine .cons ⟨?_, rfl⟩ (ih fun y hy => hs y (by simp [hy]))
    rcases hcap x (hs x (by simp)) with ⟨z, hz⟩ | hz
    ·rw [hz]
     show 0 + roomOf _ x ≤ nA z
     unfold roomOf; rw [hz]; simp
    ·rw [hz]; trivial
  exact this caps fun _ h => h
 ·rename_i f τ ag y
  cases h
  obtain ⟨_, us, hrep, hval⟩ := hv
  exact ⟨#[_], #[], hval, .cons (recvA_rel hrep) (.cons hy .nil)⟩
theorem MRel.mark {B : Beg} {G : Gh} {m : Mem} {w : World} (h : MRel P B G m w) (o : Go.Obj) :
  MRel P B ⟨fun b => G.S b ∨ b = w.heap.size, G.β, G.κ⟩ m (w.alloc o) ∧ Ext G m w ⟨fun b => G.S b ∨ b = w.heap.size, G.β, G.κ⟩ m (w.alloc o) := by
 have hE : Ext G m w ⟨fun b => G.S b ∨ b = w.heap.size, G.β, G.κ⟩ m (w.alloc o) := ⟨fun b hb => .inl hb, fun b hb => heap_alloc_old (h.ltS b hb), fun _ o h => ⟨o, h, Ch.refl o, rfl, fun _ _ => rfl⟩⟩
 refine ⟨h.step hE (by simp) (fun _ => False) (fun _ h => h.elim) (fun b hb _ _ => heap_alloc_old hb) (fun l o' h => .inl ⟨h, id⟩) (fun l hl => .inl hl) (fun l _ hl _ g1 _ _ => absurd hl g1) (fun l hl hs => ?_) (fun b hb => ?_) (fun b hb => ?_), hE⟩
 ·rcases hs with hs | hs
  ·exact h.wr l hl hs
  ·have hlt : G.β l < w.heap.size := h.lt l hl.real
   have hs : G.β l = w.heap.size := hs
   omega
 ·rcases hb with hb | rfl
  ·exact Nat.lt_of_lt_of_le (h.ltS b hb) (by simp)
  ·simp
 ·rcases hb with hb | rfl
  ·exact .inl hb
  ·exact .inr (.inl h.grow)
theorem rf_ok {calls : Nat → Option CallS} {n : Nat} (hC : CallsOk P calls) {fv : Operand} {ps : Array Tmp} {assign body : Code} {g : Nat} {p ts : List Nat} (hcode : rngAt P g p = some (n, ps.toList, assign, body)) {Y tl : Nat} (hY : Nat.blt Y yB = false) {xs : List X} :
  OrcOk P false n (.rangeFunc fv ps assign body) (rfOrc calls fv g p ts Y tl xs) := by
 intro R s k r h
 simp only [rfOrc] at h
 split at h
 case h_2 => cases h
 rename_i l hl
 split at h
 case h_2 => cases h
 rename_i it args hfa
 split at h
 case h_2 => cases h
 rename_i c hc
 cases hcnd : (Nat.blt it yB && noneM (getM s.mem) (.box tl)) with
 | false => rw [hcnd] at hc; cases hc
 | true =>
 rw [hcnd] at hc
 have hc : calls it = some c := hc
 rw [Bool.and_eq_true] at hcnd
 have hit := of_blt hcnd.1
 have hnone := noneM_iff hcnd.2
 obtain ⟨e, as, hargs, hk, hlocs, hS⟩ := callK_core (hC it c hc).2 h
 clear h
 split at hk
 case h_2 => cases hk
 rename_i g' p' ts' st cs' hbox
 obtain ⟨x, hst, hkx⟩ := jumpsK_some hk
 refine ⟨x, _, hkx, fun B G a w Q hn hrd hw hQ => ?_⟩
 have hrd : B.rd = none := by cases hb : B.rd with | none => rfl | some _ => rw [hb] at hrd; cases hrd
 rw [hrd]
 refine wpIn_rangeFunc fun fn _ => ?_
 -- the two blocks
 obtain ⟨hM1, hE1⟩ := hw.mem.mark (.deferred (some []))
 let w1 := w.alloc (.deferred (some []))
 let lp : Loop := { state := .ready, pending := none, fn, tmps := a.tmps, params := ps, assign, body, defers := w.heap.size }
 let w2 := w1.alloc (.loop lp)
 let G1 : Gh := ⟨fun b => G.S b ∨ b = w.heap.size, G.β, G.κ⟩
 have hw1 : WRel P B G1 s a w1 := ⟨fun t => hE1.AV (hw.regs t), hw.size, hw.nod.ext hE1, hM1⟩
 have hnewS : ¬ G1.S w1.heap.size := fun hs => Nat.lt_irrefl _ (hM1.ltS _ hs)
 have hE2 : Ext G1 s.mem w1 (G1.add (.box tl) w1.heap.size 0) (lpMem g p ts tl l s.mem) w2 := Ext.fresh _ _ _ hnone fun b hb => heap_alloc_old (hM1.ltS b hb)
 have hlprel : LpRel P (G1.add (.box tl) w1.heap.size 0) (lpMem g p ts tl l s.mem) w2 w1.heap.size (.lp g p ts (.int .i64 0 :: l)) :=
  ⟨lp, n, ps.toList, 0, l, hcode, rfl, World.alloc_heap_new w1 _, by show a.tmps.size = n; rw [hw.size, hn], rfl, ⟨fun _ => ⟨rfl, rfl⟩, (fun e => absurd e (by decide)), (fun e => absurd e (by decide))⟩, All2.imp (fun _ _ hr => hE2.C hr) (cellsR_rel hw1 hl)⟩
 have hM2 : MRel P B (G1.add (.box tl) w1.heap.size 0) (lpMem g p ts tl l s.mem) w2 := by
  refine hM1.fresh hnone (fun _ e => nomatch e) (by show w1.heap.size ≤ (w1.alloc _).heap.size; simp) (fun b hb _ => heap_alloc_old hb) (.inl hM1.grow) (by show w1.heap.size < (w1.alloc _).heap.size; simp) hnewS (fun l' hl' e => by have h1 : G.β l' < w1.heap.size := hM1.lt l' hl'; have e : G.β l' = w1.heap.size := e; omega) ?_ ?_
  ·right
   simp only [Gh.add, if_true]
   exact hlprel
  ·unfold Real; rw [getM_cons, if_pos rfl]; trivial
 have hmark : Marks B G1 w1 ({ target := .collected w.heap.size, args := #[] } :: a.defers) := by
  obtain ⟨h1, h2⟩ := hw.nod
  refine ⟨List.nodup_cons.2 ⟨fun hm => ?_, h1⟩, fun d hd => ?_⟩
  ·obtain ⟨r, e, _, hr, _⟩ := h2 _ hm
   cases e
   have := (Array.getElem?_eq_some_iff.1 hr).1
   omega
  ·rcases List.mem_cons.1 hd with rfl | hd
   ·exact ⟨_, rfl, .inr rfl, World.alloc_heap_new w _, hw.mem.grow⟩
   ·exact hw1.nod.2 d hd
 let a' : Act := { a with defers := [{ target := .collected w.heap.size, args := #[] }] ++ a.defers }
 have hw2 : WRel P B (G1.add (.box tl) w1.heap.size 0) ⟨s.regs, lpMem g p ts tl l s.mem⟩ a' w2 :=
  ⟨fun t => hE2.AV (hw1.regs t), hw.size, hmark.ext hE2, hM2⟩
 have hfr := asC_rel (hw2.ev fv)
 have hev : ev ⟨s.regs, lpMem g p ts tl l s.mem⟩ fv = ev s fv := by cases fv <;> rfl
 rw [hev] at hfr
 obtain ⟨first, caps, hval, hA0⟩ := rfA_rel (b := w1.heap.size) (G := G1.add (.box tl) w1.heap.size 0) (m := lpMem g p ts tl l s.mem) hY hit hfa hfr ((getM_cons _ _ _ _).trans (if_pos rfl)) (by simp [Gh.add])
 have hAargs : All2 (A1Rel (G1.add (.box tl) w1.heap.size 0) (lpMem g p ts tl l s.mem) w2) as (first.toList ++ [Value.func (.yield w1.heap.size) #[] #[]] ++ caps.toList) := by
  refine All2.unA ?_
  rw [← hargs]
  exact hA0
 have hgo := hS ⟨s.regs, lpMem g p ts tl l s.mem⟩ (fun _ _ => rfl) B _ a' w2 (fun _ w₃ => ∃ jump w₄, (Instr.endLoop w1.heap.size).run P w₃ = .ok jump w₄ ∧
   (match jump with
    | none => Q .normal a' w₄
    | some c => c.wpIn (fw none) 0 P Q a' w₄)) _ hw2 hAargs fun G' v w₃ hreg hEx _ => ?_
 ·rw [Goes, if_pos hit] at hgo
  have hgo : CallsIn (fw none) 0 P it (first.toList ++ [Value.func (.yield w1.heap.size) #[] #[]] ++ caps.toList).toArray w2 _ := (callsIn_wide (n := 0)).2 hgo
  refine ⟨w1.heap.size, [{ target := .collected w.heap.size, args := #[] }], w2, ⟨.fn (.func it) caps, first ++ #[Value.func (.yield w1.heap.size) #[] #[]]⟩, w2, it, _, w2, ?_, ?_, fun _ _ => trivial, ?_, fun h => by simp [fw, Fence.wide] at h, hgo.mono fun en w' he => ?_⟩
  ·have := run_enterLoop_outer (P := P) (w := w) fn a.tmps ps assign body
   rw [show (fw none).round = none from rfl, this]
   simp [w1, w2, lp]
  ·have key : ∀ fe : Operand → Value, fe fv = .func (.func it) first caps → fe (.const (.func (.yield w1.heap.size) #[] #[])) = .func (.yield w1.heap.size) #[] #[] →
     (Go.resolve fe (rangeCall fv w1.heap.size) 0).run P w2 = .ok ⟨.fn (.func it) caps, first ++ #[Value.func (.yield w1.heap.size) #[] #[]]⟩ w2 := fun fe h1 h2 => by
    simp [Go.resolve, h1, h2, Deferred.ofValue]
   exact key a.eval hval rfl
  ·simp [invoke]
   rw [(hC it c hc).1 hit]
   congr 2
   apply Array.ext'
   simp
  ·obtain ⟨v, rfl, hj⟩ := he
   exact hj
 -- behind the call
 have hβ : G'.β (.box tl) = w1.heap.size := by
  obtain ⟨_, _, _, hb, _⟩ := hEx.live (.box tl) _ ((getM_cons _ _ _ _).trans (if_pos rfl))
  rw [hb]; simp [Gh.add]
 have hobj := hreg.mem.objs _ _ hbox
 rcases hobj with ⟨_, hf, _⟩ | ⟨r', n', ps', st', l', _, _, hheap, _, hcell, hst', _⟩
 ·exact hf.elim
 cases hcell
 rw [hβ] at hheap
 have hnb : r'.state ≠ .busy := fun hb => by
  rw [hst] at hst'
  cases x with
  | nrm => have := (hst'.1 rfl).1; rw [hb] at this; cases this
  | ret => have := (hst'.2.2 (by simp [codeX])).1; rw [hb] at this; cases this
  | ext id => have := (hst'.2.2 (by simp only [codeX]; omega)).1; rw [hb] at this; cases this
 refine ⟨_, _, run_endLoop hheap hnb, ?_⟩
 obtain ⟨hM3, hE3⟩ := hreg.mem.killB hbox
 have hw3 : WRel P B (G'.fzb (.box tl)) ⟨s.regs, (.box tl, .dead) :: setMs (lpMem g p ts tl l s.mem) e.wr⟩ a' w₃ := ⟨fun t => hE3.AV (hreg.regs t), hreg.size, hreg.nod.ext hE3, hM3⟩
 have hw4 := hw3.off (a := a') (w' := w₃.putObj w1.heap.size (.loop { r' with state := .exhausted })) (noCells_loop hheap) (.inr hβ.symm) (by have := hM1.grow; exact this) (by simp) (fun b hb => World.putObj_heap_other hb) (ds := a'.defers) ⟨hw3.nod.1, fun d hd => by
  obtain ⟨r, e1, e2, e3, e4⟩ := hw3.nod.2 d hd
  have hne : r ≠ w1.heap.size := fun e => by rw [e, hheap] at e3; cases e3
  exact ⟨r, e1, e2, by rw [World.putObj_heap_other hne]; exact e3, e4⟩⟩
 have hfin := hQ _ _ _ hw4
 rw [hst] at hst'
 have key : ∀ (q : Option Code) (w₄ : World), Q x.exit a' w₄ → q = pendX x →
   match q with
   | none => Q .normal a' w₄
   | some c => c.wpIn (fw none) 0 P Q a' w₄ := fun q w₄ hq e => by
  subst e
  cases x with
  | nrm => exact hq
  | ret => exact wpIn_ret hq
  | ext id => exact wpIn_exit hq
 refine key _ _ hfin ?_
 cases x with
 | nrm => exact (hst'.1 rfl).2
 | ret => exact (hst'.2.2 (by simp [codeX])).2
 | ext id =>
  rw [(hst'.2.2 (by simp only [codeX]; omega)).2]
  show some (jumpOf ((id : Int) + 2)) = some (.exit id)
  unfold jumpOf
  rw [if_neg (by omega), show ((id : Int) + 2 - 2).toNat = id by omega]
end Go.Al
