/- The three kinds of steps in memory: a new object, a slice that is not turned any more, an object that is written. -/
import Derived.Test.YtcgmelealalhhaaGreatDoorAlExt
namespace Go.Al
variable {P : Program}
theorem getM_cons (l : Loc) (o : Obj) (m : Mem) (l' : Loc) : getM ((l, o) :: m) l' = if l = l' then some o else getM m l' := by
 simp only [getM]
 by_cases h : l = l'
 ·subst h; simp [Loc.eqb_iff.2 rfl]
 ·simp [Loc.eqb_ne.2 h, h]
theorem Real.of_get {G : Gh} {m : Mem} {l : Loc} (h : Real G m l) : ∃ o, getM m l = some o := by
 unfold Real at h
 cases hg : getM m l with
 | none => rw [hg] at h; exact h.elim
 | some o => exact ⟨o, rfl⟩
theorem ORel.unreal {G : Gh} {m : Mem} {w : World} {G' : Gh} {m' : Mem} {w' : World} {l : Loc} {o : Obj} (hg : getM m l = some o) (hn : ¬ Real G m l) (hk : ∀ i, l = .own i → G'.κ i = G.κ i)
  (r : ORel P G m w l o) : ORel P G' m' w' l o := by
 unfold Real at hn
 rw [hg] at hn
 cases o with
 | dead => trivial
 | bx _ => exact (hn trivial).elim
 | sl τ xs fr =>
  obtain ⟨i, rfl, h1, h2, h3, h4⟩ := r
  have hk := hk i rfl
  have h0 : G.κ i = 0 := by
   rcases Nat.eq_zero_or_pos (G.κ i) with h | h
   ·exact h
   ·exact (hn ⟨i, rfl, h⟩).elim
  have hx : xs = [] := List.length_eq_zero_iff.1 (by omega)
  subst hx
  exact ⟨i, rfl, by simp, fun _ h => absurd rfl h, fun j h => absurd h (by simp), fun _ j hj => absurd hj (by rw [hk, h0]; simp)⟩
theorem MRel.stepOff {B : Beg} {G : Gh} {m : Mem} {w : World} {G' : Gh} {m' : Mem} {w' : World} (h : MRel P B G m w) (hE : Ext G m w G' m' w') (hsz : w.heap.size ≤ w'.heap.size)
  (off : Nat → Prop) (hoff : ∀ b, off b → (∀ l, Real G m l → G.β l ≠ b) ∧ B.fr b) (chg : Loc → Prop) (hcw : ∀ l, chg l → Writ G m l)
  (hblk : ∀ b, b < w.heap.size → ¬ off b → (∀ l, chg l → b ≠ G.β l) → (∀ l, Real G' m' l → ¬ Real G m l → b ≠ G'.β l) → w'.heap[b]? = w.heap[b]?)
  (hobj : ∀ l o', getM m' l = some o' → (getM m l = some o' ∧ ¬ chg l) ∨ ORel P G' m' w' l o')
  (hreal : ∀ l, Real G' m' l → Real G m l ∨ ((∀ j, l ≠ .outer j) ∧ B.fr (G'.β l) ∧ G'.β l < w'.heap.size ∧ (∀ l', Real G m l' → G.β l' ≠ G'.β l)))
  (hinj : ∀ l l', Real G' m' l → Real G' m' l' → ¬ Real G m l → ¬ Real G m l' → G'.β l = G'.β l' → l = l')
  (hwr : ∀ l, Writ G' m' l → ¬ G'.S (G'.β l)) (hltS : ∀ b, G'.S b → b < w'.heap.size) (hs1 : ∀ b, G'.S b → G.S b ∨ B.fr b) (hio : SameIo w w' := by exact ⟨rfl, rfl⟩) : MRel P B G' m' w' := by
 have hold : ∀ l, Real G m l → G'.β l = G.β l := fun l hl => by
  obtain ⟨o, ho⟩ := hl.of_get
  obtain ⟨_, _, _, hb, _⟩ := hE.live l o ho
  exact hb
 refine ⟨fun l o' ho' => ?_, fun l l' hl hl' e => ?_, hwr, fun l hl => ?_, hltS, fun l hl => ?_, Nat.le_trans h.grow hsz, fun b hb hn hg => ?_, fun b hb => hE.S b (h.s0 b hb), fun b hb => ?_, fun j hj => ?_, ⟨hio.1.trans h.io.1, hio.2.trans h.io.2⟩, fun g k xs e => ⟨hE.S _ (h.tab g k xs e).1, rangeAt_same (h.tab g k xs e).2 (hE.heap _ (h.tab g k xs e).1)⟩⟩
 ·rcases hobj l o' ho' with ⟨hg, hc⟩ | hr
  ·obtain ⟨o2, ho2, _, hb, hk⟩ := hE.live l o' hg
   by_cases hre : Real G m l
   ·refine hE.O hb hk (hblk _ (h.lt l hre) (fun ho => (hoff _ ho).1 l hre rfl) (fun l2 hl2 e => hc ?_) fun l2 hl2 hn2 e => ?_) (h.objs l o' hg)
    ·rw [h.inj l l2 hre (hcw l2 hl2).real e]; exact hl2
    ·exact ((hreal l2 hl2).resolve_left hn2).2.2.2 l hre e
   ·exact ORel.unreal hg hre hk (h.objs l o' hg)
  ·exact hr
 ·rcases hreal l hl with h1 | h1 <;> rcases hreal l' hl' with h2 | h2
  ·rw [hold l h1, hold l' h2] at e; exact h.inj l l' h1 h2 e
  ·rw [hold l h1] at e; exact absurd e (h2.2.2.2 l h1)
  ·rw [hold l' h2] at e; exact absurd e.symm (h1.2.2.2 l' h2)
  ·by_cases g1 : Real G m l
   ·rw [hold l g1] at e; exact absurd e (h2.2.2.2 l g1)
   ·by_cases g2 : Real G m l'
    ·rw [hold l' g2] at e; exact absurd e.symm (h1.2.2.2 l' g2)
    ·exact hinj l l' hl hl' g1 g2 e
 ·rcases hreal l hl with h1 | h1
  ·rw [hold l h1]; exact Nat.lt_of_lt_of_le (h.lt l h1) hsz
  ·exact h1.2.2.1
 ·rcases hreal l hl with h1 | h1
  ·rw [hold l h1]; exact h.new l h1
  ·exact .inr ⟨h1.1, h1.2.1⟩
 ·have hnf : ∀ b', b = b' → ¬ B.fr b' := fun b' e hf => by
   subst e
   rcases hf with hf | hf
   ·omega
   ·exact hg hf
  rw [hblk b (Nat.lt_of_lt_of_le hb h.grow) (fun ho => hnf b rfl (hoff b ho).2) (fun l hl e => ?_) (fun l hl hnl e => ?_), h.kept b hb hn hg]
  ·rcases h.new l (hcw l hl).real with ⟨j, _, hj, hbj⟩ | ⟨_, hge⟩
   ·exact hn j hj (by rw [e, hbj])
   ·exact hnf _ e hge
  ·exact hnf _ e ((hreal l hl).resolve_left hnl).2.1
 ·rcases hs1 b hb with h1 | h1
  ·exact h.s1 b h1
  ·exact .inr h1
 ·obtain ⟨x, hx⟩ := h.outs j hj
  rcases (hE.bx hx).1 with ⟨x', hx', _⟩ | ⟨_, t, e⟩
  ·exact ⟨x', hx'⟩
  ·cases e
theorem MRel.step {B : Beg} {G : Gh} {m : Mem} {w : World} {G' : Gh} {m' : Mem} {w' : World} (h : MRel P B G m w) (hE : Ext G m w G' m' w') (hsz : w.heap.size ≤ w'.heap.size)
  (chg : Loc → Prop) (hcw : ∀ l, chg l → Writ G m l)
  (hblk : ∀ b, b < w.heap.size → (∀ l, chg l → b ≠ G.β l) → (∀ l, Real G' m' l → ¬ Real G m l → b ≠ G'.β l) → w'.heap[b]? = w.heap[b]?)
  (hobj : ∀ l o', getM m' l = some o' → (getM m l = some o' ∧ ¬ chg l) ∨ ORel P G' m' w' l o')
  (hreal : ∀ l, Real G' m' l → Real G m l ∨ ((∀ j, l ≠ .outer j) ∧ B.fr (G'.β l) ∧ G'.β l < w'.heap.size ∧ (∀ l', Real G m l' → G.β l' ≠ G'.β l)))
  (hinj : ∀ l l', Real G' m' l → Real G' m' l' → ¬ Real G m l → ¬ Real G m l' → G'.β l = G'.β l' → l = l')
  (hwr : ∀ l, Writ G' m' l → ¬ G'.S (G'.β l)) (hltS : ∀ b, G'.S b → b < w'.heap.size) (hs1 : ∀ b, G'.S b → G.S b ∨ B.fr b) (hio : SameIo w w' := by exact ⟨rfl, rfl⟩) : MRel P B G' m' w' :=
 h.stepOff hE hsz (fun _ => False) (fun _ h => h.elim) chg hcw (fun b h1 _ => hblk b h1) hobj hreal hinj hwr hltS hs1 hio
def Gh.add (G : Gh) (l : Loc) (b c : Nat) : Gh := ⟨G.S, fun x => if x = l then b else G.β x, fun i => if l = .own i then c else G.κ i⟩
theorem Ext.fresh {G : Gh} {m : Mem} {w : World} {w' : World} {l : Loc} (o : Obj) (b c : Nat) (hm : getM m l = none) (hh : ∀ b, G.S b → w'.heap[b]? = w.heap[b]?) :
  Ext G m w (G.add l b c) ((l, o) :: m) w' :=
 ⟨fun _ h => h, hh, fun l' o' ho => by
  have hne : l ≠ l' := fun e => by rw [← e, hm] at ho; cases ho
  refine ⟨o', by rw [getM_cons, if_neg hne]; exact ho, Ch.refl _, ?_, fun i hi => ?_⟩
  ·simp [Gh.add, Ne.symm hne]
  ·subst hi; simp [Gh.add, hne]⟩
theorem MRel.fresh {B : Beg} {G : Gh} {m : Mem} {w : World} {w' : World} (h : MRel P B G m w) {l : Loc} {o : Obj} {b c : Nat} (hm : getM m l = none) (hl : ∀ j, l ≠ .outer j)
  (hsz : w.heap.size ≤ w'.heap.size) (hblk : ∀ b', b' < w.heap.size → b' ≠ b → w'.heap[b']? = w.heap[b']?)
  (hb : B.fr b) (hb' : b < w'.heap.size) (hnS : ¬ G.S b) (hfree : ∀ l', Real G m l' → G.β l' ≠ b)
  (ho : ORel P (G.add l b c) ((l, o) :: m) w' l o) (hrl' : Real (G.add l b c) ((l, o) :: m) l) (hio : SameIo w w' := by exact ⟨rfl, rfl⟩) : MRel P B (G.add l b c) ((l, o) :: m) w' := by
 have hE : Ext G m w (G.add l b c) ((l, o) :: m) w' := Ext.fresh o b c hm fun b' hb' => hblk b' (h.ltS b' hb') fun e => hnS (e ▸ hb')
 have hβ : ∀ l', l' ≠ l → (G.add l b c).β l' = G.β l' := fun l' hne => by simp [Gh.add, hne]
 have hβl : (G.add l b c).β l = b := by simp [Gh.add]
 have hκ : ∀ i, l ≠ .own i → (G.add l b c).κ i = G.κ i := fun i hne => by simp [Gh.add, hne]
 have hR : ∀ l', l' ≠ l → (Real (G.add l b c) ((l, o) :: m) l' ↔ Real G m l') := fun l' hne => by
  unfold Real
  rw [getM_cons, if_neg (Ne.symm hne)]
  cases hg : getM m l' with
  | none => exact Iff.rfl
  | some o' =>
   cases o' with
   | bx _ => exact Iff.rfl
   | dead => exact Iff.rfl
   | sl τ xs fr =>
    constructor <;> (rintro ⟨i, rfl, hi⟩; refine ⟨i, rfl, ?_⟩)
    ·rwa [hκ i (Ne.symm hne)] at hi
    ·rwa [hκ i (Ne.symm hne)]
 have hW : ∀ l', l' ≠ l → Writ (G.add l b c) ((l, o) :: m) l' → Writ G m l' := fun l' hne => by
  unfold Writ
  rw [getM_cons, if_neg (Ne.symm hne)]
  cases hg : getM m l' with
  | none => exact id
  | some o' =>
   cases o' with
   | bx _ => exact id
   | dead => exact id
   | sl τ xs fr =>
    cases fr with
    | true => exact id
    | false => rintro ⟨i, rfl, hi⟩; exact ⟨i, rfl, by rwa [hκ i (Ne.symm hne)] at hi⟩
 have hrl := hrl'
 ·refine h.step hE hsz (fun _ => False) (fun _ h => h.elim) (fun b' hb' _ hn => hblk b' hb' fun e => ?_) (fun l' o' hg => ?_) (fun l' hl' => ?_) (fun l1 l2 h1 h2 g1 g2 e => ?_) (fun l' hl' => ?_)
   (fun b hb => Nat.lt_of_lt_of_le (h.ltS b hb) hsz) (fun b hb => .inl hb) hio
  ·exact hn l hrl (fun hr => by obtain ⟨o2, ho2⟩ := hr.of_get; rw [hm] at ho2; cases ho2) (by rw [hβl, e])
  ·by_cases e : l = l'
   ·subst e
    rw [getM_cons, if_pos rfl] at hg
    cases hg
    exact .inr ho
   ·rw [getM_cons, if_neg e] at hg
    exact .inl ⟨hg, id⟩
  ·by_cases e : l' = l
   ·subst e; exact .inr ⟨hl, by rw [hβl]; exact hb, by rw [hβl]; exact hb', by rw [hβl]; exact hfree⟩
   ·exact .inl ((hR l' e).1 hl')
  ·by_cases e1 : l1 = l <;> by_cases e2 : l2 = l
   ·rw [e1, e2]
   ·exact absurd ((hR l2 e2).1 h2) g2
   ·exact absurd ((hR l1 e1).1 h1) g1
   ·exact absurd ((hR l1 e1).1 h1) g1
  ·by_cases e : l' = l
   ·subst e; rw [hβl]; exact hnS
   ·rw [hβ l' e]; exact h.wr l' (hW l' e hl')
def Gh.fz (G : Gh) (m : Mem) (i : Nat) : Gh := ⟨fun b => G.S b ∨ (Real G m (.own i) ∧ b = G.β (.own i)), G.β, G.κ⟩
theorem MRel.frz1 {B : Beg} {G : Gh} {m : Mem} {w : World} (h : MRel P B G m w) {i : Nat} {τ : Ty} {xs : List (den τ)} {fr : Bool} (hg : getM m (.own i) = some (.sl τ xs fr)) :
  MRel P B (G.fz m i) ((.own i, .sl τ xs true) :: m) w ∧ Ext G m w (G.fz m i) ((.own i, .sl τ xs true) :: m) w := by
 have hE : Ext G m w (G.fz m i) ((.own i, .sl τ xs true) :: m) w := ⟨fun b hb => .inl hb, fun _ _ => rfl, fun l o ho => by
  by_cases e : Loc.own i = l
  ·subst e
   rw [hg] at ho; cases ho
   exact ⟨.sl τ xs true, by rw [getM_cons, if_pos rfl], ⟨rfl, rfl⟩, rfl, fun _ _ => rfl⟩
  ·exact ⟨o, by rw [getM_cons, if_neg e]; exact ho, Ch.refl o, rfl, fun _ _ => rfl⟩⟩
 have hR : ∀ l, Real (G.fz m i) ((.own i, .sl τ xs true) :: m) l → Real G m l := fun l => by
  unfold Real
  rw [getM_cons]
  by_cases e : Loc.own i = l
  ·subst e; rw [if_pos rfl, hg]; exact id
  ·rw [if_neg e]; exact id
 refine ⟨h.step hE (Nat.le_refl _) (fun _ => False) (fun _ h => h.elim) (fun _ _ _ _ => rfl) (fun l o' ho' => ?_) (fun l hl => .inl (hR l hl)) (fun l l' h1 h2 g1 _ _ => absurd (hR l h1) g1) (fun l hl => ?_) (fun b hb => ?_) (fun b hb => ?_), hE⟩
 ·by_cases e : Loc.own i = l
  ·subst e
   rw [getM_cons, if_pos rfl] at ho'; cases ho'
   obtain ⟨i', e', h1, h2, h3, h4⟩ := h.objs _ _ hg
   cases e'
   refine .inr ⟨i, rfl, h1, fun _ hne => ?_, fun j hj => ?_, fun hf => by cases hf⟩
   ·refine .inr ⟨?_, rfl⟩
    unfold Real; rw [hg]
    exact ⟨i, rfl, by have := List.length_pos_iff.2 hne; omega⟩
   ·obtain ⟨us, hr, hc⟩ := h3 j hj
    exact ⟨us, hr.mono hE.S hE.heap, hc⟩
  ·rw [getM_cons, if_neg e] at ho'; exact .inl ⟨ho', id⟩
 ·have hne : Loc.own i ≠ l := fun e => by
   subst e
   unfold Writ at hl
   rw [getM_cons, if_pos rfl] at hl; exact hl
  have hl' : Writ G m l := by unfold Writ at hl ⊢; rw [getM_cons, if_neg hne] at hl; exact hl
  rintro (hs | ⟨hre, e⟩)
  ·exact h.wr l hl' hs
  ·exact hne (h.inj _ _ hre hl'.real e.symm)
 ·rcases hb with hb | ⟨hre, rfl⟩
  ·exact h.ltS b hb
  ·exact h.lt _ hre
 ·rcases hb with hb | ⟨hre, rfl⟩
  ·exact .inl hb
  ·rcases h.new _ hre with ⟨j, e, _⟩ | ⟨_, hge⟩
   ·cases e
   ·exact .inr hge
theorem MRel.write {B : Beg} {G : Gh} {m : Mem} {w w' : World} (h : MRel P B G m w) {l : Loc} {o o' : Obj} (hg : getM m l = some o) (hw : Writ G m l) (hch : Ch l o o') (hw' : Writ G ((l, o') :: m) l)
  (hsz : w'.heap.size = w.heap.size) (hblk : ∀ b, b ≠ G.β l → w'.heap[b]? = w.heap[b]?) (ho : ORel P G ((l, o') :: m) w' l o') (hio : SameIo w w' := by exact ⟨rfl, rfl⟩) :
  MRel P B G ((l, o') :: m) w' := by
 have hE : Ext G m w G ((l, o') :: m) w' := ⟨fun _ h => h, fun b hb => hblk b fun e => h.wr l hw (e ▸ hb), fun l2 o2 ho2 => by
  by_cases e : l = l2
  ·subst e; rw [hg] at ho2; cases ho2
   exact ⟨o', by rw [getM_cons, if_pos rfl], hch, rfl, fun _ _ => rfl⟩
  ·exact ⟨o2, by rw [getM_cons, if_neg e]; exact ho2, Ch.refl _, rfl, fun _ _ => rfl⟩⟩
 have hR : ∀ l2, Real G ((l, o') :: m) l2 → Real G m l2 := fun l2 hl2 => by
  by_cases e : l = l2
  ·subst e; exact hw.real
  ·unfold Real at hl2 ⊢; rw [getM_cons, if_neg e] at hl2; exact hl2
 have hW : ∀ l2, Writ G ((l, o') :: m) l2 → Writ G m l2 := fun l2 hl2 => by
  by_cases e : l = l2
  ·subst e; exact hw
  ·unfold Writ at hl2 ⊢; rw [getM_cons, if_neg e] at hl2; exact hl2
 refine h.step hE (Nat.le_of_eq hsz.symm) (· = l) (fun _ e => e ▸ hw) (fun b _ hn _ => hblk b (hn l rfl)) (fun l2 o2 ho2 => ?_) (fun l2 hl2 => .inl (hR l2 hl2)) (fun l1 l2 h1 _ g1 _ _ => absurd (hR l1 h1) g1)
  (fun l2 hl2 => h.wr l2 (hW l2 hl2)) (fun b hb => by rw [hsz]; exact h.ltS b hb) (fun b hb => .inl hb) hio
 by_cases e : l = l2
 ·subst e; rw [getM_cons, if_pos rfl] at ho2; cases ho2; exact .inr ho
 ·rw [getM_cons, if_neg e] at ho2; exact .inl ⟨ho2, fun e' => e e'.symm⟩
theorem Ext.write {G : Gh} {m : Mem} {w w' : World} {l : Loc} {o o' : Obj} (hg : getM m l = some o) (hch : Ch l o o') (hblk : ∀ b, G.S b → w'.heap[b]? = w.heap[b]?) : Ext G m w G ((l, o') :: m) w' :=
 ⟨fun _ h => h, hblk, fun l2 o2 ho2 => by
  by_cases e : l = l2
  ·subst e; rw [hg] at ho2; cases ho2
   exact ⟨o', by rw [getM_cons, if_pos rfl], hch, rfl, fun _ _ => rfl⟩
  ·exact ⟨o2, by rw [getM_cons, if_neg e]; exact ho2, Ch.refl _, rfl, fun _ _ => rfl⟩⟩
theorem MRel.kill {B : Beg} {G : Gh} {m : Mem} {w : World} (h : MRel P B G m w) {i : Nat} {τ : Ty} {xs : List (den τ)} {fr : Bool} (hg : getM m (.own i) = some (.sl τ xs fr)) :
  MRel P B G ((.own i, .dead) :: m) w ∧ Ext G m w G ((.own i, .dead) :: m) w := by
 have hE : Ext G m w G ((.own i, .dead) :: m) w := Ext.write hg trivial fun _ _ => rfl
 have hR : ∀ l2, Real G ((.own i, .dead) :: m) l2 → Real G m l2 := fun l2 hl2 => by
  unfold Real at hl2 ⊢
  by_cases e : Loc.own i = l2
  ·subst e; rw [getM_cons, if_pos rfl] at hl2; exact hl2.elim
  ·rw [getM_cons, if_neg e] at hl2; exact hl2
 have hW : ∀ l2, Writ G ((.own i, .dead) :: m) l2 → Writ G m l2 := fun l2 hl2 => by
  unfold Writ at hl2 ⊢
  by_cases e : Loc.own i = l2
  ·subst e; rw [getM_cons, if_pos rfl] at hl2; exact hl2.elim
  ·rw [getM_cons, if_neg e] at hl2; exact hl2
 refine ⟨h.step hE (Nat.le_refl _) (fun _ => False) (fun _ h => h.elim) (fun _ _ _ _ => rfl) (fun l o' ho' => ?_) (fun l hl => .inl (hR l hl)) (fun l l' h1 _ g1 _ _ => absurd (hR l h1) g1)
  (fun l2 hl2 => h.wr l2 (hW l2 hl2)) h.ltS (fun b hb => .inl hb), hE⟩
 by_cases e : Loc.own i = l
 ·subst e; rw [getM_cons, if_pos rfl] at ho'; cases ho'; exact .inr trivial
 ·rw [getM_cons, if_neg e] at ho'; exact .inl ⟨ho', id⟩
theorem Ext.trans {G : Gh} {m : Mem} {w : World} {G' : Gh} {m' : Mem} {w' : World} {G2 : Gh} {m2 : Mem} {w2 : World} (h : Ext G m w G' m' w') (h' : Ext G' m' w' G2 m2 w2) : Ext G m w G2 m2 w2 :=
 ⟨fun b hb => h'.S b (h.S b hb), fun b hb => (h'.heap b (h.S b hb)).trans (h.heap b hb), fun l o ho => by
  obtain ⟨o1, ho1, hc1, hb1, hk1⟩ := h.live l o ho
  obtain ⟨o2, ho2, hc2, hb2, hk2⟩ := h'.live l o1 ho1
  refine ⟨o2, ho2, ?_, hb2.trans hb1, fun i hi => (hk2 i hi).trans (hk1 i hi)⟩
  cases o <;> cases o1 <;> cases o2 <;> first | exact hc1.elim | exact hc2.elim | trivial | (exact Eq.trans (α := Nat) hc1 hc2) | skip
  obtain ⟨rfl, e1⟩ := hc1
  obtain ⟨rfl, e2⟩ := hc2
  exact ⟨rfl, e1.trans e2⟩⟩
end Go.Al
