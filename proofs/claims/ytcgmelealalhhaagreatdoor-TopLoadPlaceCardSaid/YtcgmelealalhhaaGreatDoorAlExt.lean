/- What a step keeps. -/
import Derived.Test.YtcgmelealalhhaaGreatDoorAlRel
namespace Go.Al
variable {P : Program}
def Ch (l : Loc) : Obj → Obj → Prop
 | .bx v, .bx v' => nA v = nA v'
 | .bx _, .dead => ∃ t, l = .box t
 | .sl τ xs _, .sl τ' xs' _ => τ = τ' ∧ xs.length = xs'.length
 | .sl .., .dead => True
 | .dead, .dead => True
 | _, _ => False
theorem Ch.refl {l : Loc} : (o : Obj) → Ch l o o
 | .bx _ => rfl | .sl .. => ⟨rfl, rfl⟩ | .dead => trivial
structure Ext (G : Gh) (m : Mem) (w : World) (G' : Gh) (m' : Mem) (w' : World) : Prop where
 S : ∀ b, G.S b → G'.S b
 heap : ∀ b, G.S b → w'.heap[b]? = w.heap[b]?
 live : ∀ l o, getM m l = some o → ∃ o', getM m' l = some o' ∧ Ch l o o' ∧ G'.β l = G.β l ∧ (∀ i, l = .own i → G'.κ i = G.κ i)
theorem Ext.refl (G : Gh) (m : Mem) (w : World) : Ext G m w G m w := ⟨fun _ h => h, fun _ _ => rfl, fun _ o h => ⟨o, h, Ch.refl o, rfl, fun _ _ => rfl⟩⟩
theorem Ext.bx {G : Gh} {m : Mem} {w : World} {G' : Gh} {m' : Mem} {w' : World} (h : Ext G m w G' m' w') {l : Loc} {x : A1} (hl : getM m l = some (.bx x)) :
  ((∃ x', getM m' l = some (.bx x') ∧ nA x = nA x') ∨ (getM m' l = some .dead ∧ ∃ t, l = .box t)) ∧ G'.β l = G.β l := by
 obtain ⟨o', ho', hch, hb, _⟩ := h.live l _ hl
 cases o' with
 | bx x' => exact ⟨.inl ⟨x', ho', hch⟩, hb⟩
 | sl _ _ _ => exact hch.elim
 | dead => exact ⟨.inr ⟨ho', hch⟩, hb⟩
theorem Ext.isSome {G : Gh} {m : Mem} {w : World} {G' : Gh} {m' : Mem} {w' : World} (h : Ext G m w G' m' w') {l : Loc} (hl : (getM m l).isSome = true) :
  (getM m' l).isSome = true ∧ G'.β l = G.β l := by
 obtain ⟨o, ho⟩ := Option.isSome_iff_exists.1 hl
 obtain ⟨o', ho', _, hb, _⟩ := h.live l o ho
 exact ⟨by rw [ho']; rfl, hb⟩
theorem Ext.ptrsE {G : Gh} {m : Mem} {w : World} {G' : Gh} {m' : Mem} {w' : World} (h : Ext G m w G' m' w') {caps : List Loc} (hc : ∀ l ∈ caps, (∃ x, getM m l = some (.bx x)) ∨ getM m l = some .dead) :
  ptrs G' caps = ptrs G caps := by
 unfold Go.Al.ptrs
 apply List.map_congr_left
 intro l hl
 rcases hc l hl with ⟨x, hx⟩ | hx
 ·rw [(h.bx hx).2]
 ·rw [(h.isSome (by rw [hx]; rfl)).2]
theorem Ext.C {G : Gh} {m : Mem} {w : World} {G' : Gh} {m' : Mem} {w' : World} (h : Ext G m w G' m' w') : ∀ {c : C} {v : Value}, CRel G m w c v → CRel G' m' w' c v
 | .und, _, _ => trivial
 | .skp, _, r => r
 | .int .., _, r => r
 | .bool _, _, r => r
 | .str _, _, r => r
 | .nils, _, r => r
 | .nili, _, r => r
 | .nilf, _, r => r
 | .sl τ xs nl ex, _, r => by
  obtain ⟨ad, c, rfl, hc, hi, hn, he⟩ := r
  exact ⟨ad, c, rfl, hc, fun i hlt => by
   obtain ⟨b, o, us, e, hb, hr, hcell⟩ := hi i hlt
   exact ⟨b, o, us, e, h.S b hb, hr.mono h.S h.heap, rangeAt_same hcell (h.heap b hb)⟩, hn, he⟩
 | .slo i, v, r => by
  simp only [CRel] at r ⊢
  cases ho : getM m (.own i) with
  | none => rw [ho] at r; exact r.elim
  | some o =>
   obtain ⟨o', ho', hch, hb, hk⟩ := h.live _ _ ho
   rw [ho] at r; rw [ho']
   have hk := hk i rfl
   cases o with
   | bx _ => exact r.elim
   | dead => cases o' <;> first | exact hch.elim | trivial
   | sl τ xs fr =>
    cases o' with
    | bx _ => exact hch.elim
    | dead => trivial
    | sl τ' xs' fr' =>
     obtain ⟨rfl, hl⟩ := hch
     obtain ⟨ad, rfl, hd⟩ := r
     exact ⟨ad, by rw [hl, hk], by rw [hb, hk]; exact hd⟩
 | .slv i lo hi, v, r => by
  simp only [CRel] at r ⊢
  cases ho : getM m (.own i) with
  | none => rw [ho] at r; exact r.elim
  | some o =>
   obtain ⟨o', ho', hch, hb, hk⟩ := h.live _ _ ho
   rw [ho] at r; rw [ho']
   have hk := hk i rfl
   cases o with
   | bx _ => exact r.elim
   | dead => cases o' <;> first | exact hch.elim | trivial
   | sl τ xs fr =>
    cases o' with
    | bx _ => exact hch.elim
    | dead => trivial
    | sl τ' xs' fr' =>
     obtain ⟨rfl, hl⟩ := hch
     obtain ⟨h1, h2, ad, rfl, hd⟩ := r
     exact ⟨h1, by rw [← hl]; exact h2, ad, by rw [hk], by rw [hb, hk]; exact hd⟩
 | .ptr l off room, v, r => by
  obtain ⟨h1, rfl⟩ := r
  split at h1
  ·rename_i x hx
   obtain ⟨h2, hb⟩ := h.bx hx
   rcases h2 with ⟨x', hx', hn⟩ | ⟨hx', _⟩
   ·exact ⟨by rw [hx']; show off + room ≤ nA x'; omega, by rw [hb]⟩
   ·exact ⟨by rw [hx']; trivial, by rw [hb]⟩
  ·rename_i hx
   obtain ⟨o', ho', hch, hb, _⟩ := h.live _ _ hx
   cases o' <;> first | exact hch.elim | exact ⟨by rw [ho']; trivial, by rw [hb]⟩
  ·exact h1.elim
 | .pel i j off, v, r => by
  simp only [CRel] at r ⊢
  cases ho : getM m (.own i) with
  | none => rw [ho] at r; exact r.elim
  | some o =>
   obtain ⟨o', ho', hch, hb, hk⟩ := h.live _ _ ho
   rw [ho] at r; rw [ho']
   cases o with
   | bx _ => exact r.elim
   | dead => cases o' <;> first | exact hch.elim | trivial
   | sl τ xs fr =>
    cases o' with
    | bx _ => exact hch.elim
    | dead => trivial
    | sl τ' xs' fr' =>
     obtain ⟨rfl, hl⟩ := hch
     obtain ⟨h1, rfl⟩ := r
     exact ⟨by rw [← hl]; exact h1, by rw [hb]⟩
 | .er τ x off, v, r => by
  obtain ⟨b, o, us, rfl, hb, hr, hc⟩ := r
  exact ⟨b, o, us, rfl, h.S b hb, hr.mono h.S h.heap, rangeAt_same hc (h.heap b hb)⟩
 | .fn f caps, v, r => by
  obtain ⟨h1, rfl⟩ := r
  refine ⟨fun l hl => ?_, by rw [h.ptrsE h1]⟩
  rcases h1 l hl with ⟨x, hx⟩ | hx
  ·rcases (h.bx hx).1 with ⟨x', hx', _⟩ | ⟨hx', _⟩
   ·exact .inl ⟨x', hx'⟩
   ·exact .inr hx'
  ·obtain ⟨o', ho', hch, _, _⟩ := h.live _ _ hx
   cases o' <;> first | exact hch.elim | exact .inr ho'
 | .ifc t τ ag x, v, r => by
  obtain ⟨us, hr, rfl⟩ := r
  exact ⟨us, hr.mono h.S h.heap, rfl⟩
 | .ifs i a ia j b jb x, v, r => by
  cases x <;> (obtain ⟨us, hr, rfl⟩ := r; exact ⟨us, hr.mono h.S h.heap, rfl⟩)
 | .nilm, _, r => r
 | .mpp l, v, r => by
  obtain ⟨h1, rfl⟩ := r
  rcases h1 with ⟨x, hx⟩ | hx
  ·obtain ⟨h2, hb⟩ := h.bx hx
   rcases h2 with ⟨x', hx', _⟩ | ⟨hx', _⟩
   ·exact ⟨.inl ⟨x', hx'⟩, by rw [hb]⟩
   ·exact ⟨.inr hx', by rw [hb]⟩
  ·obtain ⟨o', ho', hch, hb, _⟩ := h.live _ _ hx
   cases o' <;> first | exact hch.elim | exact ⟨.inr ho', by rw [hb]⟩
 | .fnb f τ ag x, v, r => by
  obtain ⟨hf, us, hr, rfl⟩ := r
  exact ⟨hf, us, hr.mono h.S h.heap, rfl⟩
theorem Ext.Cs {G : Gh} {m : Mem} {w : World} {G' : Gh} {m' : Mem} {w' : World} (h : Ext G m w G' m' w') : ∀ {x : A1} {vs : List Value}, CsRel G m w x vs → CsRel G' m' w' x vs
 | .one _, _, ⟨v, e, r⟩ => ⟨v, e, h.C r⟩
 | .agg _, _, r => r.imp fun _ _ => h.C
 | .arr .., _, ⟨h1, h2, r⟩ => ⟨h1, h2, r.imp fun _ _ => h.C⟩
theorem Ext.A1 {G : Gh} {m : Mem} {w : World} {G' : Gh} {m' : Mem} {w' : World} (h : Ext G m w G' m' w') : ∀ {x : A1} {v : Value}, A1Rel G m w x v → A1Rel G' m' w' x v
 | .one _, _, r => h.C r
 | .agg _, _, ⟨vs, e, r⟩ => ⟨vs, e, r.imp fun _ _ => h.C⟩
 | .arr .., _, ⟨vs, e, h1, h2, r⟩ => ⟨vs, e, h1, h2, r.imp fun _ _ => h.C⟩
 | .lp .., _, r => r.elim
 | .mp .., _, r => r.elim
theorem Ext.AV {G : Gh} {m : Mem} {w : World} {G' : Gh} {m' : Mem} {w' : World} (h : Ext G m w G' m' w') : ∀ {x : AV} {v : Value}, AVRel G m w x v → AVRel G' m' w' x v
 | .a _, _, r => h.A1 r
 | .tup _, _, ⟨vs, e, r⟩ => ⟨vs, e, r.imp fun _ _ => h.A1⟩
def SOk (G : Gh) (w : World) (G' : Gh) (w' : World) (x : A1) : Prop := ∀ κ ka τ va xs, x = .mp κ ka τ va xs → ∀ (y : den τ) us, Rep G.S w τ y us → Rep G'.S w' τ y us
theorem MpRel.imp {S S' : Nat → Prop} {w w' : World} {b b' : Nat} {κ : Ty} {ka : Bool} {τ : Ty} {va : Bool} {xs : List (den κ × den τ)} (h : MpRel S w b κ ka τ va xs) (hr : ∀ (y : den τ) us, Rep S w τ y us → Rep S' w' τ y us) (hw : w'.heap[b']? = w.heap[b]?) : MpRel S' w' b' κ ka τ va xs := by
 obtain ⟨es, h1, h2, h3⟩ := h
 exact ⟨es, hw.trans h1, h2, fun i hi => by
  obtain ⟨e, us, q1, q2, q3, q4, q5⟩ := h3 i hi
  exact ⟨e, us, q1, q2, q3, hr _ _ q4, q5⟩⟩
theorem LpRel.map {G : Gh} {m : Mem} {w : World} {G' : Gh} {m' : Mem} {w' : World} {b b' : Nat} {x : A1} {f : C → C} (r : LpRel P G m w b x) (hf : ∀ k n, f (.int k n) = .int k n)
  (hc : ∀ g p ts st l, x = .lp g p ts (.int .i64 st :: l) → ∀ vs, CsRel G m w (.agg l) vs → CsRel G' m' w' (.agg (l.map f)) vs) (hs : SOk G w G' w' x) (hw : w'.heap[b']? = w.heap[b]?) : LpRel P G' m' w' b' (mapC f x) := by
 cases x <;> try exact r.elim
 ·obtain ⟨q, n, ps, st, l, h1, h2, h3, h4, rfl, h6, h7⟩ := r
  exact ⟨q, n, ps, st, l.map f, h1, h2, hw.trans h3, h4, by simp [hf], h6, hc _ _ _ _ _ rfl _ h7⟩
 ·exact ⟨r.1, r.2.imp (hs _ _ _ _ _ rfl) hw⟩
theorem LpRel.imp {G : Gh} {m : Mem} {w : World} {G' : Gh} {m' : Mem} {w' : World} {b b' : Nat} {x : A1} (r : LpRel P G m w b x) (hc : ∀ c v, CRel G m w c v → CRel G' m' w' c v) (hs : SOk G w G' w' x) (hw : w'.heap[b']? = w.heap[b]?) : LpRel P G' m' w' b' x := by
 cases x <;> try exact r.elim
 ·obtain ⟨q, n, ps, st, l, h1, h2, h3, h4, h5, h6, h7⟩ := r
  exact ⟨q, n, ps, st, l, h1, h2, hw.trans h3, h4, h5, h6, All2.imp (fun _ _ r => hc _ _ r) h7⟩
 ·exact ⟨r.1, r.2.imp (hs _ _ _ _ _ rfl) hw⟩
theorem LpRel.ext {G : Gh} {m : Mem} {w : World} {G' : Gh} {m' : Mem} {w' : World} {b : Nat} {x : A1} (r : LpRel P G m w b x) (h : Ext G m w G' m' w') (hw : w'.heap[b]? = w.heap[b]?) : LpRel P G' m' w' b x :=
 r.imp (fun _ _ r => h.C r) (fun _ _ _ _ _ _ _ _ hr => hr.mono h.S h.heap) hw
theorem Ext.O {G : Gh} {m : Mem} {w : World} {G' : Gh} {m' : Mem} {w' : World} (h : Ext G m w G' m' w') {l : Loc} {o : Obj} (hb : G'.β l = G.β l) (hk : ∀ i, l = .own i → G'.κ i = G.κ i)
  (hw : w'.heap[G.β l]? = w.heap[G.β l]?) (r : ORel P G m w l o) : ORel P G' m' w' l o := by
 cases o with
 | dead => trivial
 | bx v =>
  rcases r with ⟨vs, h1, h2, h3⟩ | r
  ·refine .inl ⟨vs, h.Cs h1, by rw [hb]; exact rangeAt_same h2 hw, fun j hj => ?_⟩
   rw [hb, World.frozen?_of_block (a := ⟨G.β l, j, none⟩) hw]; exact h3 j hj
  ·exact .inr (by rw [hb]; exact r.ext h hw)
 | sl τ xs fr =>
  obtain ⟨i, rfl, h1, h2, h3, h4⟩ := r
  have hk := hk i rfl
  refine ⟨i, rfl, by rw [hk]; exact h1, fun hf hne => by rw [hb]; exact h.S _ (h2 hf hne), fun j hj => ?_, fun hf j hj => ?_⟩
  ·obtain ⟨us, hr, hc⟩ := h3 j hj
   exact ⟨us, hr.mono h.S h.heap, by rw [hb]; exact rangeAt_same hc hw⟩
  ·rw [hk] at hj
   rw [hb, World.frozen?_of_block (a := ⟨G.β (.own i), j, none⟩) hw, World.cell?_of_block (a := ⟨G.β (.own i), j, none⟩) hw]
   exact h4 hf j hj
structure Beg where
 w0 : World
 S0 : Nat → Prop
 ω : Nat → Nat
 no : Nat
 nt : Nat
 rd : Option Nat
 gv : Nat → Prop
def Beg.fr (B : Beg) (b : Nat) : Prop := B.w0.heap.size ≤ b ∨ B.gv b
def Real (G : Gh) (m : Mem) (l : Loc) : Prop := match getM m l with
 | some (.bx _) => True | some (.sl _ _ _) => ∃ i, l = .own i ∧ 0 < G.κ i | _ => False
def Writ (G : Gh) (m : Mem) (l : Loc) : Prop := match getM m l with
 | some (.bx _) => True | some (.sl _ _ false) => ∃ i, l = .own i ∧ 0 < G.κ i | _ => False
theorem Writ.real {G : Gh} {m : Mem} {l : Loc} (h : Writ G m l) : Real G m l := by
 unfold Writ at h; unfold Real
 split at h <;> simp_all
@[reducible] def SameIo (w w' : World) : Prop := w'.os = w.os ∧ w'.output = w.output
structure MRel (P : Program) (B : Beg) (G : Gh) (m : Mem) (w : World) : Prop where
 objs : ∀ l o, getM m l = some o → ORel P G m w l o
 inj : ∀ l l', Real G m l → Real G m l' → G.β l = G.β l' → l = l'
 wr : ∀ l, Writ G m l → ¬ G.S (G.β l)
 lt : ∀ l, Real G m l → G.β l < w.heap.size
 ltS : ∀ b, G.S b → b < w.heap.size
 new : ∀ l, Real G m l → (∃ j, l = .outer j ∧ j < B.no ∧ G.β l = B.ω j) ∨ ((∀ j, l ≠ .outer j) ∧ B.fr (G.β l))
 grow : B.w0.heap.size ≤ w.heap.size
 kept : ∀ b, b < B.w0.heap.size → (∀ j, j < B.no → b ≠ B.ω j) → ¬ B.gv b → w.heap[b]? = B.w0.heap[b]?
 s0 : ∀ b, B.S0 b → G.S b
 s1 : ∀ b, G.S b → B.S0 b ∨ B.fr b
 outs : ∀ j, j < B.no → ∃ x, getM m (.outer j) = some (.bx x)
 io : w.os = B.w0.os ∧ w.output = B.w0.output
 tab : ∀ g k xs, tabOf g = some (k, xs) → G.S g ∧ w.rangeAt g 0 (xs.map (Value.int k))
def Marks (B : Beg) (G : Gh) (w : World) (ds : List Deferred) : Prop := ds.Nodup ∧ ∀ d ∈ ds, ∃ r, d = { target := .collected r, args := #[] } ∧ G.S r ∧ w.heap[r]? = some (.deferred (some [])) ∧ B.w0.heap.size ≤ r
theorem Marks.ext {B : Beg} {G : Gh} {m : Mem} {w : World} {G' : Gh} {m' : Mem} {w' : World} (h : Ext G m w G' m' w') {ds : List Deferred} (hm : Marks B G w ds) : Marks B G' w' ds := ⟨hm.1, fun d hd => by
 obtain ⟨r, h1, h2, h3, h4⟩ := hm.2 d hd
 exact ⟨r, h1, h.S r h2, (h.heap r h2).trans h3, h4⟩⟩
theorem Marks.nil {B : Beg} {G : Gh} {w : World} : Marks B G w [] := ⟨List.nodup_nil, fun _ h => by cases h⟩
structure WRel (P : Program) (B : Beg) (G : Gh) (s : St) (a : Act) (w : World) : Prop where
 regs : ∀ t, AVRel G s.mem w (getR s.regs t) (a.tmps.getD t undef)
 size : a.tmps.size = B.nt
 nod : Marks B G w a.defers
 mem : MRel P B G s.mem w
theorem nat_beq (a b : Nat) : Nat.beq a b = decide (a = b) := by
 cases h : Nat.beq a b with
 | true => simp [Nat.eq_of_beq_eq_true h]
 | false => simp [Nat.ne_of_beq_eq_false h]
theorem getR_put (s : St) (d t : Nat) (v : AV) : getR (s.put d v).regs t = if d = t then v else getR s.regs t := by
 simp only [St.put, getR, nat_beq]
 by_cases h : d = t <;> simp [h]
theorem WRel.put {B : Beg} {G : Gh} {s : St} {a : Act} {w : World} (h : WRel P B G s a w) {d : Nat} (hd : d < B.nt) {x : AV} {v : Value} (hv : AVRel G s.mem w x v) :
  WRel P B G (s.put d x) (a.put (some d) v) w where
 regs := fun t => by
  rw [getR_put]
  show AVRel G s.mem w _ ((a.tmps.setIfInBounds d v).getD t undef)
  have hs := h.size
  by_cases e : d = t
  ·subst e
   rw [if_pos rfl]
   have : (a.tmps.setIfInBounds d v).getD d undef = v := by
    simp [Array.getD_eq_getD_getElem?, hs, hd]
   rw [this]; exact hv
  ·rw [if_neg e]
   have : (a.tmps.setIfInBounds d v).getD t undef = a.tmps.getD t undef := by
    simp [Array.getD_eq_getD_getElem?, e]
   rw [this]; exact h.regs t
 size := by simpa [Act.put] using h.size
 nod := h.nod
 mem := h.mem
end Go.Al
