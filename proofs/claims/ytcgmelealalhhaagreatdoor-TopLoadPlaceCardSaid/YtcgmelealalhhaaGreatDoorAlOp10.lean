/- append. -/
import Derived.Test.YtcgmelealalhhaaGreatDoorAlOp9
namespace Go.Al
variable {P : Program} {H : Hint}
theorem flatRow {S : Nat → Prop} {w : World} {τ : Ty} {ys : List (den τ)} {b o : Nat} (h : ∀ i (hi : i < ys.length), ∃ us, Rep S w τ ys[i] us ∧ w.rangeAt b (o + i * ncell τ) us) :
  ∀ k, k ≤ ys.length → ∃ news : List Value, news.length = k * ncell τ ∧ (∀ u ∈ news, u.oneCell' = true) ∧ (∀ j (hj : j < ys.length), j < k → Rep S w τ ys[j] ((news.drop (j * ncell τ)).take (ncell τ))) ∧ w.rangeAt b o news
 | 0, _ => ⟨[], by simp, (fun u hu => by cases hu), (fun j _ hj => absurd hj (Nat.not_lt_zero _)), (fun j v hv => by cases hv)⟩
 | k + 1, hk => by
  obtain ⟨news, h1, h2, h3, h4⟩ := flatRow h k (by omega)
  obtain ⟨us, hr, hc⟩ := h k (by omega)
  have hl := hr.len
  refine ⟨news ++ us, by rw [List.length_append, h1, hl, Nat.add_mul]; omega, fun u hu => ?_, fun j hj hjk => ?_, fun j v hv => ?_⟩
  ·rcases List.mem_append.1 hu with hu | hu
   ·exact h2 u hu
   ·exact hr.one u hu
  ·by_cases e : j = k
   ·subst e
    rw [← h1, List.drop_left, ← hl, List.take_length]; exact hr
   ·have : j < k := by omega
    have hle : (j + 1) * ncell τ ≤ k * ncell τ := Nat.mul_le_mul_right _ (by omega)
    rw [Nat.add_mul] at hle
    rw [List.drop_append_of_le_length (by omega), List.take_append_of_le_length (by simp; omega)]
    exact h3 j hj this
  ·by_cases hlt : j < news.length
   ·rw [List.getElem?_append_left hlt] at hv; exact h4 j v hv
   ·rw [List.getElem?_append_right (by omega)] at hv
    have := hc _ v hv
    rw [h1] at hlt this
    rwa [show o + k * ncell τ + (j - k * ncell τ) = o + j by omega] at this
theorem rowOf {B : Beg} {G : Gh} {m : Mem} {w : World} (h : MRel P B G m w) {c : C} {v : Value} {τ : Ty} {ys : List (den τ)} (hr : CRel G m w c v) (hd : dc1 (.list τ) (resolve (getM m) c) = some ys) :
  ∃ ad q news, v = .slice ad ys.length q ∧ ys.length ≤ q ∧ news.length = ys.length * ncell τ ∧ (∀ u ∈ news, u.oneCell' = true) ∧
   (∀ j (hj : j < ys.length), Rep G.S w τ ys[j] ((news.drop (j * ncell τ)).take (ncell τ))) ∧ (ys ≠ [] → ∃ b o, ad = some ⟨b, o, none⟩ ∧ w.rangeAt b o news) := by
 have fin : ∀ (ad : Option Addr) (q : Nat), v = .slice ad ys.length q → ys.length ≤ q → (ys ≠ [] → ∃ b o, ad = some ⟨b, o, none⟩ ∧ ∀ i (hi : i < ys.length), ∃ us, Rep G.S w τ ys[i] us ∧ w.rangeAt b (o + i * ncell τ) us) →
   ∃ ad q news, v = .slice ad ys.length q ∧ ys.length ≤ q ∧ news.length = ys.length * ncell τ ∧ (∀ u ∈ news, u.oneCell' = true) ∧
   (∀ j (hj : j < ys.length), Rep G.S w τ ys[j] ((news.drop (j * ncell τ)).take (ncell τ))) ∧ (ys ≠ [] → ∃ b o, ad = some ⟨b, o, none⟩ ∧ w.rangeAt b o news) := fun ad q e1 e2 e3 => by
  by_cases hne : ys = []
  ·subst hne
   exact ⟨ad, q, [], e1, e2, by simp, (fun u hu => by cases hu), (fun j hj => absurd hj (Nat.not_lt_zero _)), (fun hn => absurd rfl hn)⟩
  ·obtain ⟨b, o, had, hrow⟩ := e3 hne
   obtain ⟨news, h1, h2, h3, h4⟩ := flatRow hrow ys.length (Nat.le_refl _)
   exact ⟨ad, q, news, e1, e2, h1, h2, fun j hj => h3 j hj hj, fun _ => ⟨b, o, had, h4⟩⟩
 cases c <;> simp only [resolve, dc1] at hd <;> try (cases hd; done)
 case nils =>
  cases hd
  simp only [CRel] at hr; subst hr
  exact fin none 0 rfl (Nat.le_refl _) fun hn => absurd rfl hn
 case sl τ' xs nl ex =>
  split at hd
  ·rename_i e
   subst e; obtain rfl := Option.some.inj hd
   obtain ⟨ad, q, rfl, hq, hrow, _⟩ := hr
   refine fin ad q rfl hq fun hne => ?_
   obtain ⟨b, o, us, had, _⟩ := hrow 0 (List.length_pos_iff.2 hne)
   refine ⟨b, o, had, fun i hi => ?_⟩
   obtain ⟨b', o', us', had', _, hrep, hc⟩ := hrow i hi
   rw [had] at had'; cases had'
   exact ⟨us', hrep, hc⟩
  ·cases hd
 case slo i =>
  cases hg : getM m (.own i) with
  | none => rw [hg] at hd; cases hd
  | some ob =>
   rw [hg] at hd
   cases ob with
   | bx _ => cases hd
   | dead => cases hd
   | sl τ' xs fr =>
    simp only at hd
    split at hd
    ·rename_i e
     subst e; have hd : xs = ys := Option.some.inj hd
     subst hd
     simp only [CRel, hg] at hr
     obtain ⟨ad, rfl, had⟩ := hr
     obtain ⟨h1, h3⟩ := h.row hg
     refine fin ad _ rfl h1 fun hne => ?_
     have hpos := List.length_pos_iff.2 hne
     refine ⟨_, 0, had.1.resolve_right (by omega), fun i' hi => ?_⟩
     obtain ⟨us, hrep, hc⟩ := h3 i' hi
     exact ⟨us, hrep, by rw [Nat.zero_add]; exact hc⟩
    ·cases hd
 case slv i lo hi =>
  cases hg : getM m (.own i) with
  | none => rw [hg] at hd; cases hd
  | some ob =>
   rw [hg] at hd
   cases ob with
   | bx _ => cases hd
   | dead => cases hd
   | sl τ' xs fr =>
    simp only at hd
    split at hd
    ·rename_i e
     subst e; obtain rfl := Option.some.inj hd
     simp only [CRel, hg] at hr
     obtain ⟨g1, g2, ad, rfl, had⟩ := hr
     obtain ⟨h1, h3⟩ := h.row hg
     have hlen := cut_len xs lo hi g2
     refine fin ad _ (by rw [hlen]) (by rw [hlen]; omega) fun hne => ?_
     have hpos := List.length_pos_iff.2 hne
     rw [hlen] at hpos
     refine ⟨_, lo * ncell τ', had.resolve_right (by omega), fun i' hi' => ?_⟩
     obtain ⟨hj, e⟩ := cut_get xs lo hi i' hi'
     obtain ⟨us, hrep, hc⟩ := h3 (lo + i') hj
     exact ⟨us, by rw [e]; exact hrep, by rw [← Nat.add_mul]; exact hc⟩
    ·cases hd
theorem growBy_le (n : Nat) : ∀ (r c : Nat), c ≤ 2 * n + 192 → Builtin.growBy n r c ≤ 2 * n + 192
 | 0, c, h => h
 | r + 1, c, h => by
  unfold Builtin.growBy
  split
  ·exact h
  ·exact growBy_le n r _ (by omega)
theorem nextcap_le {n c : Nat} (h : c < n) : Builtin.nextslicecap n c ≤ 2 * n + 512 := by
 unfold Builtin.nextslicecap
 split
 ·omega
 ·split
  ·omega
  ·have := growBy_le n 4 c (by omega); omega
theorem srcOf {B : Beg} {G : Gh} {m : Mem} {w : World} (h : MRel P B G m w) {c : C} {v : Value} {τ : Ty} {ys : List (den τ)} (hr : CRel G m w c v) (hd : dc1 (.list τ) (resolve (getM m) c) = some ys)
  {tx e' n : Nat} (hk : P.underlying tx = some (.slice e')) (hn : ncell τ = n) :
  ∃ news, Src P n tx v ys.length news w ∧ news.length = ys.length * ncell τ ∧ (∀ j (hj : j < ys.length), Rep G.S w τ ys[j] ((news.drop (j * ncell τ)).take (ncell τ))) := by
 obtain ⟨ad, q, news, rfl, hq, hl, hone, hrep, hne⟩ := rowOf h hr hd
 refine ⟨news, ?_, hl, hrep⟩
 cases ad with
 | none =>
  have : ys = [] := Classical.byContradiction fun hn => by obtain ⟨b, o, e, _⟩ := hne hn; cases e
  subst this
  have : news = [] := List.length_eq_zero_iff.1 (by simpa using hl)
  subst this
  exact Src.ofNil w hk q
 | some a =>
  refine Src.ofSlice w hk a _ q news (by rw [hl, hn]) (fun j u hj => ?_) hone
  have hlt := (List.getElem?_eq_some_iff.1 hj).1
  have hnn : ys ≠ [] := fun e => by subst e; simp at hl; subst hl; simp at hlt
  obtain ⟨b, o, e, hc⟩ := hne hnn
  cases e
  rw [Addr.add_mk]; exact hc j u hj
theorem MRel.drew {B : Beg} {G : Gh} {m : Mem} {w : World} (h : MRel P B G m w) : MRel P B G m w.drew :=
 h.step (G' := G) ⟨fun _ h => h, fun _ _ => rfl, fun _ o h => ⟨o, h, Ch.refl o, rfl, fun _ _ => rfl⟩⟩ (Nat.le_refl _) (fun _ => False) (fun _ h => h.elim) (fun _ _ _ _ => rfl) (fun l o' h => .inl ⟨h, id⟩) (fun l hl => .inl hl)
  (fun l l' h1 _ g1 _ _ => absurd h1 g1) h.wr h.ltS (fun b hb => .inl hb)
theorem Ext.drew (G : Gh) (m : Mem) (w : World) : Ext G m w G m w.drew := ⟨fun _ h => h, fun _ _ => rfl, fun _ o h => ⟨o, h, Ch.refl o, rfl, fun _ _ => rfl⟩⟩
theorem append_new {B : Beg} {G : Gh} {m m2 : Mem} {w : World} (h : MRel P B G m w) (hm2 : MRel P B G m2 w) (hEm : Ext G m w G m2 w) {t e n : Nat} {ty tx rt e' : Nat} {τ : Ty} {xs ys : List (den τ)} {z : A1} (hm : getM m2 (.own t) = none) (hu : P.underlying ty = some (.slice e)) (hk : P.underlying tx = some (.slice e'))
  (hs : sizeT P e = some n) (hn : ncell τ = n) (hz : zeroA P e = some z) (hzn : nA z = n) (hby : bytesT P e ≤ 4096) (hlen : xs.length + ys.length ≤ 2 ^ 32) {cx cy : C} {v u : Value} (hx : CRel G m w cx v) (hy : CRel G m w cy u)
  (dx : dc1 (.list τ) (resolve (getM m) cx) = some xs) (dy : dc1 (.list τ) (resolve (getM m) cy) = some ys) (hgrow : ∀ ad q, v = .slice ad xs.length q → q < xs.length + ys.length) :
  ∃ K w', (Builtin.append_ #[ty, tx] rt #[v, u]).run P w = .ok (.slice (some ⟨w.heap.size, 0, none⟩) (xs.length + ys.length) K) w' ∧ MRel P B (G.add (.own t) w.heap.size K) ((.own t, .sl τ (xs ++ ys) false) :: m2) w' ∧
   Ext G m w (G.add (.own t) w.heap.size K) ((.own t, .sl τ (xs ++ ys) false) :: m2) w' := by
 obtain ⟨ad, q, olds, rfl, hq, hol, hoone, horep, hone⟩ := rowOf h hx dx
 obtain ⟨news, hsrc, hnl, hnrep⟩ := srcOf h hy dy hk hn
 have hg := hgrow ad q rfl
 obtain ⟨i, vz, hi, hvz, hzrel⟩ := zeroA_rel hz
 obtain ⟨i', hi', hsz⟩ := sizeT_some hs
 rw [hi] at hi'; cases hi'
 have hbytes : i.bytes ≤ 4096 := by unfold bytesT at hby; rw [hi] at hby; exact hby
 have hold : (Builtin.firstCells i.size xs.length (.slice ad xs.length q)).run P w.drew = .ok olds.toArray w.drew := by
  cases ad with
  | none =>
   have : xs = [] := Classical.byContradiction fun hn => by obtain ⟨b, o, e, _⟩ := hone hn; cases e
   subst this
   have : olds = [] := List.length_eq_zero_iff.1 (by simpa using hol)
   subst this
   exact run_firstCells_none w.drew i.size 0 0 q
  | some a =>
   refine run_firstCells_some w.drew i.size _ a _ q olds (by rw [hol, hn, hsz]) (fun j u hj => ?_)
   have hlt := (List.getElem?_eq_some_iff.1 hj).1
   have hnn : xs ≠ [] := fun e => by subst e; simp at hol; subst hol; simp at hlt
   obtain ⟨b, o, e, hc⟩ := hone hnn
   cases e
   rw [Addr.add_mk]; exact hc j u hj
 have hfit : Builtin.nextslicecap (xs.length + ys.length) q * i.bytes ≤ 281474976710656 := by
  have h1 := nextcap_le (n := xs.length + ys.length) hg
  have h2 : Builtin.nextslicecap (xs.length + ys.length) q ≤ 2 * 4294967296 + 512 := by omega
  exact Nat.le_trans (Nat.mul_le_mul h2 hbytes) (by decide)
 have hrun := run_append_grow_src w ty tx rt e i vz hu hi hvz ad xs.length q olds hold u ys.length news (by rw [hsz]; exact hsrc) hg (by omega) hfit
 have hge := grownCap_ge w (xs.length + ys.length) q e
 have hzs : vz.cells.size = n := by have := (hzrel G m w).len; simp at this; omega
 have hvs : grownCap w (xs.length + ys.length) q e * ncell τ ≤ ((olds ++ news) ++ (Builtin.zeroCells vz.cells (grownCap w (xs.length + ys.length) q e - (xs.length + ys.length))).toList).length := by
  simp only [List.length_append, Array.length_toList, size_zeroCells, hol, hnl, hzs, hn]
  rw [← Nat.add_mul, ← Nat.add_mul]
  exact Nat.mul_le_mul_right _ (by omega)
 obtain ⟨h1, hE1⟩ := hm2.drew.newOwn (t := t) hm (K := grownCap w (xs.length + ys.length) q e) (τ := τ) (xs := xs ++ ys) (vs := (olds ++ news) ++ (Builtin.zeroCells vz.cells (grownCap w (xs.length + ys.length) q e - (xs.length + ys.length))).toList)
  (by simpa using hge) hvs (fun j hj => by
   have hj' : j < xs.length + ys.length := by simpa using hj
   have hlt : (j + 1) * ncell τ ≤ (xs.length + ys.length) * ncell τ := Nat.mul_le_mul_right _ (by omega)
   rw [Nat.add_mul, Nat.add_mul, Nat.one_mul] at hlt
   have hon : (olds ++ news).length = xs.length * ncell τ + ys.length * ncell τ := by simp [hol, hnl]
   rw [List.drop_append_of_le_length (by omega), List.take_append_of_le_length (by simp only [List.length_drop]; omega)]
   refine Rep.mono (S := G.S) (w := w) (w' := w.drew) (fun _ h => h) (fun _ _ => rfl) ?_
   by_cases e : j < xs.length
   ·have hle : (j + 1) * ncell τ ≤ xs.length * ncell τ := Nat.mul_le_mul_right _ (by omega)
    rw [Nat.add_mul, Nat.one_mul] at hle
    rw [List.drop_append_of_le_length (by omega), List.take_append_of_le_length (by simp only [List.length_drop]; omega), List.getElem_append_left e]
    exact horep j e
   ·have h2 : j * ncell τ = olds.length + (j - xs.length) * ncell τ := by
     rw [hol, ← Nat.add_mul]; congr 1; omega
    rw [h2, List.drop_length_add_append, List.getElem_append_right (by omega)]
    exact hnrep _ (by omega)) e
 refine ⟨grownCap w (xs.length + ys.length) q e, _, hrun, ?_, ?_⟩
 ·have e2 : ((olds ++ news) ++ (Builtin.zeroCells vz.cells (grownCap w (xs.length + ys.length) q e - (xs.length + ys.length))).toList).toArray = (olds ++ news).toArray ++ Builtin.zeroCells vz.cells (grownCap w (xs.length + ys.length) q e - (xs.length + ys.length)) := by
   apply Array.ext'; simp
  rw [e2] at h1; exact h1
 ·have e2 : ((olds ++ news) ++ (Builtin.zeroCells vz.cells (grownCap w (xs.length + ys.length) q e - (xs.length + ys.length))).toList).toArray = (olds ++ news).toArray ++ Builtin.zeroCells vz.cells (grownCap w (xs.length + ys.length) q e - (xs.length + ys.length)) := by
   apply Array.ext'; simp
  rw [e2] at hE1
  exact hEm.trans ((Ext.drew G m2 w).trans hE1)
theorem getM_ne {m : Mem} {l l' : Loc} {o : Obj} (h : l ≠ l') : getM ((l, o) :: m) l' = getM m l' := by rw [getM_cons, if_neg h]
theorem append_room {B : Beg} {G : Gh} {m : Mem} {w : World} (h : MRel P B G m w) {t i e n : Nat} {ty tx rt e' : Nat} {τ : Ty} {xs0 xs ys : List (den τ)} (hm : getM m (.own t) = none) (hi : getM m (.own i) = some (.sl τ xs0 false))
  (hpre : xs.length ≤ xs0.length ∧ ∀ j (hj : j < xs.length) (hj' : j < xs0.length), xs[j] = xs0[j]) (hu : P.underlying ty = some (.slice e)) (hk : P.underlying tx = some (.slice e'))
  (hs : sizeT P e = some n) (hn : ncell τ = n) {cy : C} {v u : Value} {ad : Option Addr} (hv : v = .slice ad xs.length (G.κ i)) (had : ad = some ⟨G.β (.own i), 0, none⟩ ∨ G.κ i = 0) (hy : CRel G m w cy u)
  (dy : dc1 (.list τ) (resolve (getM m) cy) = some ys) (hroom : xs.length + ys.length ≤ G.κ i) :
  ∃ w' b, (Builtin.append_ #[ty, tx] rt #[v, u]).run P w = .ok (.slice ad (xs.length + ys.length) (G.κ i)) w' ∧ MRel P B (G.add (.own t) b (G.κ i)) ((.own t, .sl τ (xs ++ ys) false) :: (.own i, .dead) :: m) w' ∧
   Ext G m w (G.add (.own t) b (G.κ i)) ((.own t, .sl τ (xs ++ ys) false) :: (.own i, .dead) :: m) w' ∧ (ad = some ⟨b, 0, none⟩ ∨ G.κ i = 0) := by
 subst hv
 have hne : Loc.own i ≠ .own t := fun e => by rw [e, hm] at hi; cases hi
 obtain ⟨news, hsrc, hnl, hnrep⟩ := srcOf h hy dy hk hn
 obtain ⟨inf, hinf, hsz⟩ := sizeT_some hs
 obtain ⟨hk1, hE1⟩ := h.kill hi
 have hm1 : getM ((.own i, .dead) :: m) (.own t) = none := by rw [getM_ne hne]; exact hm
 by_cases h0 : G.κ i = 0
 ·have hx0 : xs = [] := List.length_eq_zero_iff.1 (by omega)
  have hy0 : ys = [] := List.length_eq_zero_iff.1 (by omega)
  subst hx0; subst hy0
  have hnews : news = [] := List.length_eq_zero_iff.1 (by simpa using hnl)
  subst hnews
  have h2 := hk1.fresh0 (t := t) (b := 0) hm1 τ (Nat.le_refl _) fun _ _ => rfl
  have hE2 : Ext G ((.own i, .dead) :: m) w (G.add (.own t) 0 0) ((.own t, .sl τ [] false) :: (.own i, .dead) :: m) w := Ext.fresh _ 0 0 hm1 fun _ _ => rfl
  refine ⟨w, 0, ?_, by rw [h0]; exact h2, by rw [h0]; exact hE1.trans hE2, .inr h0⟩
  have hl : (Builtin.lenOf u).run P w = .ok 0 w := hsrc.len w
  have hc : (Builtin.firstCells n 0 u).run P w = .ok #[] w := hsrc.cells
  rcases hsrc.kind with ⟨e2, hk2⟩ | hk2
  ·cases ad with
   | none => simp [Builtin.append_, run_underlying hu, run_underlying hk2, sizeOf, typeInfo, hinf, hl, hsz, hc]
   | some a => simp [Builtin.append_, run_underlying hu, run_underlying hk2, sizeOf, typeInfo, hinf, hl, hsz, hc, storeCells]
  ·rw [hk] at hk2; cases hk2
 ·have had := had.resolve_right h0
  subst had
  obtain ⟨i', e2, hcap, _, hrow, hcell⟩ := h.objs _ _ hi
  cases e2
  have hκ : 0 < G.κ i := Nat.pos_of_ne_zero h0
  have hW : Writ G m (.own i) := by unfold Writ; rw [hi]; exact ⟨i, rfl, hκ⟩
  have hnS := h.wr _ hW
  have hlt := h.lt _ hW.real
  have hin : ∀ j, j < news.length → xs.length * ncell τ + j < G.κ i * ncell τ := fun j hj => by
   have : (xs.length + ys.length) * ncell τ ≤ G.κ i * ncell τ := Nat.mul_le_mul_right _ hroom
   rw [Nat.add_mul] at this; omega
  have hrun := run_append_room_src w ty tx rt e inf hu hinf (G.β (.own i)) 0 xs.length (G.κ i) u ys.length news (by rw [hsz]; exact hsrc) hroom
   (fun j hj => by rw [hsz, ← hn, Nat.zero_add]; exact (hcell rfl _ (hin j hj)).1) (fun j hj => by rw [hsz, ← hn, Nat.zero_add]; exact (hcell rfl _ (hin j hj)).2)
  rw [hsz, ← hn, Nat.zero_add] at hrun
  have hsome : ∀ j, j < news.length → (w.cell? ⟨G.β (.own i), xs.length * ncell τ + j, none⟩).isSome = true := fun j hj => (hcell rfl _ (hin j hj)).1
  have hblk : ∀ b', b' < w.heap.size → b' ≠ G.β (.own i) → (w.setCells (G.β (.own i)) (xs.length * ncell τ) news).heap[b']? = w.heap[b']? := fun b' _ hb => heap_setCells _ news _ w b' hb
  have hE2 : Ext G ((.own i, .dead) :: m) w (G.add (.own t) (G.β (.own i)) (G.κ i)) ((.own t, .sl τ (xs ++ ys) false) :: (.own i, .dead) :: m) (w.setCells (G.β (.own i)) (xs.length * ncell τ) news) :=
   Ext.fresh _ _ _ hm1 fun b hb => hblk b (h.ltS b hb) fun e => hnS (e ▸ hb)
  refine ⟨_, G.β (.own i), hrun, ?_, hE1.trans hE2, .inl rfl⟩
  refine hk1.fresh hm1 (fun _ e => nomatch e) (Nat.le_of_eq (size_setCells _ _ _ _).symm) hblk ?_ (by rw [size_setCells]; exact hlt) hnS (fun l hl e => ?_) ?_ ?_ (io_setCells _ _ _ _)
  ·rcases h.new _ hW.real with ⟨j, e, _⟩ | ⟨_, hge⟩
   ·cases e
   ·exact hge
  ·have hne' : l ≠ .own i := fun e => by
    subst e
    unfold Real at hl
    rw [getM_cons, if_pos rfl] at hl; exact hl
   have hl' : Real G m l := by unfold Real at hl ⊢; rw [getM_ne (Ne.symm hne')] at hl; exact hl
   exact hne' (h.inj _ _ hl' hW.real e)
  ·refine ⟨t, rfl, by simpa [Gh.add] using hroom, fun e => (Bool.false_ne_true e).elim, fun j hj => ?_, fun _ j hj => ?_⟩
   ·have hβ : (G.add (.own t) (G.β (.own i)) (G.κ i)).β (.own t) = G.β (.own i) := by simp [Gh.add]
    rw [hβ]
    have hj' : j < xs.length + ys.length := by simpa using hj
    by_cases e : j < xs.length
    ·have hj0 : j < xs0.length := by omega
     obtain ⟨us, hr, hc⟩ := hrow j hj0
     refine ⟨us, by rw [List.getElem_append_left e, hpre.2 j e hj0]; exact hr.mono hE2.S hE2.heap, fun p v hv => ?_⟩
     have hp : p < ncell τ := by have := (List.getElem?_eq_some_iff.1 hv).1; have := hr.len; omega
     have hle : (j + 1) * ncell τ ≤ xs.length * ncell τ := Nat.mul_le_mul_right _ (by omega)
     rw [Nat.add_mul, Nat.one_mul] at hle
     rw [World.cell?_setCells_out _ news _ w ⟨_, _, none⟩ (fun _ _ => .inl (by show j * ncell τ + p < xs.length * ncell τ; omega))]
     exact hc p v hv
    ·have hjy : j - xs.length < ys.length := by omega
     refine ⟨_, by rw [List.getElem_append_right (by omega)]; exact (hnrep _ hjy).mono hE2.S hE2.heap, fun p v hv => ?_⟩
     rw [List.getElem?_take] at hv
     split at hv
     ·rename_i hp
      rw [List.getElem?_drop] at hv
      have hlt2 := (List.getElem?_eq_some_iff.1 hv).1
      have := World.cell?_setCells_in (G.β (.own i)) news (xs.length * ncell τ) w hsome _ hlt2
      have h2 : xs.length * ncell τ + ((j - xs.length) * ncell τ + p) = j * ncell τ + p := by
       rw [← Nat.add_assoc, ← Nat.add_mul]; congr 2; omega
      rw [h2] at this
      rw [this]
      rw [List.getElem?_eq_getElem hlt2] at hv; exact hv
     ·cases hv
   ·have hβ : (G.add (.own t) (G.β (.own i)) (G.κ i)).β (.own t) = G.β (.own i) := by simp [Gh.add]
    have hκ' : (G.add (.own t) (G.β (.own i)) (G.κ i)).κ t = G.κ i := by simp [Gh.add]
    rw [hκ'] at hj
    rw [hβ]
    obtain ⟨c1, c2⟩ := hcell rfl j hj
    refine ⟨?_, by rw [World.frozen?_setCells]; exact c2⟩
    by_cases h1 : xs.length * ncell τ ≤ j ∧ j < xs.length * ncell τ + news.length
    ·have := World.cell?_setCells_in (G.β (.own i)) news (xs.length * ncell τ) w hsome (j - xs.length * ncell τ) (by omega)
     rw [show xs.length * ncell τ + (j - xs.length * ncell τ) = j by omega] at this
     rw [this]; rfl
    ·rw [World.cell?_setCells_out _ news _ w ⟨_, _, none⟩ (fun _ _ => by show j < _ ∨ _ ≤ j; omega)]
     exact c1
  ·unfold Real; rw [getM_cons, if_pos rfl]
   exact ⟨t, rfl, by simp [Gh.add]; exact hκ⟩
theorem append_nil {w : World} {ty tx rt e e' n : Nat} (hu : P.underlying ty = some (.slice e)) (hk : P.underlying tx = some (.slice e')) (hs : sizeT P e = some n) {u : Value} {news : List Value} (hsrc : Src P n tx u 0 news w) :
  (Builtin.append_ #[ty, tx] rt #[.slice none 0 0, u]).run P w = .ok (.slice none 0 0) w := by
 obtain ⟨inf, hinf, hsz⟩ := sizeT_some hs
 have hl := hsrc.len w
 have hc := hsrc.cells
 rcases hsrc.kind with ⟨e2, hk2⟩ | hk2
 ·simp [Builtin.append_, run_underlying hu, run_underlying hk2, sizeOf, typeInfo, hinf, hl, hsz, hc]
 ·rw [hk] at hk2; cases hk2
section
variable {R : Type} {calls : Nat → Option CallS} {ρ : Operand → AV} {μ : Loc → Option Obj} {o : Oper} {k : Eff → Option R} {r : R}
theorem op_append {c : Call} {x y : C} {ty tx e e' nm : Nat} (hnm : nm < 4096 → (∃ i, x = .slo i ∧ i < 4096) ∨ ∃ τ xs nl, x = .sl τ xs nl true) (ho : o.op = .call c) (hb : c.callee = .builtin .append) (ha : c.args.toList.map ρ = [.a (.one x), .a (.one y)]) (hat : c.argTypes.toList = [ty, tx])
  (hu : P.underlying ty = some (.slice e)) (hk : P.underlying tx = some (.slice e')) (h : appendK P H e nm μ x y k = some r) : ∃ e, k e = some r ∧ Sound P o ρ μ e := by
 obtain ⟨y1, y2, hy, hρ1, hρ2⟩ := args_two ha
 have hops : o.op.operands = #[y1, y2] := by rw [ho]; simp [Op.operands, Call.operands, hb, hy]
 have hat' : c.argTypes = #[ty, tx] := by rw [← Array.toArray_toList (xs := c.argTypes), hat]
 have hrun : ∀ (a : Act) (w w' : World) (q : Value), (Builtin.append_ #[ty, tx] o.type #[a.eval y1, a.eval y2]).run P w = .ok q w' → (execOp a.eval o).run P w = .ok (.value q) w' := fun a w w' q e => by
  simp [execOp, ho, Go.resolve, hb, hy, invoke, builtin, hat', e]
 unfold appendK at h
 split at h
 case h_2 => cases h
 rename_i τ n z hty hs hz
 split at h
 case h_2 => cases h
 rename_i ys xs hys hxs
 have hh := cond_some h
 clear h
 obtain ⟨hc, h⟩ := hh
 simp only [Bool.and_eq_true] at hc
 obtain ⟨⟨⟨hn, hnone⟩, hby⟩, hzn⟩ := hc
 have hn := Nat.eq_of_beq_eq_true hn
 have hnone := noneM_iff hnone
 have hby := Nat.le_of_ble_eq_true hby
 have hzn := Nat.eq_of_beq_eq_true hzn
 have hh := ite_some h
 clear h
 obtain ⟨hlen, h⟩ := hh
 have hlen : xs.length + ys.length ≤ 2 ^ 32 := Nat.le_of_ble_eq_true hlen
 -- what every case knows
 have base : ∀ (s : St) (rd : List Loc), (∀ q ∈ o.op.operands, ev s q = ρ q) → (∀ l ∈ rd, getM s.mem l = μ l) → (∀ i ∈ ownsOf [y], Loc.own i ∈ rd) → (∀ i ∈ ownsOf [x], Loc.own i ∈ rd) → .own nm ∈ rd → ∀ B G a w, WRel P B G s a w →
   getM s.mem (.own nm) = none ∧ CRel G s.mem w x (a.eval y1) ∧ CRel G s.mem w y (a.eval y2) ∧ dc1 (.list τ) (resolve (getM s.mem) y) = some ys ∧ dc1 (.list τ) (resolve (getM s.mem) x) = some xs := fun s rd hρ hμ hy' hx' ht B G a w hw => by
  have e1 := hw.ev y1
  rw [hρ y1 (by rw [hops]; simp), hρ1] at e1
  have e2 := hw.ev y2
  rw [hρ y2 (by rw [hops]; simp), hρ2] at e2
  refine ⟨by rw [hμ _ ht]; exact hnone, e1, e2, ?_, ?_⟩
  ·rw [resolve_congr' fun i hi => hμ _ (hy' i hi)]; exact hys
  ·rw [resolve_congr' fun i hi => hμ _ (hx' i hi)]; exact hxs
 split at h
 ·-- onto nil
  have hx0 : xs = [] := by simp only [resolve, dc1] at hxs; exact (Option.some.inj hxs).symm
  subst hx0
  refine ⟨_, h, fun s hρ hμ => SemO.of fun B G a w hw => ?_⟩
  obtain ⟨hm, e1, e2, dy, dx⟩ := base s _ hρ hμ (fun i hi => by simp [ownLs_mem hi]) (fun i hi => by cases hi) (by simp [keys]) B G a w hw
  by_cases hy0 : ys = []
  ·subst hy0
   obtain ⟨news, hsrc, hnl, _⟩ := srcOf hw.mem e2 dy hk hn
   have e1' : a.eval y1 = .slice none 0 0 := e1
   have := append_nil (rt := o.type) hu hk hs hsrc
   rw [← e1'] at this
   refine ⟨.slice none 0 0, w, G.add (.own nm) 0 0, .inl (by rw [hrun a w w _ this, e1']), hw.mem.fresh0 hm τ (Nat.le_refl _) (fun _ _ => rfl), Ext.fresh _ 0 0 hm fun _ _ => rfl, ?_⟩
   show CRel _ _ w (.slo nm) _
   simp only [setMs, CRel, getM_cons, if_pos]
   exact ⟨none, by simp [Gh.add], .inr (by simp [Gh.add]), fun hlt => by rcases hnm hlt with ⟨_, e, _⟩ | ⟨_, _, _, e⟩ <;> cases e⟩
  ·obtain ⟨K, w', hr, hM, hE⟩ := append_new (rt := o.type) hw.mem hw.mem (Ext.refl _ _ _) hm hu hk hs hn hz hzn hby hlen e1 e2 dx dy (fun ad q e => by
    have e1' : a.eval y1 = .slice none 0 0 := e1
    rw [e1'] at e; cases e
    have := List.length_pos_iff.2 hy0; simp; omega)
   refine ⟨_, w', _, .inl (hrun a w w' _ hr), hM, hE, ?_⟩
   show CRel _ _ w' (.slo nm) _
   simp only [setMs, CRel, getM_cons, if_pos]
   exact ⟨some ⟨w.heap.size, 0, none⟩, by simp [Gh.add], .inl (by simp [Gh.add]), fun _ => by simp⟩
 ·-- onto a slice of the function's own
  rename_i i
  split at h
  case h_2 => cases h
  rename_i τ' xs' hown
  have hxs' : ∃ e : τ' = τ, e ▸ xs' = xs := by
   simp only [resolve, hown, dc1] at hxs
   split at hxs
   ·rename_i e; exact ⟨e, Option.some.inj hxs⟩
   ·cases hxs
  obtain ⟨rfl, hxs'⟩ := hxs'
  have hxs' : xs' = xs := hxs'
  subst hxs'
  refine ⟨_, h, fun s hρ hμ => SemO.of fun B G a w hw => ?_⟩
  obtain ⟨hm, e1, e2, dy, dx⟩ := base s _ hρ hμ (fun i hi => by simp [ownLs_mem hi]) (fun j hj => by simp [ownsOf] at hj; subst hj; simp) (by simp [keys]) B G a w hw
  have hi : getM s.mem (.own i) = some (.sl τ' xs' false) := by rw [hμ _ (by simp)]; exact hown
  have hne : Loc.own i ≠ .own nm := fun e => by rw [e, hm] at hi; cases hi
  have e1' := e1
  simp only [CRel, hi] at e1'
  obtain ⟨ad, hv, had, hnn⟩ := e1'
  by_cases hroom : xs'.length + ys.length ≤ G.κ i
  ·obtain ⟨w', b, hr, hM, hE, hb⟩ := append_room (rt := o.type) hw.mem hm hi ⟨Nat.le_refl _, fun _ _ _ => rfl⟩ hu hk hs hn hv had e2 dy hroom
   refine ⟨_, w', _, .inl (hrun a w w' _ hr), hM, hE, ?_⟩
   show CRel _ _ w' (.slo nm) _
   simp only [setMs, CRel, getM_cons, if_pos]
   exact ⟨ad, by simp [Gh.add], by simpa [Gh.add] using hb, fun hlt => by
    rcases hnm hlt with ⟨i', e, hi'⟩ | ⟨_, _, _, e⟩
    ·cases e; exact hnn hi'
    ·cases e⟩
  ·obtain ⟨hk1, hE1⟩ := hw.mem.kill hi
   obtain ⟨K, w', hr, hM, hE⟩ := append_new (rt := o.type) hw.mem hk1 hE1 (by rw [getM_ne hne]; exact hm) hu hk hs hn hz hzn hby hlen e1 e2 dx dy (fun ad' q e => by rw [hv] at e; cases e; omega)
   refine ⟨_, w', _, .inl (hrun a w w' _ hr), hM, hE, ?_⟩
   show CRel _ _ w' (.slo nm) _
   simp only [setMs, CRel, getM_cons, if_pos]
   exact ⟨some ⟨w.heap.size, 0, none⟩, by simp [Gh.add], .inl (by simp [Gh.add]), fun _ => by simp⟩
 ·-- onto the begin of one
  rename_i i lo hi0
  split at h
  case h_2 => cases h
  rename_i τ' xs' hown
  have hh := cond_some h
  clear h
  obtain ⟨hlo, h⟩ := hh
  have hlo := Nat.eq_of_beq_eq_true hlo
  subst hlo
  have hxs' : ∃ e : τ' = τ, cut (e ▸ xs') 0 hi0 = xs := by
   simp only [resolve, hown, dc1] at hxs
   split at hxs
   ·rename_i e; subst e; exact ⟨rfl, Option.some.inj hxs⟩
   ·cases hxs
  obtain ⟨rfl, hxs'⟩ := hxs'
  have hxs' : cut xs' 0 hi0 = xs := hxs'
  subst hxs'
  refine ⟨_, h, fun s hρ hμ => SemO.of fun B G a w hw => ?_⟩
  obtain ⟨hm, e1, e2, dy, dx⟩ := base s _ hρ hμ (fun i hi => by simp [ownLs_mem hi]) (fun j hj => by simp [ownsOf] at hj; subst hj; simp) (by simp [keys]) B G a w hw
  have hi : getM s.mem (.own i) = some (.sl τ' xs' false) := by rw [hμ _ (by simp)]; exact hown
  have hne : Loc.own i ≠ .own nm := fun e => by rw [e, hm] at hi; cases hi
  have e1' := e1
  simp only [CRel, hi] at e1'
  obtain ⟨_, g2, ad, hv, had⟩ := e1'
  have hcl := cut_len xs' 0 hi0 g2
  have hv : a.eval y1 = .slice ad (cut xs' 0 hi0).length (G.κ i) := by rw [hv, hcl]; rfl
  have had : ad = some ⟨G.β (.own i), 0, none⟩ ∨ G.κ i = 0 := by
   rcases had with had | had
   ·left; simpa using had
   ·exact .inr had.symm
  by_cases hroom : (cut xs' 0 hi0).length + ys.length ≤ G.κ i
  ·obtain ⟨w', b, hr, hM, hE, hb⟩ := append_room (rt := o.type) hw.mem hm hi ⟨by omega, fun j hj hj' => by obtain ⟨hq, e⟩ := cut_get xs' 0 hi0 j hj; rw [e]; congr 1; omega⟩ hu hk hs hn hv had e2 dy hroom
   refine ⟨_, w', _, .inl (hrun a w w' _ hr), hM, hE, ?_⟩
   show CRel _ _ w' (.slo nm) _
   simp only [setMs, CRel, getM_cons, if_pos]
   exact ⟨ad, by simp [Gh.add], by simpa [Gh.add] using hb, fun hlt => by rcases hnm hlt with ⟨_, e, _⟩ | ⟨_, _, _, e⟩ <;> cases e⟩
  ·obtain ⟨hk1, hE1⟩ := hw.mem.kill hi
   obtain ⟨K, w', hr, hM, hE⟩ := append_new (rt := o.type) hw.mem hk1 hE1 (by rw [getM_ne hne]; exact hm) hu hk hs hn hz hzn hby hlen e1 e2 dx dy (fun ad' q e => by rw [hv] at e; cases e; omega)
   refine ⟨_, w', _, .inl (hrun a w w' _ hr), hM, hE, ?_⟩
   show CRel _ _ w' (.slo nm) _
   simp only [setMs, CRel, getM_cons, if_pos]
   exact ⟨some ⟨w.heap.size, 0, none⟩, by simp [Gh.add], .inl (by simp [Gh.add]), fun _ => by simp⟩
 ·-- onto a slice without room
  rename_i τ' xs' nl
  split at h
  ·cases h
  rename_i yh yt hys'
  have hxs' : ∃ e : τ' = τ, e ▸ xs' = xs := by
   simp only [resolve, dc1] at hxs
   split at hxs
   ·rename_i e; exact ⟨e, Option.some.inj hxs⟩
   ·cases hxs
  obtain ⟨rfl, hxs'⟩ := hxs'
  have hxs' : xs' = xs := hxs'
  subst hxs'
  refine ⟨_, h, fun s hρ hμ => SemO.of fun B G a w hw => ?_⟩
  obtain ⟨hm, e1, e2, dy, dx⟩ := base s _ hρ hμ (fun i hi => by simp [ownLs_mem hi]) (fun i hi => by cases hi) (by simp [keys]) B G a w hw
  have e1' := e1
  obtain ⟨ad, q, hv, _, _, _, hex⟩ := e1'
  have hq := hex rfl
  obtain ⟨K, w', hr, hM, hE⟩ := append_new (rt := o.type) hw.mem hw.mem (Ext.refl _ _ _) hm hu hk hs hn hz hzn hby hlen e1 e2 dx dy (fun ad' q' e => by rw [hv] at e; cases e; rw [hq]; simp)
  refine ⟨_, w', _, .inl (hrun a w w' _ hr), hM, hE, ?_⟩
  show CRel _ _ w' (.slo nm) _
  simp only [setMs, CRel, getM_cons, if_pos]
  exact ⟨some ⟨w.heap.size, 0, none⟩, by simp [Gh.add], .inl (by simp [Gh.add]), fun _ => by simp⟩
 ·cases h
end
end Go.Al
