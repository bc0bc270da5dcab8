/- Templates: a state is what its template says. -/
import Derived.Test.YtcgmelealalhhaaGreatDoorAlTm2
namespace Go.Al
variable {P : Program} {H : Hint}
theorem tm_sound {T : Tm} {s : St} {x : T.T} (h : T.dec s = some x) {B : Beg} {G : Gh} {a : Act} {w : World} (hw : WRel P B G s a w) :
  ∃ G', WRel P B G' (T.enc x) a w ∧ (∀ j, j < B.no → Loc.outer j ∈ T.lk) ∧ ∀ l ∈ T.lk, ∃ y, getM (T.enc x).mem l = some (.bx y) := by
 unfold Tm.dec at h
 split at h
 case h_2 => cases h
 rename_i ra rb hra hrb
 obtain ⟨hc, hd⟩ := cond_some h
 clear h
 unfold Tm.chk at hc
 simp only [Bool.and_eq_true, Bool.not_eq_true'] at hc
 obtain ⟨⟨⟨⟨⟨hok, hno⟩, hn1⟩, hn2⟩, hfz⟩, hou⟩ := hc
 obtain ⟨la, ga⟩ := gatR_get hra
 obtain ⟨lb, gb⟩ := gatM_get hrb
 have hlen := decAs_len hd
 rw [List.length_append, la, lb] at hlen
 obtain ⟨hobj, hsrc⟩ := entAs_maps hd
 have hents := entAs_ok hd
 generalize hE : entAs T.ts (ra ++ rb) x = E at *
 rw [← hsrc] at hn1 hn2 hfz
 have hM := hw.mem
 obtain ⟨G1, hM1, hE1, hS1⟩ := hM.frz (fzAs T.ts (ra ++ rb))
 have hfbx : ∀ l b, getM s.mem l = some (.bx b) → getM (setMs s.mem (freeze (getM s.mem) (fzAs T.ts (ra ++ rb)))) l = some (.bx b) := fun l b hg => frz_bx hg _
 have hfown : ∀ e ∈ E, ∀ j, e.2.1 = some j → getM (setMs s.mem (freeze (getM s.mem) (fzAs T.ts (ra ++ rb)))) (.own j) = getM s.mem (.own j) := fun e he j hj =>
  getM_freeze _ _ fun i hi e' => by
   cases e'
   have := List.any_eq_false.1 hfz j hi
   exact this (List.any_eq_true.2 ⟨j, somes_mem he hj, Nat.beq_refl j⟩)
 generalize hm1 : setMs s.mem (freeze (getM s.mem) (fzAs T.ts (ra ++ rb))) = m1 at *
 let G' : Gh := ⟨G1.S, fun l => match l with | .own i => (match lookS (E.map entSrc) i with | some j => G.β (.own j) | none => G.β (.own i)) | l => G.β l,
  fun i => match lookS (E.map entSrc) i with | some j => G.κ j | none => 0⟩
 have hGβ : ∀ l, (∀ i, l ≠ .own i) → G'.β l = G.β l := fun l hl => by
  cases l with
  | own i => exact absurd rfl (hl i)
  | box _ => rfl
  | outer _ => rfl
 have hGe : ∀ e ∈ E, match e.2.1 with | some j => G'.β (.own e.1) = G.β (.own j) ∧ G'.κ e.1 = G.κ j | none => G'.κ e.1 = 0 := fun e he => by
  have hl := lookS_get hn1 e he
  cases hs : e.2.1 with
  | some j =>
   rw [hs] at hl
   refine ⟨?_, ?_⟩
   ·show (match lookS (E.map entSrc) e.1 with | some j => G.β (.own j) | none => G.β (.own e.1)) = _
    rw [hl]
   ·show (match lookS (E.map entSrc) e.1 with | some j => G.κ j | none => 0) = _
    rw [hl]
  | none =>
   rw [hs] at hl
   show (match lookS (E.map entSrc) e.1 with | some j => G.κ j | none => 0) = _
   rw [hl]
 have hlk : ∀ l ∈ T.lk, ∀ i, l ≠ .own i := fun l hl i e => by
  subst e
  exact List.any_eq_false.1 hno _ hl rfl
 have hmem : (T.enc x).mem = zipM T.lk ((encAs T.ts x).drop T.rk.length) ++ E.map entObj := by rw [hobj]; rfl
 have hbl : ((encAs T.ts x).drop T.rk.length).length = T.lk.length := by rw [List.length_drop, encAs_len]; omega
 have hget : ∀ l, getM (T.enc x).mem l = match getM (zipM T.lk ((encAs T.ts x).drop T.rk.length)) l with | some o => some o | none => getM (E.map entObj) l := fun l => by
  rw [hmem, getM_append]; cases getM (zipM T.lk ((encAs T.ts x).drop T.rk.length)) l <;> rfl
 have hzown : ∀ i, getM (zipM T.lk ((encAs T.ts x).drop T.rk.length)) (.own i) = none := fun i => by
  cases hg : getM (zipM T.lk ((encAs T.ts x).drop T.rk.length)) (.own i) with
  | none => rfl
  | some o =>
   obtain ⟨p, v, h1, _⟩ := zipM_get _ _ _ _ hg
   exact absurd rfl (hlk _ (List.mem_of_getElem? h1) i)
 have hgetE : ∀ e ∈ E, getM (T.enc x).mem (.own e.1) = some e.2.2 := fun e he => by rw [hget, hzown, objs_get hn1 e he]
 have hposM : ∀ p l, T.lk[p]? = some l → ∃ v t y, getM s.mem l = some (.bx v) ∧ (T.ts.drop T.rk.length)[p]? = some t ∧ ((encAs T.ts x).drop T.rk.length)[p]? = some (encA t y) ∧ decA (getM s.mem) t v = some y ∧
   (∀ e ∈ entA t v y, e ∈ E) ∧ (∀ i ∈ fzA t v, i ∈ fzAs T.ts (ra ++ rb)) ∧ okA (tmOf T.lk (T.ts.drop T.rk.length)) t = true := fun p l hp => by
  obtain ⟨v, hv, hg⟩ := gb p l hp
  have : (ra ++ rb)[T.rk.length + p]? = some v := by rw [List.getElem?_append_right (by omega), la]; simpa using hv
  obtain ⟨t, y, h1, h2, h3, h4, h5⟩ := decAs_get hd _ v this
  exact ⟨v, t, y, hg, by rw [List.getElem?_drop]; exact h1, by rw [List.getElem?_drop]; exact h2, h3, by rw [← hE]; exact h4, h5, List.all_eq_true.1 hok t (List.mem_of_getElem? h1)⟩
 have hposR : ∀ p l, T.rk[p]? = some l → ∃ v t y, getR s.regs l = .a v ∧ (encAs T.ts x)[p]? = some (encA t y) ∧ decA (getM s.mem) t v = some y ∧
   (∀ e ∈ entA t v y, e ∈ E) ∧ (∀ i ∈ fzA t v, i ∈ fzAs T.ts (ra ++ rb)) ∧ okA (tmOf T.lk (T.ts.drop T.rk.length)) t = true := fun p l hp => by
  obtain ⟨v, hv, hg⟩ := ga p l hp
  have hpl := (List.getElem?_eq_some_iff.1 hp).1
  have : (ra ++ rb)[p]? = some v := by rw [List.getElem?_append_left (by omega)]; exact hv
  obtain ⟨t, y, h1, h2, h3, h4, h5⟩ := decAs_get hd _ v this
  exact ⟨v, t, y, hg, h2, h3, by rw [← hE]; exact h4, h5, List.all_eq_true.1 hok t (List.mem_of_getElem? h1)⟩
 have L : Link G s.mem w G1 m1 G' (T.enc x).mem (tmOf T.lk (T.ts.drop T.rk.length)) (fzAs T.ts (ra ++ rb)) E := by
  refine ⟨hE1, rfl, hS1, fun e he => ⟨hgetE e he, hGe e he⟩, fun l t ht => ?_⟩
  obtain ⟨y, h1, h2, h3⟩ := tmOf_get ht hbl fun p t v h1 h2 => by
   have hp : p < T.lk.length := by rw [← hbl]; exact (List.getElem?_eq_some_iff.1 h2).1
   obtain ⟨_, t', y, _, e1, e2, _⟩ := hposM p _ (List.getElem?_eq_getElem hp)
   rw [e1] at h1; cases h1
   rw [e2] at h2; cases h2
   exact nA_enc t y
  exact ⟨y, by rw [hget, h1], h2, hGβ l (hlk l h3)⟩
 -- where what is there comes from
 have hcls : ∀ l o, getM (T.enc x).mem l = some o → (∃ v t y, (∀ i, l ≠ .own i) ∧ getM s.mem l = some (.bx v) ∧ o = .bx (encA t y) ∧ decA (getM s.mem) t v = some y ∧ (∀ e ∈ entA t v y, e ∈ E) ∧ (∀ i ∈ fzA t v, i ∈ fzAs T.ts (ra ++ rb)) ∧
   okA (tmOf T.lk (T.ts.drop T.rk.length)) t = true) ∨ (∃ e ∈ E, l = .own e.1 ∧ o = e.2.2) := fun l o hg => by
  rw [hget] at hg
  cases hz : getM (zipM T.lk ((encAs T.ts x).drop T.rk.length)) l with
  | some q =>
   rw [hz] at hg
   cases hg
   obtain ⟨p, v', h1, h2, rfl⟩ := zipM_get _ _ _ _ hz
   obtain ⟨v, t, y, g1, _, g3, g4, g5, g6, g7⟩ := hposM p l h1
   rw [g3] at h2; cases h2
   exact .inl ⟨v, t, y, hlk l (List.mem_of_getElem? h1), g1, rfl, g4, g5, g6, g7⟩
  | none =>
   rw [hz] at hg
   exact .inr (objs_mem hg)
 have hreal : ∀ l, Real G' (T.enc x).mem l → ∃ l0, Real G s.mem l0 ∧ G'.β l = G.β l0 ∧ ((∀ i, l ≠ .own i) ∧ l0 = l ∨ ∃ e ∈ E, ∃ j, e.2.1 = some j ∧ l = .own e.1 ∧ l0 = .own j) := fun l hl => by
  obtain ⟨o, ho⟩ := hl.of_get
  rcases hcls l o ho with ⟨v, t, y, h1, h2, _⟩ | ⟨e, he, rfl, rfl⟩
  ·exact ⟨l, by unfold Real; rw [h2]; trivial, hGβ l h1, .inl ⟨h1, rfl⟩⟩
  ·obtain ⟨τ, xs, e1, e2⟩ := hents e he
   have hge := hGe e he
   unfold Real at hl
   rw [ho, e1] at hl
   obtain ⟨i, ei, hp⟩ := hl
   cases ei
   cases hs : e.2.1 with
   | none => rw [hs] at hge; simp only at hge; omega
   | some j =>
    rw [hs] at hge e2
    simp only at hge e2
    refine ⟨.own j, ?_, hge.1, .inr ⟨e, he, j, hs, rfl, rfl⟩⟩
    unfold Real; rw [e2]
    exact ⟨j, rfl, by rw [← hge.2]; exact hp⟩
 have hmrel : MRel P B G' (T.enc x).mem w := by
  refine ⟨fun l o ho => ?_, fun l l' hl hl' e => ?_, fun l hl => ?_, fun l hl => ?_, hM1.ltS, fun l hl => ?_, hM.grow, hM.kept, hM1.s0, hM1.s1, fun j hj => ?_, hM.io, hM1.tab⟩
  ·rcases hcls l o ho with ⟨v, t, y, h1, h2, rfl, h3, h4, h5, h6⟩ | ⟨e, he, rfl, rfl⟩
   ·rcases hM.objs l _ h2 with ⟨vs, hcs, hr, hf⟩ | hlp
    case inr => exact .inr (by rw [hGβ l h1]; exact decA_Lp hM L h5 h4 h6 h3 hlp)
    exact .inl ⟨vs, decA_Cs hM L h5 h4 h6 h3 hcs, by rw [hGβ l h1]; exact hr, by rw [hGβ l h1]; exact hf⟩
   ·obtain ⟨τ, xs, e1, e2⟩ := hents e he
    have hge := hGe e he
    rw [e1]
    cases hs : e.2.1 with
    | none =>
     rw [hs] at hge e2
     simp only at hge e2
     subst e2
     exact ⟨e.1, rfl, by simp, (fun hf => nomatch hf), fun j hj => absurd hj (by simp), fun _ j hj => absurd hj (by rw [hge]; simp)⟩
    | some j =>
     rw [hs] at hge e2
     simp only at hge e2
     obtain ⟨i', e', k1, _, k3, k4⟩ := hM.objs _ _ e2
     cases e'
     refine ⟨e.1, rfl, by rw [hge.2]; exact k1, (fun hf => nomatch hf), fun q hq => ?_, fun _ q hq => ?_⟩
     ·obtain ⟨us, hrep, hcell⟩ := k3 q hq
      exact ⟨us, hrep.mono hE1.S hE1.heap, by rw [hge.1]; exact hcell⟩
     ·rw [hge.1]; rw [hge.2] at hq; exact k4 rfl q hq
  ·obtain ⟨l0, r0, b0, c0⟩ := hreal l hl
   obtain ⟨l1, r1, b1, c1⟩ := hreal l' hl'
   rw [b0, b1] at e
   have := hM.inj l0 l1 r0 r1 e
   subst this
   rcases c0 with ⟨n0, rfl⟩ | ⟨e0, he0, j0, s0, rfl, rfl⟩ <;> rcases c1 with ⟨n1, e1⟩ | ⟨e1, he1, j1, s1, rfl, q1⟩
   ·exact e1
   ·exact absurd q1 (n0 j1)
   ·exact absurd e1.symm (n1 j0)
   ·cases q1
    rw [srcs_inj hn2 e0 he0 e1 he1 j0 s0 s1]
  ·obtain ⟨o, ho⟩ := hl.real.of_get
   rcases hcls l o ho with ⟨v, t, y, h1, h2, rfl, _⟩ | ⟨e, he, rfl, rfl⟩
   ·have hg1 := hfbx l v h2
    rw [hGβ l h1]
    have := hM1.wr l (by unfold Writ; rw [hg1]; trivial)
    obtain ⟨_, _, _, hb, _⟩ := hE1.live l _ h2
    rw [hb] at this; exact this
   ·obtain ⟨τ, xs, e1, e2⟩ := hents e he
    have hge := hGe e he
    unfold Writ at hl
    rw [ho, e1] at hl
    obtain ⟨i, ei, hp⟩ := hl
    cases ei
    cases hs : e.2.1 with
    | none => rw [hs] at hge; simp only at hge; omega
    | some j =>
     have hfo := hfown e he j hs
     rw [hs] at hge e2
     simp only at hge e2
     obtain ⟨_, _, _, hb, hk⟩ := hE1.live _ _ e2
     have := hM1.wr (.own j) (by unfold Writ; rw [hfo, e2]; exact ⟨j, rfl, by rw [hk j rfl, ← hge.2]; exact hp⟩)
     rw [hb] at this
     rw [hge.1]; exact this
  ·obtain ⟨l0, r0, b0, _⟩ := hreal l hl
   rw [b0]; exact hM.lt l0 r0
  ·obtain ⟨l0, r0, b0, c0⟩ := hreal l hl
   rw [b0]
   rcases c0 with ⟨n0, rfl⟩ | ⟨e0, he0, j0, s0, rfl, rfl⟩
   ·exact hM.new l0 r0
   ·rcases hM.new _ r0 with ⟨j, e, _⟩ | ⟨_, hge⟩
    ·cases e
    ·exact .inr ⟨(fun j e => nomatch e), hge⟩
  ·obtain ⟨y, hy⟩ := hM.outs j hj
   have := List.all_eq_true.1 hou _ (get_mem hy)
   simp only at this
   obtain ⟨l, hl, e⟩ := List.any_eq_true.1 this
   have := Loc.eqb_iff.1 e
   subst this
   obtain ⟨v, hv⟩ := zipM_of hbl hl
   exact ⟨v, by rw [hget, hv]⟩
 refine ⟨G', ⟨fun t => ?_, hw.size, hw.nod.ext hE1, hmrel⟩, fun j hj => ?_, fun l hl => ?_⟩
 ·show AVRel G' (T.enc x).mem w (getR (zipR T.rk (encAs T.ts x)) t) _
  rcases zipR_get T.rk (encAs T.ts x) t with h | ⟨p, v', h1, h2, h3⟩
  ·rw [h]; trivial
  ·rw [h3]
   obtain ⟨v, tt, y, g1, g2, g3, g4, g5, g6⟩ := hposR p t h1
   rw [g2] at h2; cases h2
   have := hw.regs t
   rw [g1] at this
   exact decA_rel hM L g5 g4 g6 g3 this
 ·obtain ⟨y, hy⟩ := hM.outs j hj
  have := List.all_eq_true.1 hou _ (get_mem hy)
  simp only at this
  obtain ⟨l, hl, e⟩ := List.any_eq_true.1 this
  have := Loc.eqb_iff.1 e
  subst this
  exact hl
 ·obtain ⟨v, hv⟩ := zipM_of hbl hl
  exact ⟨v, by rw [hget, hv]⟩
end Go.Al
