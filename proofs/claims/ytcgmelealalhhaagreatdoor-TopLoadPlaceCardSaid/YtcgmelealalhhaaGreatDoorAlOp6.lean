/- Reads: slices of slices, lengths, least and greatest. -/
import Derived.Test.YtcgmelealalhhaaGreatDoorAlOp5
namespace Go.Al
variable {P : Program} {H : Hint}
section
variable {R : Type} {calls : Nat → Option CallS} {ρ : Operand → AV} {μ : Loc → Option Obj} {o : Oper} {k : Eff → Option R} {r : R}
theorem run_bound {x : Value} {k : IntKind} {i : Int} (hx : x = .int k i) {y : Nat} {code : BoundsCode} (h0 : 0 ≤ i) (h1 : i ≤ (y : Int)) (w : World) : (Instr.sliceBound x y code).run P w = .ok i.toNat w := by
 subst hx; simp [Instr.sliceBound, asIntOf, h0, h1]
theorem loOf_rel {G : Gh} {m : Mem} {w : World} {a : Act} {lo : Option Operand} {l : Int} (hr : ∀ y, lo = some y → AVRel G m w (ρ y) (a.eval y)) (h : loOf (lo.map fun x => asC (ρ x)) = some l) :
  (lo = none ∧ l = 0) ∨ ∃ y k, lo = some y ∧ a.eval y = .int k l := by
 cases lo with
 | none => simp [loOf] at h; exact .inl ⟨rfl, h.symm⟩
 | some y => simp [loOf] at h; obtain ⟨k, e⟩ := asInt_rel (hr y rfl) h; exact .inr ⟨y, k, rfl, e⟩
theorem hiOf_rel {G : Gh} {m : Mem} {w : World} {a : Act} {lo : Option Operand} {l : Int} {len : Nat} (hr : ∀ y, lo = some y → AVRel G m w (ρ y) (a.eval y)) (h : hiOf len (lo.map fun x => asC (ρ x)) = some l) :
  (lo = none ∧ l = len) ∨ ∃ y k, lo = some y ∧ a.eval y = .int k l := by
 cases lo with
 | none => simp [hiOf] at h; exact .inl ⟨rfl, h.symm⟩
 | some y => simp [hiOf] at h; obtain ⟨k, e⟩ := asInt_rel (hr y rfl) h; exact .inr ⟨y, k, rfl, e⟩
theorem run_slice2 {ty e n : Nat} (hu : P.underlying ty = some (.slice e)) (hs : sizeT P e = some n) (w : World) (a : Act) (ad : Option Addr) (len cap : Nat) (hlc : len ≤ cap) {lo hi : Option Operand} {l h : Int}
  (h1 : (lo = none ∧ l = 0) ∨ ∃ y k, lo = some y ∧ a.eval y = .int k l) (h2 : (hi = none ∧ h = len) ∨ ∃ y k, hi = some y ∧ a.eval y = .int k h)
  (g0 : 0 ≤ l) (g1 : l ≤ h) (g2 : h ≤ (len : Int)) :
  (Instr.sliceAt ty (.slice ad len cap) (lo.map a.eval) (hi.map a.eval) none).run P w = .ok (.slice (if cap = l.toNat then ad else ad.map (·.add (l.toNat * n))) (h.toNat - l.toNat) (cap - l.toNat)) w := by
 obtain ⟨inf, hi', hz⟩ := sizeT_some hs
 have hb : ∀ {y : Operand} {k : IntKind} {i : Int} (_ : a.eval y = .int k i) (z : Nat) (code : BoundsCode) (_ : 0 ≤ i) (_ : i ≤ (z : Int)), (Instr.sliceBound (a.eval y) z code).run P w = .ok i.toNat w :=
  fun e z code a1 a2 => run_bound e a1 a2 w
 rcases h1 with ⟨rfl, rfl⟩ | ⟨y, ky, rfl, ey⟩ <;> rcases h2 with ⟨rfl, rfl⟩ | ⟨z, kz, rfl, ez⟩
 ·simp [Instr.sliceAt, run_underlying hu, Instr.slice, Instr.sliceBounds, sizeOf, typeInfo, hi', hz]
 ·simp [Instr.sliceAt, run_underlying hu, Instr.slice, Instr.sliceBounds, sizeOf, typeInfo, hi', hz, hb ez cap .sliceAcap (by omega) (by omega)]
 ·simp [Instr.sliceAt, run_underlying hu, Instr.slice, Instr.sliceBounds, sizeOf, typeInfo, hi', hz, hb ey len .sliceB (by omega) (by omega)]
 ·have q := hb ey h.toNat .sliceB (by omega) (by omega)
  simp [Instr.sliceAt, run_underlying hu, Instr.slice, Instr.sliceBounds, sizeOf, typeInfo, hi', hz, hb ez cap .sliceAcap (by omega) (by omega), q]
theorem run_slice3 {ty e n : Nat} (hu : P.underlying ty = some (.slice e)) (hs : sizeT P e = some n) (w : World) (a : Act) (ad : Option Addr) (len cap : Nat) (hlc : len ≤ cap) {lo : Option Operand} {z q : Operand} {kz kq : IntKind} {l h : Int}
  (h1 : (lo = none ∧ l = 0) ∨ ∃ y k, lo = some y ∧ a.eval y = .int k l) (ez : a.eval z = .int kz h) (eq : a.eval q = .int kq h)
  (g0 : 0 ≤ l) (g1 : l ≤ h) (g2 : h ≤ (len : Int)) :
  (Instr.sliceAt ty (.slice ad len cap) (lo.map a.eval) (some (a.eval z)) (some (a.eval q))).run P w = .ok (.slice (if h.toNat = l.toNat then ad else ad.map (·.add (l.toNat * n))) (h.toNat - l.toNat) (h.toNat - l.toNat)) w := by
 obtain ⟨inf, hi', hz⟩ := sizeT_some hs
 have hb : ∀ {y : Operand} {k : IntKind} {i : Int} (_ : a.eval y = .int k i) (z : Nat) (code : BoundsCode) (_ : 0 ≤ i) (_ : i ≤ (z : Int)), (Instr.sliceBound (a.eval y) z code).run P w = .ok i.toNat w :=
  fun e z code a1 a2 => run_bound e a1 a2 w
 have q1 := hb eq cap .slice3Acap (by omega) (by omega)
 have q2 := hb ez h.toNat .slice3B (by omega) (by omega)
 rcases h1 with ⟨rfl, rfl⟩ | ⟨y, ky, rfl, ey⟩
 ·simp [Instr.sliceAt, run_underlying hu, Instr.slice, Instr.sliceBounds, sizeOf, typeInfo, hi', hz, q1, q2]
 ·have q3 := hb ey h.toNat .slice3C (by omega) (by omega)
  simp [Instr.sliceAt, run_underlying hu, Instr.slice, Instr.sliceBounds, sizeOf, typeInfo, hi', hz, q1, q2, q3]
theorem cut_len {α : Type} (xs : List α) (l h : Nat) (hh : h ≤ xs.length) : (cut xs l h).length = h - l := by
 simp [cut]; omega
theorem cut_get {α : Type} (xs : List α) (l h i : Nat) (hi : i < (cut xs l h).length) : ∃ hj : l + i < xs.length, (cut xs l h)[i] = xs[l + i] := by
 have : i < h - l ∧ i < xs.length - l := by simp [cut] at hi; omega
 exact ⟨by omega, by simp [cut]⟩
theorem cut_row {G : Gh} {w : World} {τ : Ty} {xs : List (den τ)} {ad : Option Addr} {l h c : Nat} (hl : l ≤ h) (hh : h ≤ xs.length) (hc : h ≤ c)
  (hrow : ∀ i (h : i < xs.length), ∃ b o us, ad = some ⟨b, o, none⟩ ∧ G.S b ∧ Rep G.S w τ xs[i] us ∧ w.rangeAt b (o + i * ncell τ) us) :
  ∀ i (hi : i < (cut xs l h).length), ∃ b o us, (if c = l then ad else ad.map (·.add (l * ncell τ))) = some ⟨b, o, none⟩ ∧ G.S b ∧ Rep G.S w τ (cut xs l h)[i] us ∧ w.rangeAt b (o + i * ncell τ) us := fun i hi => by
 obtain ⟨hj, e⟩ := cut_get xs l h i hi
 rw [cut_len xs l h hh] at hi
 obtain ⟨b, o, us, had, hS, hr, hcell⟩ := hrow (l + i) hj
 refine ⟨b, o + l * ncell τ, us, ?_, hS, by rw [e]; exact hr, ?_⟩
 ·rw [if_neg (by omega), had]; simp [Addr.add_mk]
 ·rw [Nat.add_mul] at hcell; rw [Nat.add_assoc]; exact hcell
theorem op_slice {ty : Nat} {x : Operand} {lo hi mx : Option Operand} (ho : o.op = .slice ty x lo hi mx) (hna : ∀ len e, P.underlying ty ≠ some (.array len e)) (hz : nzO H (o.dst.getD 0) x = false) (h : opK P H calls ρ μ o k = some r) : ∃ e, k e = some r ∧ Sound P o ρ μ e := by
 simp only [opK, ho, hz, cond_false] at h
 have hops : o.op.operands = #[x] ++ lo.toArray ++ hi.toArray ++ mx.toArray := by rw [ho]; rfl
 have hmem : ∀ y, (y = x ∨ lo = some y ∨ hi = some y ∨ mx = some y) → y ∈ o.op.operands := fun y hy => by
  rw [hops]; rcases hy with rfl | rfl | rfl | rfl <;> simp
 split at h
 case h_2 => rename_i hu; exact absurd hu (hna _ _)
 case h_3 => cases h
 rename_i e hu
 split at h
 ·rename_i n τ xs nl ex hs hx
  obtain ⟨hb, h⟩ := cond_some h
  have hb := Nat.eq_of_beq_eq_true hb
  unfold sliceK at h
  split at h
  ·rename_i l hh hl hhi hmx
   obtain ⟨hr, h⟩ := ite_some h
   simp only at h
   have hr : (0 ≤ l ∧ l ≤ hh) ∧ hh ≤ (xs.length : Int) := by simpa using hr
   refine ⟨_, h, fun s hρ hμ => SemO.val fun B G a w hw => ?_⟩
   have ey : ∀ y, (y = x ∨ lo = some y ∨ hi = some y ∨ mx = some y) → AVRel G s.mem w (ρ y) (a.eval y) := fun y hy => by rw [← hρ y (hmem y hy)]; exact hw.ev y
   have ex := asC_rel (ey x (.inl rfl))
   rw [hx] at ex
   obtain ⟨ad, c, ev', hc, hrow, _⟩ := ex
   have hmx : mx = none := by cases mx <;> simp at hmx; rfl
   have l1 := loOf_rel (a := a) (fun y hy => ey y (.inr (.inl hy))) hl
   have l2 := hiOf_rel (a := a) (fun y hy => ey y (.inr (.inr (.inl hy)))) hhi
   refine ⟨_, by simp only [execOp, ho, ev', hmx, Sem.run_bind, Option.map_none, run_slice2 hu hs w a ad _ c hc l1 l2 hr.1.1 hr.1.2 hr.2]; rfl, ?_⟩
   have hlen := cut_len xs l.toNat hh.toNat (by omega)
   rw [← hb]
   exact ⟨_, _, by rw [hlen], by rw [hlen]; omega, cut_row (by omega) (by omega) (by omega) hrow, (fun _ e => nomatch e), (fun e => nomatch e)⟩
  ·rename_i l hh c' hl hhi hmx
   split at h
   case h_2 => cases h
   rename_i hi' m' τ' xs' nl' ex' hhi0 hm' hxx
   cases hxx
   obtain ⟨hr, h⟩ := ite_some h
   have hr : ((0 ≤ l ∧ l ≤ hh) ∧ hh ≤ (xs.length : Int)) ∧ m' = hh := by simpa using hr
   obtain ⟨hr, rfl⟩ := hr
   refine ⟨_, h, fun s hρ hμ => SemO.val fun B G a w hw => ?_⟩
   have ey : ∀ y, (y = x ∨ lo = some y ∨ hi = some y ∨ mx = some y) → AVRel G s.mem w (ρ y) (a.eval y) := fun y hy => by rw [← hρ y (hmem y hy)]; exact hw.ev y
   have ex := asC_rel (ey x (.inl rfl))
   rw [hx] at ex
   obtain ⟨ad, c, ev', hc, hrow, _⟩ := ex
   have l1 := loOf_rel (a := a) (fun y hy => ey y (.inr (.inl hy))) hl
   have l2 := hiOf_rel (a := a) (fun y hy => ey y (.inr (.inr (.inl hy)))) hhi
   obtain ⟨q, hq⟩ : ∃ q, mx = some q := by cases mx <;> simp at hmx; exact ⟨_, rfl⟩
   obtain ⟨z, hz⟩ : ∃ z, hi = some z := by cases hi <;> simp at hhi0; exact ⟨_, rfl⟩
   subst hq; subst hz
   obtain ⟨kz, ez⟩ : ∃ kz, a.eval z = .int kz m' := by
    rcases l2 with ⟨e, _⟩ | ⟨y, kk, e, e2⟩
    ·cases e
    ·cases e; exact ⟨kk, e2⟩
   obtain ⟨kq, eq⟩ : ∃ kq, a.eval q = .int kq m' := by
    simp at hmx
    exact asInt_rel (ey q (.inr (.inr (.inr rfl)))) (by rw [hmx]; exact hm')
   refine ⟨_, by simp only [execOp, ho, ev', Sem.run_bind, Option.map_some, run_slice3 hu hs w a ad _ c hc l1 ez eq hr.1.1 hr.1.2 hr.2]; rfl, ?_⟩
   have hlen := cut_len xs l.toNat m'.toNat (by omega)
   rw [← hb]
   exact ⟨_, _, by rw [hlen], by rw [hlen]; omega, cut_row (by omega) (by omega) (by omega) hrow, (fun _ e => nomatch e), (fun _ => hlen.symm)⟩
  ·cases h
 ·rename_i n i hs hx
  split at h
  case h_2 => cases h
  rename_i τ xs fr hm0
  obtain ⟨hb, h⟩ := cond_some h
  have hb := Nat.eq_of_beq_eq_true hb
  unfold sliceK at h
  split at h
  ·rename_i l hh hl hhi hmx
   obtain ⟨hr, h⟩ := ite_some h
   simp only at h
   have hr : (0 ≤ l ∧ l ≤ hh) ∧ hh ≤ (xs.length : Int) := by simpa using hr
   refine ⟨_, h, fun s hρ hμ => SemO.val fun B G a w hw => ?_⟩
   have ey : ∀ y, (y = x ∨ lo = some y ∨ hi = some y ∨ mx = some y) → AVRel G s.mem w (ρ y) (a.eval y) := fun y hy => by rw [← hρ y (hmem y hy)]; exact hw.ev y
   have ex := asC_rel (ey x (.inl rfl))
   have hm : getM s.mem (.own i) = some (.sl τ xs fr) := by rw [hμ _ (by simp)]; exact hm0
   rw [hx] at ex
   simp only [CRel, hm] at ex
   obtain ⟨ad, ev', had⟩ := ex
   obtain ⟨i', e', hcap, _⟩ := hw.mem.objs _ _ hm
   cases e'
   have hmx : mx = none := by cases mx <;> simp at hmx; rfl
   have l1 := loOf_rel (a := a) (fun y hy => ey y (.inr (.inl hy))) hl
   have l2 := hiOf_rel (a := a) (fun y hy => ey y (.inr (.inr (.inl hy)))) hhi
   refine ⟨_, by simp only [execOp, ho, ev', hmx, Sem.run_bind, Option.map_none, run_slice2 hu hs w a ad _ _ hcap l1 l2 hr.1.1 hr.1.2 hr.2]; rfl, ?_⟩
   show CRel G s.mem w (.slv i l.toNat hh.toNat) _
   simp only [CRel, hm]
   refine ⟨by omega, by omega, _, rfl, ?_⟩
   by_cases e : G.κ i = l.toNat
   ·exact .inr e.symm
   ·rw [if_neg e]
    rcases had with e2 | e3
    ·rw [e2]; left; simp [Addr.add_mk, hb]
    ·exact absurd (by omega : G.κ i = l.toNat) e
  ·rename_i l hh c' hl hhi hmx
   split at h
   ·rename_i hxx; cases hxx
   ·cases h
  ·cases h
 ·cases h
theorem bind_some {α β : Type} {x : Option α} {f : α → Option β} {y : β} (h : x.bind f = some y) : ∃ a, x = some a ∧ f a = some y := by
 cases x with
 | none => cases h
 | some a => exact ⟨a, rfl, h⟩
theorem args_one {c : Call} {x : AV} (h : c.args.toList.map ρ = [x]) : ∃ y, c.args = #[y] ∧ ρ y = x := by
 cases hl : c.args.toList with
 | nil => rw [hl] at h; cases h
 | cons y r =>
  rw [hl] at h
  cases r with
  | nil => simp at h; exact ⟨y, by rw [← Array.toArray_toList (xs := c.args), hl], h⟩
  | cons _ _ => simp at h
theorem args_two {c : Call} {x x' : AV} (h : c.args.toList.map ρ = [x, x']) : ∃ y y', c.args = #[y, y'] ∧ ρ y = x ∧ ρ y' = x' := by
 cases hl : c.args.toList with
 | nil => rw [hl] at h; cases h
 | cons y r =>
  rw [hl] at h
  cases r with
  | nil => simp at h
  | cons y' r =>
   cases r with
   | nil => simp at h; exact ⟨y, y', by rw [← Array.toArray_toList (xs := c.args), hl], h⟩
   | cons _ _ => simp at h
theorem op_len {c : Call} {x : C} (ho : o.op = .call c) (hb : c.callee = .builtin .len) (ha : c.args.toList.map ρ = [.a (.one x)])
  (h : lenK μ ((c.argTypes[0]?).bind P.underlying) x k = some r) :
  ∃ e, k e = some r ∧ Sound P o ρ μ e := by
 obtain ⟨y, hy, hx⟩ := args_one ha
 clear ha
 have hops : o.op.operands = #[y] := by rw [ho]; simp [Op.operands, Call.operands, hb, hy]
 have run : ∀ (a : Act) (w : World) (t : Nat) (d : TypeDesc) (v : Value) (n : Int), c.argTypes[0]? = some t → P.underlying t = some d → a.eval y = v → ((∃ e ad l q, d = .slice e ∧ v = .slice ad l q ∧ n = l) ∨ (∃ s, d = .string ∧ v = .string s ∧ n = s.size)) →
   (execOp a.eval o).run P w = .ok (.value (.int .i64 n)) w := fun a w t d v n h1 h2 h3 h4 => by
  rcases h4 with ⟨e, ad, l, q, rfl, rfl, rfl⟩ | ⟨s, rfl, rfl, rfl⟩ <;>
   simp [execOp, ho, Go.resolve, hb, hy, h3, invoke, builtin, Builtin.len_, h1, run_underlying h2, goInt]
 unfold lenK at h
 split at h
 ·rename_i e hd
  obtain ⟨t, h1, h2⟩ := bind_some hd
  exact ⟨_, h, Sound.un hops fun G m w a u e hr => by
   rw [hx] at hr
   exact ⟨_, run a w t _ u 0 h1 h2 e (.inl ⟨_, _, _, _, rfl, hr, rfl⟩), rfl⟩⟩
 ·rename_i e τ xs nl ex hd
  obtain ⟨t, h1, h2⟩ := bind_some hd
  exact ⟨_, h, Sound.un hops fun G m w a u e hr => by
   rw [hx] at hr
   obtain ⟨ad, q, hv, _⟩ := hr
   exact ⟨_, run a w t _ u _ h1 h2 e (.inl ⟨_, _, _, _, rfl, hv, rfl⟩), rfl⟩⟩
 ·rename_i e i hd
  obtain ⟨t, h1, h2⟩ := bind_some hd
  split at h
  case h_2 => cases h
  rename_i τ xs fr hm0
  refine ⟨_, h, fun s hρ hμ => SemO.val fun B G a w hw => ?_⟩
  have ex := hw.ev y
  rw [hρ y (by rw [hops]; simp), hx] at ex
  have hm : getM s.mem (.own i) = some (.sl τ xs fr) := by rw [hμ _ (by simp)]; exact hm0
  have ex : CRel G s.mem w (.slo i) (a.eval y) := ex
  simp only [CRel, hm] at ex
  obtain ⟨ad, hv, _⟩ := ex
  exact ⟨_, run a w t _ _ _ h1 h2 rfl (.inl ⟨_, _, _, _, rfl, hv, rfl⟩), rfl⟩
 ·rename_i s hd
  obtain ⟨t, h1, h2⟩ := bind_some hd
  exact ⟨_, h, Sound.un hops fun G m w a u e hr => by
   rw [hx] at hr
   exact ⟨_, run a w t _ u _ h1 h2 e (.inr ⟨_, rfl, hr, rfl⟩), rfl⟩⟩
 ·rename_i kt et hd
  obtain ⟨t, h1, h2⟩ := bind_some hd
  exact ⟨_, h, Sound.un hops fun G m w a u e hr => by
   rw [hx] at hr
   have hr : u = .map none := hr
   refine ⟨_, ?_, rfl⟩
   simp [execOp, ho, Go.resolve, hb, hy, e, hr, invoke, builtin, Builtin.len_, h1, run_underlying h2, goInt]⟩
 ·rename_i kt et l hd
  obtain ⟨t, h1, h2⟩ := bind_some hd
  split at h
  case h_2 => cases h
  rename_i κ ka τ va xs hm0
  refine ⟨_, h, fun s hρ hμ => SemO.val fun B G a w hw => ?_⟩
  have ex := hw.ev y
  rw [hρ y (by rw [hops]; simp), hx] at ex
  have hm : getM s.mem l = some (.bx (.mp κ ka τ va xs)) := by rw [hμ _ (by simp)]; exact hm0
  have ex : CRel G s.mem w (.mpp l) (a.eval y) := ex
  obtain ⟨_, hv⟩ := ex
  rcases hw.mem.objs l _ hm with ⟨_, hf, _⟩ | ⟨_, es, q1, q2, _⟩
  ·exact hf.elim
  refine ⟨.int .i64 (xs.length : Int), ?_, rfl⟩
  simp [execOp, ho, Go.resolve, hb, hy, hv, invoke, builtin, Builtin.len_, h1, run_underlying h2, goInt, MapKept.run_getObj_map q1, q2]
 ·cases h
theorem op_minmax {c : Call} {a b : IntKind} {x y : Int} {bb : Builtin} {f : Int → Int → Int} (hf : (bb = .min ∧ f = fun x y => if y < x then y else x) ∨ (bb = .max ∧ f = fun x y => if y > x then y else x))
  (ho : o.op = .call c) (hb : c.callee = .builtin bb) (ha : c.args.toList.map ρ = [.a (.one (.int a x)), .a (.one (.int b y))])
  (h : (if a = b then k (ret (one (.int a (f x y)))) else none) = some r) : ∃ e, k e = some r ∧ Sound P o ρ μ e := by
 obtain ⟨y1, y2, hy, h1, h2⟩ := args_two ha
 have hops : o.op.operands = #[y1, y2] := by rw [ho]; simp [Op.operands, Call.operands, hb, hy]
 obtain ⟨hab, h'⟩ := ite_some h
 subst hab
 refine ⟨_, h', fun s hρ hμ => SemO.val fun B G ac w hw => ?_⟩
 have e1 := hw.ev y1
 rw [hρ y1 (by rw [hops]; simp), h1] at e1
 have e2 := hw.ev y2
 rw [hρ y2 (by rw [hops]; simp), h2] at e2
 have e1 : ac.eval y1 = .int a x := e1
 have e2 : ac.eval y2 = .int a y := e2
 refine ⟨.int a (f x y), ?_, rfl⟩
 rcases hf with ⟨rfl, rfl⟩ | ⟨rfl, rfl⟩
 ·simp [execOp, ho, Go.resolve, hb, hy, e1, e2, invoke, builtin, Builtin.min_, Builtin.min2]
 ·simp [execOp, ho, Go.resolve, hb, hy, e1, e2, invoke, builtin, Builtin.max_, Builtin.max2]
end
end Go.Al
