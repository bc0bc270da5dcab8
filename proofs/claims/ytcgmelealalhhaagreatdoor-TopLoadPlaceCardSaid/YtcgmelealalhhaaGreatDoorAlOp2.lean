/- Arithmetic, comparisons, conversions; parts of values. -/
import Derived.Test.YtcgmelealalhhaaGreatDoorAlOp
import Derived.Test.YtcgmelealalhhaaGreatDoorAlMap2
import Derived.Laws.Cover3
namespace Go.Al
variable {P : Program} {H : Hint}
def EqS (P : Program) (H : Hint) : Prop := ∀ (ty : Nat) (ks : List Bool), H.eqn ty = some ks → ∀ (l l' : List C) (b : Bool) (G : Gh) (m : Mem) (w : World) (vs vs' : List Value), okKs ks l = true → eqCs l l' = some b →
 All2 (CRel G m w) l vs → All2 (CRel G m w) l' vs' → ∀ (x y : Operand),
  ((do eqGuard .eql ty x y (.agg vs.toArray) (.agg vs'.toArray); binOp .eql ty (.agg vs.toArray) (.agg vs'.toArray) : Sem Value).run P w = .ok (.bool b) w ∧
   (do eqGuard .neq ty x y (.agg vs.toArray) (.agg vs'.toArray); binOp .neq ty (.agg vs.toArray) (.agg vs'.toArray) : Sem Value).run P w = .ok (.bool (!b)) w)
def EqA (P : Program) (H : Hint) : Prop := ∀ (ty n : Nat), H.eqa ty = some n → ∀ (k : IntKind) (xs ys : List Int), xs.length = n → ys.length = n → ∀ (w : World) (x y : Operand),
  ((do eqGuard .eql ty x y (.agg (xs.map (Value.int k)).toArray) (.agg (ys.map (Value.int k)).toArray); binOp .eql ty (.agg (xs.map (Value.int k)).toArray) (.agg (ys.map (Value.int k)).toArray) : Sem Value).run P w = .ok (.bool (xs == ys)) w ∧
   (do eqGuard .neq ty x y (.agg (xs.map (Value.int k)).toArray) (.agg (ys.map (Value.int k)).toArray); binOp .neq ty (.agg (xs.map (Value.int k)).toArray) (.agg (ys.map (Value.int k)).toArray) : Sem Value).run P w = .ok (.bool (!(xs == ys))) w)
def KeyS (P : Program) (H : Hint) : Prop := ∀ (t : Nat) (κ : Ty) (ka : Bool), H.keyT t = true → H.ty t = some κ → aggT P t = some ka → KeyOk P t κ ka
def EqOk (P : Program) (H : Hint) : Prop := EqS P H ∧ EqA P H ∧ KeyS P H
theorem arrI_vals {G : Gh} {m : Mem} {w : World} {k : IntKind} : ∀ {xs : List Int} {vs : List Value}, All2 (CRel G m w) (arrC (.int k) xs) vs → vs = xs.map (Value.int k)
 | [], _, h => by cases h; rfl
 | x :: r, _, h => by
  cases h with
  | cons h1 h2 => rw [arrI_vals (xs := r) h2]; simp only [CRel] at h1; rw [h1]; rfl
section
variable {R : Type} {calls : Nat → Option CallS} {ρ : Operand → AV} {μ : Loc → Option Obj} {o : Oper} {k : Eff → Option R} {r : R}
theorem oneC {G : Gh} {m : Mem} {w : World} {x : AV} {v : Value} {c : C} (h : AVRel G m w x v) (e : x = .a (.one c)) : CRel G m w c v := by subst e; exact h
theorem Sound.bin {op : BinOp} {ty ty' : Nat} {x y : Operand} (ho : o.op = .binOp op ty x y ty') {z : AV}
  (h : ∀ (G : Gh) (m : Mem) (w : World) (u v : Value), AVRel G m w (ρ x) u → AVRel G m w (ρ y) v → ∃ q, (do eqGuard op ty x y u v; binOp op ty u v : Sem Value).run P w = .ok q w ∧ AVRel G m w z q) :
  Sound P o ρ μ (ret z) := fun s hρ _ => SemO.val fun B G a w hw => by
 have hops : o.op.operands = #[x, y] := by rw [ho]; rfl
 have ex := hw.ev x
 rw [hρ x (by rw [hops]; simp)] at ex
 have ey := hw.ev y
 rw [hρ y (by rw [hops]; simp)] at ey
 obtain ⟨q, hq, hv⟩ := h G s.mem w _ _ ex ey
 refine ⟨q, ?_, hv⟩
 simp only [execOp, ho]
 simp only [Sem.run_bind] at hq ⊢
 rw [hq]
 rfl
theorem eqGuard_int (op : BinOp) (ty : Nat) (x y : Operand) (a b : IntKind) (n m : Int) (w : World) : (eqGuard op ty x y (.int a n) (.int b m)).run P w = .ok () w := by
 cases op <;> simp [eqGuard]
theorem eqGuard_bool (op : BinOp) (ty : Nat) (x y : Operand) (n m : Bool) (w : World) : (eqGuard op ty x y (.bool n) (.bool m)).run P w = .ok () w := by
 cases op <;> simp [eqGuard]
theorem eqGuard_slice (op : BinOp) (ty : Nat) (x y : Operand) (a b : Option Addr) (n m c d : Nat) (w : World) : (eqGuard op ty x y (.slice a n c) (.slice b m d)).run P w = .ok () w := by
 cases op <;> simp [eqGuard]
theorem run_binI {op : BinOp} {a : IntKind} {n m : Int} {c : C} (h : binI op a n m = some c) (ty : Nat) (w : World) (G : Gh) (mm : Mem) :
  ∃ q, (binOp op ty (.int a n) (.int a m)).run P w = .ok q w ∧ CRel G mm w c q := by
 cases op <;> simp only [binI] at h <;> first
  | (cases h; done)
  | (cases h; exact ⟨_, by simp [binOp, Op.intArith, Op.intBits, Op.intCmp]; rfl, by simp [CRel]⟩)
theorem run_eql_bools (w : World) {ty : Nat} (h : P.underlying ty = some .bool) (a b : Bool) : (binOp .eql ty (.bool a) (.bool b)).run P w = .ok (.bool (a == b)) w := by
 have e : Op.equal ty (.bool a) (.bool b) = Op.equalIn (9999 + 1) ty (.bool a) (.bool b) := rfl
 show (Sem.bind (Op.equal ty (.bool a) (.bool b)) fun q => Sem.pure (Value.bool q)).run P w = _
 rw [e]
 exact (Sem.run_bind _ _ _ _).trans (by rw [run_equalIn_bool' w 9999 ty a b h]; rfl)
theorem run_neq_bools (w : World) {ty : Nat} (h : P.underlying ty = some .bool) (a b : Bool) : (binOp .neq ty (.bool a) (.bool b)).run P w = .ok (.bool (!(a == b))) w := by
 have e : Op.equal ty (.bool a) (.bool b) = Op.equalIn (9999 + 1) ty (.bool a) (.bool b) := rfl
 show (Sem.bind (Op.equal ty (.bool a) (.bool b)) fun q => Sem.pure (Value.bool (!q))).run P w = _
 rw [e]
 exact (Sem.run_bind _ _ _ _).trans (by rw [run_equalIn_bool' w 9999 ty a b h]; rfl)
theorem run_eql_nils (w : World) {ty e : Nat} (h : P.underlying ty = some (.slice e)) (a : Option Addr) (l c : Nat) : (binOp .eql ty (.slice a l c) (.slice none 0 0)).run P w = .ok (.bool a.isNone) w := by
 show (Sem.bind (Op.equal ty (.slice a l c) (.slice none 0 0)) fun q => Sem.pure (Value.bool q)).run P w = _
 exact (Sem.run_bind _ _ _ _).trans (by rw [run_equal_slice_nil w ty e a l c h]; rfl)
theorem cond_some2 {α : Type} {b : Bool} {x : Option α} {r : α} (h : (bif b then x else none) = some r) : b = true ∧ x = some r := by
 cases b
 ·cases h
 ·exact ⟨rfl, h⟩
theorem op_bin (hE : EqOk P H) {op : BinOp} {ty ty' : Nat} {x y : Operand} (ho : o.op = .binOp op ty x y ty') (h : opK P H calls ρ μ o k = some r) :
  ∃ e, k e = some r ∧ Sound P o ρ μ e := by
 simp only [opK, ho] at h
 split at h
 ·-- two integers
  rename_i a n b m hx hy
  have arith : ∀ c : C, (∀ (w : World) (G : Gh) (mm : Mem), ∃ q, (binOp op ty (.int a n) (.int b m)).run P w = .ok q w ∧ CRel G mm w c q) → k (ret (one c)) = some r → ∃ e, k e = some r ∧ Sound P o ρ μ e := fun c hc hk =>
   ⟨_, hk, Sound.bin ho fun G mm w u v hu hv => by
    have hu := oneC hu hx
    have hv := oneC hv hy
    simp only [CRel] at hu hv
    subst hu; subst hv
    obtain ⟨q, hq, hr⟩ := hc w G mm
    exact ⟨q, by rw [Sem.run_bind, eqGuard_int]; exact hq, hr⟩⟩
  split at h
  ·-- shl
   split at h
   ·rename_i hm
    have hm : ¬ m < 0 := by simpa using hm
    unfold retO at h
    split at h
    ·rename_i c hc
     simp only [shiftI] at hc; cases hc
     exact arith (.int a (a.wrap (n * 2 ^ (min m.toNat a.bits)))) (fun w G mm => ⟨.int a (a.wrap (n * 2 ^ (min m.toNat a.bits))), by simp [binOp, Op.shift, hm], rfl⟩) h
    ·cases h
   ·cases h
  ·split at h
   ·rename_i hm
    have hm : ¬ m < 0 := by simpa using hm
    unfold retO at h
    split at h
    ·rename_i c hc
     simp only [shiftI] at hc; cases hc
     exact arith (.int a (n.fdiv (2 ^ (min m.toNat a.bits)))) (fun w G mm => ⟨.int a (n.fdiv (2 ^ (min m.toNat a.bits))), by simp [binOp, Op.shift, hm], rfl⟩) h
    ·cases h
   ·cases h
  ·split at h
   ·rename_i hm
    have hm : m ≠ 0 := by simpa using hm
    split at h
    ·rename_i hab; subst hab
     exact arith (.int a (a.wrap (n.tdiv m))) (fun w G mm => ⟨.int a (a.wrap (n.tdiv m)), by simp [binOp, Op.intDiv, hm], rfl⟩) h
    ·cases h
   ·cases h
  ·split at h
   ·rename_i hm
    have hm : m ≠ 0 := by simpa using hm
    split at h
    ·rename_i hab; subst hab
     exact arith (.int a (n.tmod m)) (fun w G mm => ⟨.int a (n.tmod m), by simp [binOp, Op.intDiv, hm], rfl⟩) h
    ·cases h
   ·cases h
  ·split at h
   ·rename_i hab; subst hab
    unfold retO at h
    split at h
    ·rename_i c hc
     exact arith _ (fun w G mm => run_binI hc ty w G mm) h
    ·cases h
   ·cases h
 ·-- two bools
  rename_i a b hx hy
  split at h
  ·rename_i hu
   exact ⟨_, h, Sound.bin ho fun G mm w u v h1 h2 => by
    have h1 := oneC h1 hx
    have h2 := oneC h2 hy
    simp only [CRel] at h1 h2
    subst h1; subst h2
    exact ⟨.bool (a == b), by rw [Sem.run_bind, eqGuard_bool]; exact run_eql_bools w hu a b, rfl⟩⟩
  ·rename_i hu
   exact ⟨_, h, Sound.bin ho fun G mm w u v h1 h2 => by
    have h1 := oneC h1 hx
    have h2 := oneC h2 hy
    simp only [CRel] at h1 h2
    subst h1; subst h2
    exact ⟨.bool (!(a == b)), by rw [Sem.run_bind, eqGuard_bool]; exact run_neq_bools w hu a b, rfl⟩⟩
  ·cases h
 ·-- a slice against nil
  rename_i c hx hy
  have nil : ∀ (b : Bool), isNil c = some b → ∀ (G : Gh) (mm : Mem) (w : World) (u : Value), CRel G mm w c u → ∃ ad n q, u = .slice ad n q ∧ ad.isNone = b := fun b hb G mm w u hr => by
   cases c <;> simp only [isNil] at hb <;> first | (cases hb; done) | skip
   ·cases hb; simp only [CRel] at hr; exact ⟨_, _, _, hr, rfl⟩
   ·obtain ⟨ad, q, e, _, _, hn, _⟩ := hr
    exact ⟨ad, _, q, e, hn b hb⟩
  split at h
  ·rename_i e b hu hb
   exact ⟨_, h, Sound.bin ho fun G mm w u v h1 h2 => by
    obtain ⟨ad, n, q, rfl, hn⟩ := nil _ hb G mm w u (oneC h1 hx)
    have h2 := oneC h2 hy
    simp only [CRel] at h2
    subst h2
    exact ⟨.bool b, by rw [Sem.run_bind, eqGuard_slice]; exact (run_eql_nils w hu ad n q).trans (by rw [hn]), rfl⟩⟩
  ·rename_i e b hu hb
   exact ⟨_, h, Sound.bin ho fun G mm w u v h1 h2 => by
    obtain ⟨ad, n, q, rfl, hn⟩ := nil _ hb G mm w u (oneC h1 hx)
    have h2 := oneC h2 hy
    simp only [CRel] at h2
    subst h2
    exact ⟨.bool (!b), by rw [Sem.run_bind, eqGuard_slice]; exact (run_neq_slice_nil w ty e ad n q hu).trans (by rw [hn]), rfl⟩⟩
  ·cases h
 ·-- arrays
  rename_i k1 n1 xs k2 n2 ys hx hy
  split at h
  ·rename_i n hn
   have hh := cond_some2 h
   clear h
   obtain ⟨hl, h⟩ := hh
   simp only [Bool.and_eq_true] at hl
   have l1 := Nat.eq_of_beq_eq_true hl.1
   have l2 := Nat.eq_of_beq_eq_true hl.2
   subst l1
   subst l2
   split at h
   case isFalse => cases h
   rename_i hk
   subst hk
   split at h
   ·exact ⟨_, h, Sound.bin ho fun G mm w u v h1 h2 => by
     rw [hx] at h1; rw [hy] at h2
     obtain ⟨vs, rfl, _, q1, r1⟩ := h1
     obtain ⟨vs', rfl, _, q2, r2⟩ := h2
     rw [arrI_vals r1, arrI_vals r2]
     exact ⟨_, (hE.2.1 ty n hn k1 xs ys q1 q2 w x y).1, rfl⟩⟩
   ·exact ⟨_, h, Sound.bin ho fun G mm w u v h1 h2 => by
     rw [hx] at h1; rw [hy] at h2
     obtain ⟨vs, rfl, _, q1, r1⟩ := h1
     obtain ⟨vs', rfl, _, q2, r2⟩ := h2
     rw [arrI_vals r1, arrI_vals r2]
     exact ⟨_, (hE.2.1 ty n hn k1 xs ys q1 q2 w x y).2, rfl⟩⟩
   ·cases h
  ·cases h
 ·-- structs
  rename_i l l' hx hy
  split at h
  ·rename_i ks b hn hb
   cases hl : okKs ks l with
   | false => rw [hl] at h; cases h
   | true =>
    rw [hl] at h
    have key := hE.1 ty ks hn l l' b
    simp only [cond_true] at h
    split at h
    ·exact ⟨_, h, Sound.bin ho fun G mm w u v h1 h2 => by
      rw [hx] at h1; rw [hy] at h2
      obtain ⟨vs, rfl, r1⟩ := h1
      obtain ⟨vs', rfl, r2⟩ := h2
      exact ⟨.bool b, (key G mm w vs vs' hl hb r1 r2 x y).1, rfl⟩⟩
    ·exact ⟨_, h, Sound.bin ho fun G mm w u v h1 h2 => by
      rw [hx] at h1; rw [hy] at h2
      obtain ⟨vs, rfl, r1⟩ := h1
      obtain ⟨vs', rfl, r2⟩ := h2
      exact ⟨.bool (!b), (key G mm w vs vs' hl hb r1 r2 x y).2, rfl⟩⟩
    ·cases h
  ·cases h
 ·cases h
theorem Sound.un {x : Operand} (hops : o.op.operands = #[x]) {z : AV}
  (h : ∀ (G : Gh) (m : Mem) (w : World) (a : Act) (u : Value), a.eval x = u → AVRel G m w (ρ x) u → ∃ q, (execOp a.eval o).run P w = .ok (.value q) w ∧ AVRel G m w z q) :
  Sound P o ρ μ (ret z) := fun s hρ _ => SemO.val fun B G a w hw => by
 have ex := hw.ev x
 rw [hρ x (by rw [hops]; simp)] at ex
 exact h G s.mem w a _ rfl ex
theorem op_un {op : UnOp} {ty : Nat} {x : Operand} (ho : o.op = .unOp op ty x) (h : opK P H calls ρ μ o k = some r) : ∃ e, k e = some r ∧ Sound P o ρ μ e := by
 simp only [opK, ho] at h
 split at h
 ·rename_i b hx
  exact ⟨_, h, Sound.un (by rw [ho]; rfl) fun G m w a u hu hr => by
   have hr := asC_rel hr
   rw [hx] at hr; simp only [CRel] at hr
   exact ⟨.bool (!b), by simp [execOp, ho, hu, hr, Op.unary], rfl⟩⟩
 ·rename_i b n hx
  exact ⟨_, h, Sound.un (by rw [ho]; rfl) fun G m w a u hu hr => by
   have hr := asC_rel hr
   rw [hx] at hr; simp only [CRel] at hr
   exact ⟨.int b (b.wrap (0 - n)), by simp [execOp, ho, hu, hr, Op.unary, Op.intArith], rfl⟩⟩
 ·cases h
theorem op_convert {src dst : Nat} {x : Operand} (ho : o.op = .convert src dst x) (h : opK P H calls ρ μ o k = some r) : ∃ e, k e = some r ∧ Sound P o ρ μ e := by
 simp only [opK, ho] at h
 split at h
 ·rename_i ds b c n hds hu hx
  exact ⟨_, h, Sound.un (by rw [ho]; rfl) fun G m w a u e hr => by
   have hr := asC_rel hr
   rw [hx] at hr; simp only [CRel] at hr
   exact ⟨.int b (b.wrap n), by simp [execOp, ho, e, hr, convert, run_underlying hds, run_underlying hu, Conv.intToInt], rfl⟩⟩
 ·cases h
theorem op_extract {x : Operand} {i : Nat} (ho : o.op = .extract x i) (h : opK P H calls ρ μ o k = some r) : ∃ e, k e = some r ∧ Sound P o ρ μ e := by
 simp only [opK, ho] at h
 split at h
 ·rename_i l hx
  split at h
  ·rename_i v hv
   exact ⟨_, h, Sound.un (by rw [ho]; rfl) fun G m w a u e hr => by
    rw [hx] at hr
    obtain ⟨vs, rfl, hall⟩ := hr
    obtain ⟨q, hq, hqr⟩ := hall.get hv
    exact ⟨q, by simp [execOp, ho, e, Instr.extract, hq], hqr⟩⟩
  ·cases h
 ·cases h
end
end Go.Al
