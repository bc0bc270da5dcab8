/- Calls of a value and of a method behind an interface. -/
import Derived.Test.YtcgmelealalhhaaGreatDoorAlCall4
namespace Go.Al
variable {P : Program} {H : Hint}
theorem All2.unA {G : Gh} {m : Mem} {w : World} : ∀ {as : List A1} {vs : List Value}, All2 (AVRel G m w) (as.map .a) vs → All2 (A1Rel G m w) as vs
 | [], _, h => by cases h; exact .nil
 | _ :: _, _, h => by cases h with | cons h1 h2 => exact .cons h1 h2.unA
theorem ev_args {B : Beg} {G : Gh} {s : St} {a : Act} {w : World} (hw : WRel P B G s a w) {ρ : Operand → AV} : ∀ {l : List Operand}, (∀ x ∈ l, ev s x = ρ x) → All2 (AVRel G s.mem w) (l.map ρ) (l.map a.eval)
 | [], _ => .nil
 | x :: r, h => .cons (by rw [← h x (by simp)]; exact hw.ev x) (ev_args hw fun y hy => h y (by simp [hy]))
section
variable {R : Type} {calls : Nat → Option CallS} {ρ : Operand → AV} {μ : Loc → Option Obj} {o : Oper} {k : Eff → Option R} {r : R}
theorem op_callv {c : Call} {f : Operand} {g : Nat} {caps : List Loc} {cs : CallS} (ho : o.op = .call c) (hb : c.callee = .value f) (hf : asC (ρ f) = .fn g caps) (hcs : CallOk P g cs) (hen : g < yB → Enters P g) (hlen : g < yB ∨ caps.length = 1)
  (h : callK cs (o.dst.getD 0) μ (c.args.toList.map ρ ++ caps.map fun l => one (.ptr l 0 (roomOf μ l))) k = some r) : ∃ e, k e = some r ∧ Sound P o ρ μ e := by
 obtain ⟨e, as, hargs, hk, hlocs, hS⟩ := callK_sound hcs h
 have hops : o.op.operands = #[f] ++ c.args := by rw [ho]; simp [Op.operands, Call.operands, hb]
 refine ⟨e, hk, fun s hρ hμ B G a w K Q hw hd hK => ?_⟩
 have hfv := asC_rel (hw.ev f)
 rw [hρ f (by rw [hops]; simp), hf] at hfv
 obtain ⟨hcap, hv⟩ := hfv
 refine hS s hμ B G a w K Q (c.args.toList.map a.eval ++ ptrs G caps) hw hd (All2.unA ?_) ?_ hK
 ·rw [← hargs]
  refine (ev_args hw fun x hx => hρ x (by rw [hops]; simp; exact .inr (by simpa using hx))).append ?_
  unfold ptrs
  have : ∀ l' : List Loc, (∀ l ∈ l', l ∈ caps) → All2 (AVRel G s.mem w) (l'.map fun l => one (.ptr l 0 (roomOf μ l))) (l'.map fun x => Value.pointer (some ⟨G.β x, 0, none⟩)) := fun l' => by
   induction l' with
   | nil => intro _; exact .nil
   | cons l q ih =>
    intro hs
    refine .cons ?_ (ih fun x hx => hs x (by simp [hx]))
    have hmem : A1.one (.ptr l 0 (roomOf μ l)) ∈ as := by
     have : AV.a (.one (.ptr l 0 (roomOf μ l))) ∈ as.map .a := by
      rw [← hargs]
      exact List.mem_append_right _ (List.mem_map.2 ⟨l, hs l (by simp), rfl⟩)
     obtain ⟨y, hy, e⟩ := List.mem_map.1 this
     cases e; exact hy
    have hrd := hlocs l (locsA_mem hmem l (by simp [locsA, locsC]))
    refine ⟨?_, rfl⟩
    rcases hcap l (hs l (by simp)) with ⟨x, hx⟩ | hx
    ·rw [hx]
     show 0 + roomOf μ l ≤ nA x
     unfold roomOf
     rw [← hμ l (List.mem_append_left _ hrd), hx]; simp
    ·rw [hx]; trivial
  exact this caps fun _ h => h
 ·by_cases hg : g < yB
  ·refine goes_enter hg ?_
   rw [fnV_lt hg] at hv
   simp [execOp, ho, Go.resolve, hb, hv, Deferred.ofValue, invoke]
   rw [hen hg]
   congr 2
   apply Array.ext'
   simp
  ·obtain ⟨l, rfl⟩ : ∃ l, caps = [l] := by
    match caps, hlen.resolve_left hg with
    | [l], _ => exact ⟨l, rfl⟩
   refine goes_yield hg ?_
   rw [fnV_ge hg] at hv
   have hv : a.eval f = .func (.yield (G.β l)) #[] #[] := hv
   simp [execOp, ho, Go.resolve, hb, hv, Deferred.ofValue, invoke]
   congr 2
   apply Array.ext'
   simp
theorem recvA_rel {G : Gh} {m : Mem} {w : World} {τ : Ty} {ag : Bool} {x : den τ} {us : List Value} (h : Rep G.S w τ x us) : AVRel G m w (recvA τ ag x) (if ag then .agg us.toArray else us.headD undef) := by
 have hc := cs_rel (G := G) (m := m) h
 unfold recvA
 cases ag with
 | true => exact ⟨us, rfl, hc⟩
 | false =>
  simp only [cond_false]
  split
  ·rename_i c he
   rw [he] at hc
   cases hc with
   | cons h1 h2 => cases h2; exact h1
  ·trivial
theorem methodOf_lt {t g : Nat} {name : String} (hm : methodOf P t name = some g) : g < yB := by
 unfold methodOf at hm
 split at hm
 case h_2 => cases hm
 split at hm
 case h_2 => cases hm
 obtain ⟨_, hm2⟩ := cond_some hm
 split at hm2
 case h_2 => cases hm2
 obtain ⟨h, hm2⟩ := cond_some hm2
 cases hm2
 exact of_blt h
theorem op_invoke {c : Call} {x : Operand} {name : String} {t g : Nat} {τ : Ty} {ag : Bool} {y : den τ} {cs : CallS} (ho : o.op = .call c) (hb : c.callee = .invoke x name)
  (hx : ∀ (G : Gh) (m : Mem) (w : World) (v : Value), CRel G m w (asC (ρ x)) v → ∃ us, Rep G.S w τ y us ∧ v = ifv t ag us) (hm : methodOf P t name = some g) (hcs : CallOk P g cs) (hen : g < yB → Enters P g)
  (h : callK cs (o.dst.getD 0) μ (recvA τ ag y :: c.args.toList.map ρ) k = some r) : ∃ e, k e = some r ∧ Sound P o ρ μ e := by
 obtain ⟨e, as, hargs, hk, hlocs, hS⟩ := callK_sound hcs h
 have hops : o.op.operands = #[x] ++ c.args := by rw [ho]; simp [Op.operands, Call.operands, hb]
 have hgy := methodOf_lt hm
 refine ⟨e, hk, fun s hρ hμ B G a w K Q hw hd hK => ?_⟩
 have hxv := asC_rel (hw.ev x)
 rw [hρ x (by rw [hops]; simp)] at hxv
 obtain ⟨us, hrep, hv⟩ := hx _ _ _ _ hxv
 refine hS s hμ B G a w K Q ((if ag then .agg us.toArray else us.headD undef) :: c.args.toList.map a.eval) hw hd (All2.unA ?_) ?_ hK
 ·rw [← hargs]
  exact .cons (recvA_rel hrep) (ev_args hw fun z hz => hρ z (by rw [hops]; simp; exact .inr (by simpa using hz)))
 ·unfold methodOf at hm
  split at hm
  case h_2 => cases hm
  rename_i info hi
  split at hm
  case h_2 => cases hm
  rename_i row hrow
  obtain ⟨hc2, hm2⟩ := cond_some hm
  clear hm
  simp only [Bool.and_eq_true, Bool.not_eq_true'] at hc2
  obtain ⟨hpath, hptr⟩ := hc2
  split at hm2
  case h_2 => cases hm2
  rename_i f hfun
  obtain ⟨_, hm2⟩ := cond_some hm2
  cases hm2
  have hpath' : row.path = #[] := Array.isEmpty_iff.1 hpath
  unfold ptrT at hptr
  have hund : ∃ d, P.underlying t = some d ∧ ∀ q, d ≠ .pointer q := by
   split at hptr
   ·cases hptr
   ·rename_i d hd2 hne
    exact ⟨d, hne, fun q e => hd2 q e⟩
   ·cases hptr
  obtain ⟨d, hd1, hd2⟩ := hund
  have hrecv : ∀ (wr : Option String) (v : Value) (w : World), (receiverAt t (.val v) false wr).run P w = .ok v w := fun wr v w => by
   simp only [receiverAt]
   simp [run_underlying hd1]
   cases d <;> first | exact absurd rfl (hd2 _) | simp [Place.get]
  have hmeth : ∀ n v, (method (n + 1) t v name).run P w = .ok (g, v) w := fun n v => by
   simp only [method]
   simp [typeInfo, hi, hrow, hpath', follow, hfun, hrecv]
  refine goes_enter hgy ?_
  simp [execOp, ho, Go.resolve, hb, hv, invoke, callMethod, ifv]
  have h0 : ∀ (v : Value) (xs : Array Value), (#[v] ++ xs)[0]? = some v := fun v xs => by rw [Array.getElem?_append]; simp
  rw [h0]
  simp [hmeth, Made.depth, hen hgy _ _]
  congr 2
  exact List.take_of_length_le (by simp)
end
end Go.Al
