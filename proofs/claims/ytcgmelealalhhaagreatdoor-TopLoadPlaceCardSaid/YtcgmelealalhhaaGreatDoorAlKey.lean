/- Keys that are arrays, or structs, of integers. -/
import Derived.Test.YtcgmelealalhhaaGreatDoorAlEq
import Derived.Test.YtcgmelealalhhaaGreatDoorAlMap
import Derived.ChangeKeysEq
namespace Go.Al
variable {P : Program}
theorem run_part_int {e : TypeId} {k : IntKind} (he : P.underlying e = some (.int k)) (w : World) {cs : Array Value} {off : Nat} {v : Value} (h : cs[off]? = some v) : (part e cs off).run P w = .ok v w := by
 simp [part, isAgg, run_underlying he, TypeDesc.isRow, h]
theorem run_eq_int {e : TypeId} {k : IntKind} (he : P.underlying e = some (.int k)) (w : World) (d : Nat) (a b : Int) : (Op.equalIn (d + 1) e (.int k a) (.int k b)).run P w = .ok (a == b) w := run_equalIn_int w d e k k a b he
theorem checkKey_int {e : TypeId} {k : IntKind} (he : P.underlying e = some (.int k)) (w : World) (em : Bool) (n : Nat) (a : Int) : (Instr.checkKey em (n + 1) e (.int k a)).run P w = .ok () w := by
 simp only [Instr.checkKey, Sem.run_bind, run_underlying he, Result.andThen]
 rfl
theorem keyOk_arr2 {t e : TypeId} {k : IntKind} (hu : P.underlying t = some (.array 2 e)) (he : P.underlying e = some (.int k)) (hz : P.cellsOf e = 1) : KeyOk P t (.pair (.int k) (.int k)) true := by
 obtain ⟨i, hi⟩ := info_of_underlying he
 refine keyOk_agg rfl hu (fun a b => by cases a <;> cases b <;> rfl) (fun n w em x => ?_) (fun w x y => ?_) fun x => ?_
 ·show (Instr.checkKey em (n + 1 + 1) t (.agg #[.int k x.1, .int k x.2])).run P w = _
  rw [Instr.checkKey]
  simp only [Sem.run_bind, run_underlying hu, Result.andThen_ok]
  simp only [Std.Legacy.Range.forIn_eq_forIn_range', Std.Legacy.Range.size, List.range'_succ, List.range'_zero, Nat.sub_zero, Nat.add_one_sub_one, Nat.div_one, List.forIn_cons, List.forIn_nil, Sem.run_bind, run_sizeOf w hi, hz,
   Result.andThen_ok, run_part_int he w (show (#[Value.int k x.1, .int k x.2] : Array Value)[0 * 1]? = some (.int k x.1) from rfl), run_part_int he w (show (#[Value.int k x.1, .int k x.2] : Array Value)[(0 + 1) * 1]? = some (.int k x.2) from rfl),
   checkKey_int he, Sem.run_pure]
 ·show (Op.equalIn (9999 + 1) t (.agg #[.int k x.1, .int k x.2]) (.agg #[.int k y.1, .int k y.2])).run P w = _
  rw [run_equalIn_array w 9999 _ _ hu hi, hz]
  have hr : List.range 2 = [0, 1] := rfl
  rw [hr]
  simp only [Op.eqItems, Sem.run_bind, run_part_int he w (show (#[Value.int k x.1, .int k x.2] : Array Value)[0 * 1]? = some (.int k x.1) from rfl), run_part_int he w (show (#[Value.int k x.1, .int k x.2] : Array Value)[1 * 1]? = some (.int k x.2) from rfl),
   run_part_int he w (show (#[Value.int k y.1, .int k y.2] : Array Value)[0 * 1]? = some (.int k y.1) from rfl), run_part_int he w (show (#[Value.int k y.1, .int k y.2] : Array Value)[1 * 1]? = some (.int k y.2) from rfl),
   Result.andThen_ok, run_eq_int he w 9998]
  show _ = Result.ok (((x.1 : Int) == y.1) && ((x.2 : Int) == y.2)) w
  cases h1 : ((x.1 : Int) == y.1) with
  | false => simp [Sem.run_pure]
  | true =>
   simp only [Bool.not_true, Bool.false_eq_true, if_false, Sem.run_bind, run_part_int he w (show (#[Value.int k x.1, .int k x.2] : Array Value)[1 * 1]? = some (.int k x.2) from rfl), run_part_int he w (show (#[Value.int k y.1, .int k y.2] : Array Value)[1 * 1]? = some (.int k y.2) from rfl), Result.andThen_ok, run_eq_int he w 9998]
   cases h2 : ((x.2 : Int) == y.2) <;> simp [Sem.run_pure]
 ·show Instr.sameBits (9999 + 1) (.agg #[.int k x.1, .int k x.2]) (.agg #[.int k x.1, .int k x.2]) = true
  simp [Instr.sameBits, sameBits_int]
end Go.Al
