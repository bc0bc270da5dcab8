/- The functions that the statement reaches, as plain functions, and that the code computes them. -/
import Derived.Test.YtegckmajjklonaaMx14F2
set_option linter.unusedVariables false
set_option linter.unusedSimpArgs false
namespace Go.Proofs
open Go.Al
noncomputable def f98i : Tm := ⟨[0, 1], [], [.agg [.v (.list T0), .v T1, .v T3, .v (.list T4), .v (.list T5)], .agg [.v (.int .i64), .v (.int .i64), .v .bool]]⟩
noncomputable def f98iv : Vw f98i := { Y := Yls × Ylp × Ylc × Ylg × Yln × Int × Int × Bool, fromT := fun t => (t.1.1, t.1.2.1, t.1.2.2.1, t.1.2.2.2.1, t.1.2.2.2.2.1, t.2.1.1, t.2.1.2.1, t.2.1.2.2.1), outT := fun y => ((y.1, y.2.1, y.2.2.1, y.2.2.2.1, y.2.2.2.2.1, ()), (y.2.2.2.2.2.1, y.2.2.2.2.2.2.1, y.2.2.2.2.2.2.2, ()), ()), inv := fun _ => rfl }
noncomputable def f98o : Tm := ⟨[0], [], [.one (.v (.int .i64))]⟩
noncomputable def f98ov : Vw f98o := { Y := Int, fromT := fun t => t.1, outT := fun y => (y, ()), inv := fun _ => rfl }
@[reducible] noncomputable def f98c : Code := bodyOf Try.f98
noncomputable def f98calls (N : Nat) : List (Nat × CallS) := [(92, f92call N), (71, f71call N), (97, f97call N)]
theorem f98callsOk (N : Nat) : CallsOk Try.prog (callsL (f98calls N)) := (callsL_cons (fun _ => Enters.of (fn := Try.f92) (by kernel_rfl) (by kernel_rfl) (by kernel_rfl)) (f92ok N) (callsL_cons (fun _ => Enters.of (fn := Try.f71) (by kernel_rfl) (by kernel_rfl) (by kernel_rfl)) (f71ok N) (callsL_cons (fun _ => Enters.of (fn := Try.f97) (by kernel_rfl) (by kernel_rfl) (by kernel_rfl)) (f97ok N) callsL_nil)))
@[reducible] noncomputable def f98l0c : Code := loopOf (codeOf (f98c) 26)
noncomputable def f98l0t : Tm := ⟨[2, 3, 4, 9, 10, 11], [(.box 2), (.box 3)], [.one (.ptr (.box 2) 0 5), .one (.ptr (.box 3) 0 3), .one (.v (.int .i64)), .one (.own 1000000 .bool), .one (.v (.int .i64)), .one (.v (.int .i64)), .agg [.v (.list T0), .v T1, .v T3, .v (.list T4), .v (.list T5)], .agg [.v (.int .i64), .v (.int .i64), .v .bool]]⟩
noncomputable def f98l0tv : Vw f98l0t := { Y := Int × (List Bool) × Int × Int × Yls × Ylp × Ylc × Ylg × Yln × Int × Int × Bool, fromT := fun t => (t.2.2.1, t.2.2.2.1, t.2.2.2.2.1, t.2.2.2.2.2.1, t.2.2.2.2.2.2.1.1, t.2.2.2.2.2.2.1.2.1, t.2.2.2.2.2.2.1.2.2.1, t.2.2.2.2.2.2.1.2.2.2.1, t.2.2.2.2.2.2.1.2.2.2.2.1, t.2.2.2.2.2.2.2.1.1, t.2.2.2.2.2.2.2.1.2.1, t.2.2.2.2.2.2.2.1.2.2.1), outT := fun y => ((), (), y.1, y.2.1, y.2.2.1, y.2.2.2.1, (y.2.2.2.2.1, y.2.2.2.2.2.1, y.2.2.2.2.2.2.1, y.2.2.2.2.2.2.2.1, y.2.2.2.2.2.2.2.2.1, ()), (y.2.2.2.2.2.2.2.2.2.1, y.2.2.2.2.2.2.2.2.2.2.1, y.2.2.2.2.2.2.2.2.2.2.2, ()), ()), inv := fun _ => rfl }
noncomputable def f98l0e0 : Tm := ⟨[4], [], [.one (.v (.int .i64))]⟩
noncomputable def f98l0e0v : Vw f98l0e0 := { Y := Int, fromT := fun t => t.1, outT := fun y => (y, ()), inv := fun _ => rfl }
@[reducible] noncomputable def f98l0E : List Ex := [⟨(.ext 0), f98l0e0, f98l0e0v⟩]
noncomputable def f98l0B (N : Nat) (go : Int → (List Bool) → Int → Int → Yls → Ylp → Ylc → Ylg → Yln → Int → Int → Bool → Option (Int)) (x0 : Int) (x1 : (List Bool)) (x2 : Int) (x3 : Int) (x4 : Yls) (x5 : Ylp) (x6 : Ylc) (x7 : Ylg) (x8 : Yln) (x9 : Int) (x10 : Int) (x11 : Bool) : Option (Int) := (if (decide (x3 < x2)) = true then (if ((decide ((0 : Int) ≤ x3)) && (decide (x3 < ((List.length x1 : Nat) : Int)))) = true then (andThen (f92 N x4 x5 x6 x7 x8 (0 : Int) ([(Sum.inl (x9, (x10, (List.getD x1 (Int.toNat x3) false))))] : List ((Int × (Int × Bool)) ⊕ (Int × ((Int × Int) × Int))))) fun y1 => (if y1.2 = true then (andThen (f71 N x4 x5 x6 x7 x8 y1.1) fun y2 => (andThen (f97 N y2) fun y3 => (go (if (y3 > x0) then y3 else x0) x1 x2 (Go.IntKind.wrap .i64 (x3 + (1 : Int))) x4 x5 x6 x7 x8 x9 x10 (List.getD x1 (Int.toNat x3) false)))) else (go x0 x1 x2 (Go.IntKind.wrap .i64 (x3 + (1 : Int))) x4 x5 x6 x7 x8 x9 x10 (List.getD x1 (Int.toNat x3) false)))) else none) else (some x0))
noncomputable def f98l0 (N : Nat) : Nat → Int → (List Bool) → Int → Int → Yls → Ylp → Ylc → Ylg → Yln → Int → Int → Bool → Option (Int) | 0 => fun _ _ _ _ _ _ _ _ _ _ _ _ => none | q + 1 => f98l0B N (f98l0 N q)
noncomputable def f98l0o (N : Nat) : List (Nat × Orc) := []
theorem f98l0eq (N : Nat) (go : Int → (List Bool) → Int → Int → Yls → Ylp → Ylc → Ylg → Yln → Int → Int → Bool → Option (Int)) (x : f98l0tv.Y) : codeK Try.prog hint (callsL (f98calls N)) (orcsL (f98l0o N)) 34 f98l0c 1 (f98l0tv.enc x) (loopK f98l0tv f98l0E (fun x => go x.1 x.2.1 x.2.2.1 x.2.2.2.1 x.2.2.2.2.1 x.2.2.2.2.2.1 x.2.2.2.2.2.2.1 x.2.2.2.2.2.2.2.1 x.2.2.2.2.2.2.2.2.1 x.2.2.2.2.2.2.2.2.2.1 x.2.2.2.2.2.2.2.2.2.2.1 x.2.2.2.2.2.2.2.2.2.2.2)) = f98l0B N go x.1 x.2.1 x.2.2.1 x.2.2.2.1 x.2.2.2.2.1 x.2.2.2.2.2.1 x.2.2.2.2.2.2.1 x.2.2.2.2.2.2.2.1 x.2.2.2.2.2.2.2.2.1 x.2.2.2.2.2.2.2.2.2.1 x.2.2.2.2.2.2.2.2.2.2.1 x.2.2.2.2.2.2.2.2.2.2.2 := by kernel_rfl
theorem f98l0oOk (N : Nat) : OrcsOk Try.prog false 34 f98l0c (orcsL (f98l0o N)) := orcsL_nil
theorem f98l0ok (N : Nat) (M : Nat) : OrcOk Try.prog false 34 (.loop f98l0c) (cutOrc f98l0tv f98l0E (fun x => f98l0 N M x.1 x.2.1 x.2.2.1 x.2.2.2.1 x.2.2.2.2.1 x.2.2.2.2.2.1 x.2.2.2.2.2.2.1 x.2.2.2.2.2.2.2.1 x.2.2.2.2.2.2.2.2.1 x.2.2.2.2.2.2.2.2.2.1 x.2.2.2.2.2.2.2.2.2.2.1 x.2.2.2.2.2.2.2.2.2.2.2)) := loop_ok mixed eqOk (f98callsOk N) (f98l0oOk N) (fun _ => rfl) (fun q x o h => (f98l0eq N (f98l0 N q) x).trans h) M
noncomputable def f98 (N : Nat) (x0 : Yls) (x1 : Ylp) (x2 : Ylc) (x3 : Ylg) (x4 : Yln) (x5 : Int) (x6 : Int) (x7 : Bool) : Option (Int) := (andThen (f98l0 N N (0 : Int) ([false, true] : List Bool) ((List.length ([false, true] : List Bool) : Nat) : Int) (0 : Int) x0 x1 x2 x3 x4 x5 x6 x7) fun y4 => (some y4))
noncomputable def f98orc (N : Nat) : List (Nat × Orc) := [(26, cutOrc f98l0tv f98l0E (fun x => f98l0 N N x.1 x.2.1 x.2.2.1 x.2.2.2.1 x.2.2.2.2.1 x.2.2.2.2.2.1 x.2.2.2.2.2.2.1 x.2.2.2.2.2.2.2.1 x.2.2.2.2.2.2.2.2.1 x.2.2.2.2.2.2.2.2.2.1 x.2.2.2.2.2.2.2.2.2.2.1 x.2.2.2.2.2.2.2.2.2.2.2))]
theorem f98eq (N : Nat) (x : f98iv.Y) : codeK Try.prog hint (callsL (f98calls N)) (orcsL (f98orc N)) 34 f98c 1 (f98iv.enc x) (fnKv Try.prog [.tmp 4] f98ov) = f98 N x.1 x.2.1 x.2.2.1 x.2.2.2.1 x.2.2.2.2.1 x.2.2.2.2.2.1 x.2.2.2.2.2.2.1 x.2.2.2.2.2.2.2 := by kernel_rfl
theorem f98orcOk (N : Nat) : OrcsOk Try.prog false 34 f98c (orcsL (f98orc N)) := (orcsL_cons (c := .loop f98l0c) (by kernel_rfl) (f98l0ok N N) orcsL_nil)
noncomputable def f98call (N : Nat) : CallS := callOf 34 f98iv f98ov (fun x => f98 N x.1 x.2.1 x.2.2.1 x.2.2.2.1 x.2.2.2.2.1 x.2.2.2.2.2.1 x.2.2.2.2.2.2.1 x.2.2.2.2.2.2.2)
theorem f98ok (N : Nat) : CallOk Try.prog 98 (f98call N) := fn_ok (g := 98) (fn := Try.f98) (body := f98c) (n := 34) (rs := [.tmp 4]) mixed eqOk (f98callsOk N) (by kernel_rfl) (by kernel_rfl) (by kernel_rfl) (by kernel_rfl) (f98orcOk N) (by kernel_rfl) (Vi := f98iv) (Vo := f98ov) (F := fun x => f98 N x.1 x.2.1 x.2.2.1 x.2.2.2.1 x.2.2.2.2.1 x.2.2.2.2.2.1 x.2.2.2.2.2.2.1 x.2.2.2.2.2.2.2) (fun x y h => (f98eq N x).trans h)
end Go.Proofs


namespace Go.Proofs
open Go.Al
noncomputable def f42i : Tm := ⟨[0], [], [.agg [.v (.list T0), .v T1, .v T3, .v (.list T4)]]⟩
noncomputable def f42iv : Vw f42i := { Y := Yls × Ylp × Ylc × Ylg, fromT := fun t => (t.1.1, t.1.2.1, t.1.2.2.1, t.1.2.2.2.1), outT := fun y => ((y.1, y.2.1, y.2.2.1, y.2.2.2, ()), ()), inv := fun _ => rfl }
noncomputable def f42o : Tm := ⟨[0, 1, 2, 3], [], [.one (.v (.int .i64)), .one (.v (.int .i64)), .one (.v (.int .i64)), .one (.v (.int .i64))]⟩
noncomputable def f42ov : Vw f42o := { Y := Int × Int × Int × Int, fromT := fun t => (t.1, t.2.1, t.2.2.1, t.2.2.2.1), outT := fun y => (y.1, y.2.1, y.2.2.1, y.2.2.2, ()), inv := fun _ => rfl }
@[reducible] noncomputable def f42c : Code := bodyOf Try.f42
noncomputable def f42calls (N : Nat) : List (Nat × CallS) := [(70, f70call N), (71, f71call N), (97, f97call N), (98, f98call N)]
theorem f42callsOk (N : Nat) : CallsOk Try.prog (callsL (f42calls N)) := (callsL_cons (fun _ => Enters.of (fn := Try.f70) (by kernel_rfl) (by kernel_rfl) (by kernel_rfl)) (f70ok N) (callsL_cons (fun _ => Enters.of (fn := Try.f71) (by kernel_rfl) (by kernel_rfl) (by kernel_rfl)) (f71ok N) (callsL_cons (fun _ => Enters.of (fn := Try.f97) (by kernel_rfl) (by kernel_rfl) (by kernel_rfl)) (f97ok N) (callsL_cons (fun _ => Enters.of (fn := Try.f98) (by kernel_rfl) (by kernel_rfl) (by kernel_rfl)) (f98ok N) callsL_nil))))
@[reducible] noncomputable def f42l0c : Code := loopOf (codeOf (f42c) 506)
@[reducible] noncomputable def f42l1c : Code := loopOf (codeOf (f42l0c) 230)
noncomputable def f42l1t : Tm := ⟨[2, 3, 4, 6, 8, 9, 10, 29, 30], [(.box 6), (.box 8)], [.one (.v (.int .i64)), .one (.v (.int .i64)), .one (.v (.int .i64)), .one (.ptr (.box 6) 0 5), .one (.ptr (.box 8) 0 10), .one (.v (.int .i64)), .one (.v (.int .i64)), .one (.v (.int .i64)), .one (.v (.int .i64)), .agg [.v (.list T0), .v T1, .v T3, .v (.list T4), .own 1000000 T5], .arr (.int .i64) 10]⟩
noncomputable def f42l1tv : Vw f42l1t := { Y := Int × Int × Int × Int × Int × Int × Int × Yls × Ylp × Ylc × Ylg × Yln × List Int, fromT := fun t => (t.1, t.2.1, t.2.2.1, t.2.2.2.2.2.1, t.2.2.2.2.2.2.1, t.2.2.2.2.2.2.2.1, t.2.2.2.2.2.2.2.2.1, t.2.2.2.2.2.2.2.2.2.1.1, t.2.2.2.2.2.2.2.2.2.1.2.1, t.2.2.2.2.2.2.2.2.2.1.2.2.1, t.2.2.2.2.2.2.2.2.2.1.2.2.2.1, t.2.2.2.2.2.2.2.2.2.1.2.2.2.2.1, t.2.2.2.2.2.2.2.2.2.2.1), outT := fun y => (y.1, y.2.1, y.2.2.1, (), (), y.2.2.2.1, y.2.2.2.2.1, y.2.2.2.2.2.1, y.2.2.2.2.2.2.1, (y.2.2.2.2.2.2.2.1, y.2.2.2.2.2.2.2.2.1, y.2.2.2.2.2.2.2.2.2.1, y.2.2.2.2.2.2.2.2.2.2.1, y.2.2.2.2.2.2.2.2.2.2.2.1, ()), y.2.2.2.2.2.2.2.2.2.2.2.2, ()), inv := fun _ => rfl }
noncomputable def f42l1e0 : Tm := ⟨[2, 3, 4, 6, 8, 29, 30], [(.box 6), (.box 8)], [.one (.v (.int .i64)), .one (.v (.int .i64)), .one (.v (.int .i64)), .one (.ptr (.box 6) 0 5), .one (.ptr (.box 8) 0 10), .one (.v (.int .i64)), .one (.v (.int .i64)), .agg [.v (.list T0), .v T1, .v T3, .v (.list T4), .own 1000000 T5], .arr (.int .i64) 10]⟩
noncomputable def f42l1e0v : Vw f42l1e0 := { Y := Int × Int × Int × Int × Int × Yls × Ylp × Ylc × Ylg × Yln × List Int, fromT := fun t => (t.1, t.2.1, t.2.2.1, t.2.2.2.2.2.1, t.2.2.2.2.2.2.1, t.2.2.2.2.2.2.2.1.1, t.2.2.2.2.2.2.2.1.2.1, t.2.2.2.2.2.2.2.1.2.2.1, t.2.2.2.2.2.2.2.1.2.2.2.1, t.2.2.2.2.2.2.2.1.2.2.2.2.1, t.2.2.2.2.2.2.2.2.1), outT := fun y => (y.1, y.2.1, y.2.2.1, (), (), y.2.2.2.1, y.2.2.2.2.1, (y.2.2.2.2.2.1, y.2.2.2.2.2.2.1, y.2.2.2.2.2.2.2.1, y.2.2.2.2.2.2.2.2.1, y.2.2.2.2.2.2.2.2.2.1, ()), y.2.2.2.2.2.2.2.2.2.2, ()), inv := fun _ => rfl }
@[reducible] noncomputable def f42l1E : List Ex := [⟨(.ext 2), f42l1e0, f42l1e0v⟩]
noncomputable def f42l1B (N : Nat) (go : Int → Int → Int → Int → Int → Int → Int → Yls → Ylp → Ylc → Ylg → Yln → List Int → Option (Int × Int × Int × Int × Int × Yls × Ylp × Ylc × Ylg × Yln × List Int)) (x0 : Int) (x1 : Int) (x2 : Int) (x3 : Int) (x4 : Int) (x5 : Int) (x6 : Int) (x7 : Yls) (x8 : Ylp) (x9 : Ylc) (x10 : Ylg) (x11 : Yln) (x12 : List Int) : Option (Int × Int × Int × Int × Int × Yls × Ylp × Ylc × Ylg × Yln × List Int) := (if ((decide ((0 : Int) ≤ x3)) && (decide (x3 < (5 : Int)))) = true then (if (decide (x4 ≤ (List.getD x12 ((0 + ((Int.toNat x3) * 2)) + 1) (0 : Int)))) = true then (andThen (f98 N x7 x8 x9 x10 x11 x3 x4 false) fun y4 => (if (decide (y4 < x2)) = true then (go x3 x4 y4 x3 (Go.IntKind.wrap .i64 (x4 + (1 : Int))) x5 x6 x7 x8 x9 x10 x11 x12) else (go x0 x1 x2 x3 (Go.IntKind.wrap .i64 (x4 + (1 : Int))) x5 x6 x7 x8 x9 x10 x11 x12))) else (some (x0, x1, x2, x5, x6, x7, x8, x9, x10, x11, x12))) else none)
noncomputable def f42l1 (N : Nat) : Nat → Int → Int → Int → Int → Int → Int → Int → Yls → Ylp → Ylc → Ylg → Yln → List Int → Option (Int × Int × Int × Int × Int × Yls × Ylp × Ylc × Ylg × Yln × List Int) | 0 => fun _ _ _ _ _ _ _ _ _ _ _ _ _ => none | q + 1 => f42l1B N (f42l1 N q)
noncomputable def f42l1o (N : Nat) : List (Nat × Orc) := []
theorem f42l1eq (N : Nat) (go : Int → Int → Int → Int → Int → Int → Int → Yls → Ylp → Ylc → Ylg → Yln → List Int → Option (Int × Int × Int × Int × Int × Yls × Ylp × Ylc × Ylg × Yln × List Int)) (x : f42l1tv.Y) : codeK Try.prog hint (callsL (f42calls N)) (orcsL (f42l1o N)) 63 f42l1c 1 (f42l1tv.enc x) (loopK f42l1tv f42l1E (fun x => go x.1 x.2.1 x.2.2.1 x.2.2.2.1 x.2.2.2.2.1 x.2.2.2.2.2.1 x.2.2.2.2.2.2.1 x.2.2.2.2.2.2.2.1 x.2.2.2.2.2.2.2.2.1 x.2.2.2.2.2.2.2.2.2.1 x.2.2.2.2.2.2.2.2.2.2.1 x.2.2.2.2.2.2.2.2.2.2.2.1 x.2.2.2.2.2.2.2.2.2.2.2.2)) = f42l1B N go x.1 x.2.1 x.2.2.1 x.2.2.2.1 x.2.2.2.2.1 x.2.2.2.2.2.1 x.2.2.2.2.2.2.1 x.2.2.2.2.2.2.2.1 x.2.2.2.2.2.2.2.2.1 x.2.2.2.2.2.2.2.2.2.1 x.2.2.2.2.2.2.2.2.2.2.1 x.2.2.2.2.2.2.2.2.2.2.2.1 x.2.2.2.2.2.2.2.2.2.2.2.2 := by kernel_rfl
theorem f42l1oOk (N : Nat) : OrcsOk Try.prog false 63 f42l1c (orcsL (f42l1o N)) := orcsL_nil
theorem f42l1ok (N : Nat) (M : Nat) : OrcOk Try.prog false 63 (.loop f42l1c) (cutOrc f42l1tv f42l1E (fun x => f42l1 N M x.1 x.2.1 x.2.2.1 x.2.2.2.1 x.2.2.2.2.1 x.2.2.2.2.2.1 x.2.2.2.2.2.2.1 x.2.2.2.2.2.2.2.1 x.2.2.2.2.2.2.2.2.1 x.2.2.2.2.2.2.2.2.2.1 x.2.2.2.2.2.2.2.2.2.2.1 x.2.2.2.2.2.2.2.2.2.2.2.1 x.2.2.2.2.2.2.2.2.2.2.2.2)) := loop_ok mixed eqOk (f42callsOk N) (f42l1oOk N) (fun _ => rfl) (fun q x o h => (f42l1eq N (f42l1 N q) x).trans h) M
noncomputable def f42l0t : Tm := ⟨[2, 3, 4, 6, 8, 29, 30], [(.box 6), (.box 8)], [.one (.v (.int .i64)), .one (.v (.int .i64)), .one (.v (.int .i64)), .one (.ptr (.box 6) 0 5), .one (.ptr (.box 8) 0 10), .one (.v (.int .i64)), .one (.v (.int .i64)), .agg [.v (.list T0), .v T1, .v T3, .v (.list T4), .own 1000000 T5], .arr (.int .i64) 10]⟩
noncomputable def f42l0tv : Vw f42l0t := { Y := Int × Int × Int × Int × Int × Yls × Ylp × Ylc × Ylg × Yln × List Int, fromT := fun t => (t.1, t.2.1, t.2.2.1, t.2.2.2.2.2.1, t.2.2.2.2.2.2.1, t.2.2.2.2.2.2.2.1.1, t.2.2.2.2.2.2.2.1.2.1, t.2.2.2.2.2.2.2.1.2.2.1, t.2.2.2.2.2.2.2.1.2.2.2.1, t.2.2.2.2.2.2.2.1.2.2.2.2.1, t.2.2.2.2.2.2.2.2.1), outT := fun y => (y.1, y.2.1, y.2.2.1, (), (), y.2.2.2.1, y.2.2.2.2.1, (y.2.2.2.2.2.1, y.2.2.2.2.2.2.1, y.2.2.2.2.2.2.2.1, y.2.2.2.2.2.2.2.2.1, y.2.2.2.2.2.2.2.2.2.1, ()), y.2.2.2.2.2.2.2.2.2.2, ()), inv := fun _ => rfl }
noncomputable def f42l0e0 : Tm := ⟨[2, 3, 4], [], [.one (.v (.int .i64)), .one (.v (.int .i64)), .one (.v (.int .i64))]⟩
noncomputable def f42l0e0v : Vw f42l0e0 := { Y := Int × Int × Int, fromT := fun t => (t.1, t.2.1, t.2.2.1), outT := fun y => (y.1, y.2.1, y.2.2, ()), inv := fun _ => rfl }
@[reducible] noncomputable def f42l0E : List Ex := [⟨(.ext 0), f42l0e0, f42l0e0v⟩]
noncomputable def f42l0B (N : Nat) (go : Int → Int → Int → Int → Int → Yls → Ylp → Ylc → Ylg → Yln → List Int → Option (Int × Int × Int)) (x0 : Int) (x1 : Int) (x2 : Int) (x3 : Int) (x4 : Int) (x5 : Yls) (x6 : Ylp) (x7 : Ylc) (x8 : Ylg) (x9 : Yln) (x10 : List Int) : Option (Int × Int × Int) := (if (decide (x4 < x3)) = true then (if ((decide ((0 : Int) ≤ x4)) && (decide (x4 < (5 : Int)))) = true then (andThen (f42l1 N N x0 x1 x2 x4 (Go.IntKind.wrap .i64 ((List.getD x10 ((0 + ((Int.toNat x4) * 2)) + 0) (0 : Int)) + (1 : Int))) x3 x4 x5 x6 x7 x8 x9 x10) fun y5 => (go y5.1 y5.2.1 y5.2.2.1 y5.2.2.2.1 (Go.IntKind.wrap .i64 (y5.2.2.2.2.1 + (1 : Int))) y5.2.2.2.2.2.1 y5.2.2.2.2.2.2.1 y5.2.2.2.2.2.2.2.1 y5.2.2.2.2.2.2.2.2.1 y5.2.2.2.2.2.2.2.2.2.1 y5.2.2.2.2.2.2.2.2.2.2)) else none) else (some (x0, x1, x2)))
noncomputable def f42l0 (N : Nat) : Nat → Int → Int → Int → Int → Int → Yls → Ylp → Ylc → Ylg → Yln → List Int → Option (Int × Int × Int) | 0 => fun _ _ _ _ _ _ _ _ _ _ _ => none | q + 1 => f42l0B N (f42l0 N q)
noncomputable def f42l0o (N : Nat) : List (Nat × Orc) := [(230, cutOrc f42l1tv f42l1E (fun x => f42l1 N N x.1 x.2.1 x.2.2.1 x.2.2.2.1 x.2.2.2.2.1 x.2.2.2.2.2.1 x.2.2.2.2.2.2.1 x.2.2.2.2.2.2.2.1 x.2.2.2.2.2.2.2.2.1 x.2.2.2.2.2.2.2.2.2.1 x.2.2.2.2.2.2.2.2.2.2.1 x.2.2.2.2.2.2.2.2.2.2.2.1 x.2.2.2.2.2.2.2.2.2.2.2.2))]
theorem f42l0eq (N : Nat) (go : Int → Int → Int → Int → Int → Yls → Ylp → Ylc → Ylg → Yln → List Int → Option (Int × Int × Int)) (x : f42l0tv.Y) : codeK Try.prog hint (callsL (f42calls N)) (orcsL (f42l0o N)) 63 f42l0c 1 (f42l0tv.enc x) (loopK f42l0tv f42l0E (fun x => go x.1 x.2.1 x.2.2.1 x.2.2.2.1 x.2.2.2.2.1 x.2.2.2.2.2.1 x.2.2.2.2.2.2.1 x.2.2.2.2.2.2.2.1 x.2.2.2.2.2.2.2.2.1 x.2.2.2.2.2.2.2.2.2.1 x.2.2.2.2.2.2.2.2.2.2)) = f42l0B N go x.1 x.2.1 x.2.2.1 x.2.2.2.1 x.2.2.2.2.1 x.2.2.2.2.2.1 x.2.2.2.2.2.2.1 x.2.2.2.2.2.2.2.1 x.2.2.2.2.2.2.2.2.1 x.2.2.2.2.2.2.2.2.2.1 x.2.2.2.2.2.2.2.2.2.2 := by kernel_rfl
theorem f42l0oOk (N : Nat) : OrcsOk Try.prog false 63 f42l0c (orcsL (f42l0o N)) := (orcsL_cons (c := .loop f42l1c) (by kernel_rfl) (f42l1ok N N) orcsL_nil)
theorem f42l0ok (N : Nat) (M : Nat) : OrcOk Try.prog false 63 (.loop f42l0c) (cutOrc f42l0tv f42l0E (fun x => f42l0 N M x.1 x.2.1 x.2.2.1 x.2.2.2.1 x.2.2.2.2.1 x.2.2.2.2.2.1 x.2.2.2.2.2.2.1 x.2.2.2.2.2.2.2.1 x.2.2.2.2.2.2.2.2.1 x.2.2.2.2.2.2.2.2.2.1 x.2.2.2.2.2.2.2.2.2.2)) := loop_ok mixed eqOk (f42callsOk N) (f42l0oOk N) (fun _ => rfl) (fun q x o h => (f42l0eq N (f42l0 N q) x).trans h) M
noncomputable def f42 (N : Nat) (x0 : Yls) (x1 : Ylp) (x2 : Ylc) (x3 : Ylg) : Option (Int × Int × Int × Int) := (andThen (f70 N x0 x1 x2 x3) fun y1 => (if (y1.2.2.2.2.2.2 != (0 : Int)) = true then (some ((0 : Int), (0 : Int), (0 : Int), y1.2.2.2.2.2.2)) else (andThen (f71 N y1.1 y1.2.1 y1.2.2.1 y1.2.2.2.1 y1.2.2.2.2.1 y1.2.2.2.2.2.1) fun y2 => (andThen (f97 N y2) fun y3 => (andThen (f42l0 N N (0 : Int) (0 : Int) y3 ((List.length y1.1 : Nat) : Int) (0 : Int) y1.1 y1.2.1 y1.2.2.1 y1.2.2.2.1 y1.2.2.2.2.1 y2) fun y6 => (if (y6.2.1 == (0 : Int)) = true then (some ((0 : Int), (0 : Int), (0 : Int), (6 : Int))) else (some (y6.1, y6.2.1, y6.2.2, (0 : Int)))))))))
noncomputable def f42orc (N : Nat) : List (Nat × Orc) := [(506, cutOrc f42l0tv f42l0E (fun x => f42l0 N N x.1 x.2.1 x.2.2.1 x.2.2.2.1 x.2.2.2.2.1 x.2.2.2.2.2.1 x.2.2.2.2.2.2.1 x.2.2.2.2.2.2.2.1 x.2.2.2.2.2.2.2.2.1 x.2.2.2.2.2.2.2.2.2.1 x.2.2.2.2.2.2.2.2.2.2))]
theorem f42eq (N : Nat) (x : f42iv.Y) : codeK Try.prog hint (callsL (f42calls N)) (orcsL (f42orc N)) 63 f42c 1 (f42iv.enc x) (fnKv Try.prog [.tmp 2, .tmp 3, .tmp 4, .tmp 5] f42ov) = f42 N x.1 x.2.1 x.2.2.1 x.2.2.2 := by kernel_rfl
theorem f42orcOk (N : Nat) : OrcsOk Try.prog false 63 f42c (orcsL (f42orc N)) := (orcsL_cons (c := .loop f42l0c) (by kernel_rfl) (f42l0ok N N) orcsL_nil)
noncomputable def f42call (N : Nat) : CallS := callOf 63 f42iv f42ov (fun x => f42 N x.1 x.2.1 x.2.2.1 x.2.2.2)
theorem f42ok (N : Nat) : CallOk Try.prog 42 (f42call N) := fn_ok (g := 42) (fn := Try.f42) (body := f42c) (n := 63) (rs := [.tmp 2, .tmp 3, .tmp 4, .tmp 5]) mixed eqOk (f42callsOk N) (by kernel_rfl) (by kernel_rfl) (by kernel_rfl) (by kernel_rfl) (f42orcOk N) (by kernel_rfl) (Vi := f42iv) (Vo := f42ov) (F := fun x => f42 N x.1 x.2.1 x.2.2.1 x.2.2.2) (fun x y h => (f42eq N x).trans h)
end Go.Proofs


namespace Go.Proofs
open Go.Al
noncomputable def f99i : Tm := ⟨[0], [], [.one (.v (.list T0))]⟩
noncomputable def f99iv : Vw f99i := { Y := Yls, fromT := fun t => t.1, outT := fun y => (y, ()), inv := fun _ => rfl }
noncomputable def f99o : Tm := ⟨[0], [], [.one (.v (.int .i64))]⟩
noncomputable def f99ov : Vw f99o := { Y := Int, fromT := fun t => t.1, outT := fun y => (y, ()), inv := fun _ => rfl }
@[reducible] noncomputable def f99c : Code := bodyOf Try.f99
noncomputable def f99calls (N : Nat) : List (Nat × CallS) := []
theorem f99callsOk (N : Nat) : CallsOk Try.prog (callsL (f99calls N)) := callsL_nil
@[reducible] noncomputable def f99l0c : Code := loopOf (codeOf (f99c) 58)
noncomputable def f99l0t : Tm := ⟨[0, 3, 4], [], [.one (.v (.list T0)), .one (.v (.int .i64)), .one (.v (.int .i64))]⟩
noncomputable def f99l0tv : Vw f99l0t := { Y := Yls × Int × Int, fromT := fun t => (t.1, t.2.1, t.2.2.1), outT := fun y => (y.1, y.2.1, y.2.2, ()), inv := fun _ => rfl }
noncomputable def f99l0e0 : Tm := ⟨[3], [], [.one (.v (.int .i64))]⟩
noncomputable def f99l0e0v : Vw f99l0e0 := { Y := Int, fromT := fun t => t.1, outT := fun y => (y, ()), inv := fun _ => rfl }
@[reducible] noncomputable def f99l0E : List Ex := [⟨(.ext 0), f99l0e0, f99l0e0v⟩]
noncomputable def f99l0B (N : Nat) (go : Yls → Int → Int → Option (Int)) (x0 : Yls) (x1 : Int) (x2 : Int) : Option (Int) := (if (decide (x2 < ((List.length x0 : Nat) : Int))) = true then (if ((decide ((0 : Int) ≤ x2)) && (decide (x2 < ((List.length x0 : Nat) : Int)))) = true then (if ((decide ((0 : Int) ≤ x2)) && (decide (x2 < ((List.length x0 : Nat) : Int)))) = true then (go x0 (Go.IntKind.wrap .i64 (x1 + (Go.IntKind.wrap .i64 ((List.getD x0 (Int.toNat x2) ((0 : Int), (0 : Int))).2 - (List.getD x0 (Int.toNat x2) ((0 : Int), (0 : Int))).1)))) (Go.IntKind.wrap .i64 (x2 + (1 : Int)))) else none) else none) else (some x1))
noncomputable def f99l0 (N : Nat) : Nat → Yls → Int → Int → Option (Int) | 0 => fun _ _ _ => none | q + 1 => f99l0B N (f99l0 N q)
noncomputable def f99l0o (N : Nat) : List (Nat × Orc) := []
theorem f99l0eq (N : Nat) (go : Yls → Int → Int → Option (Int)) (x : f99l0tv.Y) : codeK Try.prog hint (callsL (f99calls N)) (orcsL (f99l0o N)) 25 f99l0c 1 (f99l0tv.enc x) (loopK f99l0tv f99l0E (fun x => go x.1 x.2.1 x.2.2)) = f99l0B N go x.1 x.2.1 x.2.2 := by kernel_rfl
theorem f99l0oOk (N : Nat) : OrcsOk Try.prog false 25 f99l0c (orcsL (f99l0o N)) := orcsL_nil
theorem f99l0ok (N : Nat) (M : Nat) : OrcOk Try.prog false 25 (.loop f99l0c) (cutOrc f99l0tv f99l0E (fun x => f99l0 N M x.1 x.2.1 x.2.2)) := loop_ok mixed eqOk (f99callsOk N) (f99l0oOk N) (fun _ => rfl) (fun q x o h => (f99l0eq N (f99l0 N q) x).trans h) M
noncomputable def f99 (N : Nat) (x0 : Yls) : Option (Int) := (andThen (f99l0 N N x0 (0 : Int) (0 : Int)) fun y1 => (some y1))
noncomputable def f99orc (N : Nat) : List (Nat × Orc) := [(58, cutOrc f99l0tv f99l0E (fun x => f99l0 N N x.1 x.2.1 x.2.2))]
theorem f99eq (N : Nat) (x : f99iv.Y) : codeK Try.prog hint (callsL (f99calls N)) (orcsL (f99orc N)) 25 f99c 1 (f99iv.enc x) (fnKv Try.prog [.tmp 2] f99ov) = f99 N x := by kernel_rfl
theorem f99orcOk (N : Nat) : OrcsOk Try.prog false 25 f99c (orcsL (f99orc N)) := (orcsL_cons (c := .loop f99l0c) (by kernel_rfl) (f99l0ok N N) orcsL_nil)
noncomputable def f99call (N : Nat) : CallS := callOf 25 f99iv f99ov (fun x => f99 N x)
theorem f99ok (N : Nat) : CallOk Try.prog 99 (f99call N) := fn_ok (g := 99) (fn := Try.f99) (body := f99c) (n := 25) (rs := [.tmp 2]) mixed eqOk (f99callsOk N) (by kernel_rfl) (by kernel_rfl) (by kernel_rfl) (by kernel_rfl) (f99orcOk N) (by kernel_rfl) (Vi := f99iv) (Vo := f99ov) (F := fun x => f99 N x) (fun x y h => (f99eq N x).trans h)
end Go.Proofs


namespace Go.Proofs
open Go.Al
noncomputable def f100i : Tm := ⟨[0, 1, 2], [], [.agg [.v (.list T0), .v T1, .v T3, .v (.list T4)], .one (.v (.list T0)), .agg [.v (.int .i64), .v (.int .i64), .v .bool]]⟩
noncomputable def f100iv : Vw f100i := { Y := Yls × Ylp × Ylc × Ylg × Yls × Int × Int × Bool, fromT := fun t => (t.1.1, t.1.2.1, t.1.2.2.1, t.1.2.2.2.1, t.2.1, t.2.2.1.1, t.2.2.1.2.1, t.2.2.1.2.2.1), outT := fun y => ((y.1, y.2.1, y.2.2.1, y.2.2.2.1, ()), y.2.2.2.2.1, (y.2.2.2.2.2.1, y.2.2.2.2.2.2.1, y.2.2.2.2.2.2.2, ()), ()), inv := fun _ => rfl }
noncomputable def f100o : Tm := ⟨[0], [], [.one (.v (.int .i64))]⟩
noncomputable def f100ov : Vw f100o := { Y := Int, fromT := fun t => t.1, outT := fun y => (y, ()), inv := fun _ => rfl }
@[reducible] noncomputable def f100c : Code := bodyOf Try.f100
noncomputable def f100calls (N : Nat) : List (Nat × CallS) := [(116, f116call N), (80, f80call N), (81, f81call N), (99, f99call N)]
theorem f100callsOk (N : Nat) : CallsOk Try.prog (callsL (f100calls N)) := (callsL_cons (fun _ => Enters.of (fn := Try.f116) (by kernel_rfl) (by kernel_rfl) (by kernel_rfl)) (f116ok N) (callsL_cons (fun _ => Enters.of (fn := Try.f80) (by kernel_rfl) (by kernel_rfl) (by kernel_rfl)) (f80ok N) (callsL_cons (fun _ => Enters.of (fn := Try.f81) (by kernel_rfl) (by kernel_rfl) (by kernel_rfl)) (f81ok N) (callsL_cons (fun _ => Enters.of (fn := Try.f99) (by kernel_rfl) (by kernel_rfl) (by kernel_rfl)) (f99ok N) callsL_nil))))
noncomputable def f100 (N : Nat) (x0 : Yls) (x1 : Ylp) (x2 : Ylc) (x3 : Ylg) (x4 : Yls) (x5 : Int) (x6 : Int) (x7 : Bool) : Option (Int) := (if (Nat.ble ((List.length ([] : List (Int × Int))) + (List.length x4)) Go.Al.boundLen) = true then (if ((decide ((0 : Int) ≤ x5)) && (decide (x5 < ((List.length (([] : List (Int × Int)) ++ x4) : Nat) : Int)))) = true then (andThen (f116 N x5 x6 x7) fun y1 => (andThen (f80 N (List.getD (([] : List (Int × Int)) ++ x4) (Int.toNat x5) ((0 : Int), (0 : Int))).1 (List.getD (([] : List (Int × Int)) ++ x4) (Int.toNat x5) ((0 : Int), (0 : Int))).2 y1.1 y1.2) fun y2 => (if ((decide ((0 : Int) ≤ x5)) && (decide (x5 < ((List.length (([] : List (Int × Int)) ++ x4) : Nat) : Int)))) = true then (andThen (f81 N x1 (List.set (([] : List (Int × Int)) ++ x4) (Int.toNat x5) (y2.1, y2.2))) fun y3 => (if (!y3.2) = true then (some (-1 : Int)) else (andThen (f99 N y3.1) fun y4 => (some y4)))) else none))) else none) else none)
noncomputable def f100orc (N : Nat) : List (Nat × Orc) := []
theorem f100eq (N : Nat) (x : f100iv.Y) : codeK Try.prog hint (callsL (f100calls N)) (orcsL (f100orc N)) 36 f100c 1 (f100iv.enc x) (fnKv Try.prog [.tmp 6] f100ov) = f100 N x.1 x.2.1 x.2.2.1 x.2.2.2.1 x.2.2.2.2.1 x.2.2.2.2.2.1 x.2.2.2.2.2.2.1 x.2.2.2.2.2.2.2 := by kernel_rfl
theorem f100orcOk (N : Nat) : OrcsOk Try.prog false 36 f100c (orcsL (f100orc N)) := orcsL_nil
noncomputable def f100call (N : Nat) : CallS := callOf 36 f100iv f100ov (fun x => f100 N x.1 x.2.1 x.2.2.1 x.2.2.2.1 x.2.2.2.2.1 x.2.2.2.2.2.1 x.2.2.2.2.2.2.1 x.2.2.2.2.2.2.2)
theorem f100ok (N : Nat) : CallOk Try.prog 100 (f100call N) := fn_ok (g := 100) (fn := Try.f100) (body := f100c) (n := 36) (rs := [.tmp 6]) mixed eqOk (f100callsOk N) (by kernel_rfl) (by kernel_rfl) (by kernel_rfl) (by kernel_rfl) (f100orcOk N) (by kernel_rfl) (Vi := f100iv) (Vo := f100ov) (F := fun x => f100 N x.1 x.2.1 x.2.2.1 x.2.2.2.1 x.2.2.2.2.1 x.2.2.2.2.2.1 x.2.2.2.2.2.2.1 x.2.2.2.2.2.2.2) (fun x y h => (f100eq N x).trans h)
end Go.Proofs


namespace Go.Proofs
open Go.Al
noncomputable def f43i : Tm := ⟨[0, 1], [], [.agg [.v (.list T0), .v T1, .v T3, .v (.list T4)], .one (.v (.list T0))]⟩
noncomputable def f43iv : Vw f43i := { Y := Yls × Ylp × Ylc × Ylg × Yls, fromT := fun t => (t.1.1, t.1.2.1, t.1.2.2.1, t.1.2.2.2.1, t.2.1), outT := fun y => ((y.1, y.2.1, y.2.2.1, y.2.2.2.1, ()), y.2.2.2.2, ()), inv := fun _ => rfl }
noncomputable def f43o : Tm := ⟨[0, 1, 2], [], [.one (.v (.int .i64)), .one (.v (.int .i64)), .one (.v (.int .i64))]⟩
noncomputable def f43ov : Vw f43o := { Y := Int × Int × Int, fromT := fun t => (t.1, t.2.1, t.2.2.1), outT := fun y => (y.1, y.2.1, y.2.2, ()), inv := fun _ => rfl }
@[reducible] noncomputable def f43c : Code := bodyOf Try.f43
noncomputable def f43calls (N : Nat) : List (Nat × CallS) := [(99, f99call N), (100, f100call N)]
theorem f43callsOk (N : Nat) : CallsOk Try.prog (callsL (f43calls N)) := (callsL_cons (fun _ => Enters.of (fn := Try.f99) (by kernel_rfl) (by kernel_rfl) (by kernel_rfl)) (f99ok N) (callsL_cons (fun _ => Enters.of (fn := Try.f100) (by kernel_rfl) (by kernel_rfl) (by kernel_rfl)) (f100ok N) callsL_nil))
@[reducible] noncomputable def f43l0c : Code := loopOf (codeOf (f43c) 58)
@[reducible] noncomputable def f43l1c : Code := loopOf (codeOf (f43l0c) 50)
noncomputable def f43l1t : Tm := ⟨[1, 2, 7, 8, 9, 10, 11], [(.box 2)], [.one (.v (.list T0)), .one (.ptr (.box 2) 0 4), .one (.v (.int .i64)), .one (.v (.int .i64)), .one (.v (.int .i64)), .one (.v (.int .i64)), .one (.v (.int .i64)), .agg [.v (.list T0), .v T1, .v T3, .v (.list T4)]]⟩
noncomputable def f43l1tv : Vw f43l1t := { Y := Yls × Int × Int × Int × Int × Int × Yls × Ylp × Ylc × Ylg, fromT := fun t => (t.1, t.2.2.1, t.2.2.2.1, t.2.2.2.2.1, t.2.2.2.2.2.1, t.2.2.2.2.2.2.1, t.2.2.2.2.2.2.2.1.1, t.2.2.2.2.2.2.2.1.2.1, t.2.2.2.2.2.2.2.1.2.2.1, t.2.2.2.2.2.2.2.1.2.2.2.1), outT := fun y => (y.1, (), y.2.1, y.2.2.1, y.2.2.2.1, y.2.2.2.2.1, y.2.2.2.2.2.1, (y.2.2.2.2.2.2.1, y.2.2.2.2.2.2.2.1, y.2.2.2.2.2.2.2.2.1, y.2.2.2.2.2.2.2.2.2, ()), ()), inv := fun _ => rfl }
noncomputable def f43l1e0 : Tm := ⟨[1, 2, 7, 8, 9, 10], [(.box 2)], [.one (.v (.list T0)), .one (.ptr (.box 2) 0 4), .one (.v (.int .i64)), .one (.v (.int .i64)), .one (.v (.int .i64)), .one (.v (.int .i64)), .agg [.v (.list T0), .v T1, .v T3, .v (.list T4)]]⟩
noncomputable def f43l1e0v : Vw f43l1e0 := { Y := Yls × Int × Int × Int × Int × Yls × Ylp × Ylc × Ylg, fromT := fun t => (t.1, t.2.2.1, t.2.2.2.1, t.2.2.2.2.1, t.2.2.2.2.2.1, t.2.2.2.2.2.2.1.1, t.2.2.2.2.2.2.1.2.1, t.2.2.2.2.2.2.1.2.2.1, t.2.2.2.2.2.2.1.2.2.2.1), outT := fun y => (y.1, (), y.2.1, y.2.2.1, y.2.2.2.1, y.2.2.2.2.1, (y.2.2.2.2.2.1, y.2.2.2.2.2.2.1, y.2.2.2.2.2.2.2.1, y.2.2.2.2.2.2.2.2, ()), ()), inv := fun _ => rfl }
@[reducible] noncomputable def f43l1E : List Ex := [⟨(.ext 2), f43l1e0, f43l1e0v⟩]
noncomputable def f43l1B (N : Nat) (go : Yls → Int → Int → Int → Int → Int → Yls → Ylp → Ylc → Ylg → Option (Yls × Int × Int × Int × Int × Yls × Ylp × Ylc × Ylg)) (x0 : Yls) (x1 : Int) (x2 : Int) (x3 : Int) (x4 : Int) (x5 : Int) (x6 : Yls) (x7 : Ylp) (x8 : Ylc) (x9 : Ylg) : Option (Yls × Int × Int × Int × Int × Yls × Ylp × Ylc × Ylg) := (if (decide (x5 ≤ (1000 : Int))) = true then (andThen (f100 N x6 x7 x8 x9 x0 x4 x5 false) fun y2 => (andThen (f100 N x6 x7 x8 x9 x0 x4 x5 true) fun y3 => (if (decide ((if (y3 > y2) then y3 else y2) < x3)) = true then (go x0 x4 x5 (if (y3 > y2) then y3 else y2) x4 (Go.IntKind.wrap .i64 (x5 + (1 : Int))) x6 x7 x8 x9) else (go x0 x1 x2 x3 x4 (Go.IntKind.wrap .i64 (x5 + (1 : Int))) x6 x7 x8 x9)))) else (some (x0, x1, x2, x3, x4, x6, x7, x8, x9)))
noncomputable def f43l1 (N : Nat) : Nat → Yls → Int → Int → Int → Int → Int → Yls → Ylp → Ylc → Ylg → Option (Yls × Int × Int × Int × Int × Yls × Ylp × Ylc × Ylg) | 0 => fun _ _ _ _ _ _ _ _ _ _ => none | q + 1 => f43l1B N (f43l1 N q)
noncomputable def f43l1o (N : Nat) : List (Nat × Orc) := []
theorem f43l1eq (N : Nat) (go : Yls → Int → Int → Int → Int → Int → Yls → Ylp → Ylc → Ylg → Option (Yls × Int × Int × Int × Int × Yls × Ylp × Ylc × Ylg)) (x : f43l1tv.Y) : codeK Try.prog hint (callsL (f43calls N)) (orcsL (f43l1o N)) 47 f43l1c 1 (f43l1tv.enc x) (loopK f43l1tv f43l1E (fun x => go x.1 x.2.1 x.2.2.1 x.2.2.2.1 x.2.2.2.2.1 x.2.2.2.2.2.1 x.2.2.2.2.2.2.1 x.2.2.2.2.2.2.2.1 x.2.2.2.2.2.2.2.2.1 x.2.2.2.2.2.2.2.2.2)) = f43l1B N go x.1 x.2.1 x.2.2.1 x.2.2.2.1 x.2.2.2.2.1 x.2.2.2.2.2.1 x.2.2.2.2.2.2.1 x.2.2.2.2.2.2.2.1 x.2.2.2.2.2.2.2.2.1 x.2.2.2.2.2.2.2.2.2 := by kernel_rfl
theorem f43l1oOk (N : Nat) : OrcsOk Try.prog false 47 f43l1c (orcsL (f43l1o N)) := orcsL_nil
theorem f43l1ok (N : Nat) (M : Nat) : OrcOk Try.prog false 47 (.loop f43l1c) (cutOrc f43l1tv f43l1E (fun x => f43l1 N M x.1 x.2.1 x.2.2.1 x.2.2.2.1 x.2.2.2.2.1 x.2.2.2.2.2.1 x.2.2.2.2.2.2.1 x.2.2.2.2.2.2.2.1 x.2.2.2.2.2.2.2.2.1 x.2.2.2.2.2.2.2.2.2)) := loop_ok mixed eqOk (f43callsOk N) (f43l1oOk N) (fun _ => rfl) (fun q x o h => (f43l1eq N (f43l1 N q) x).trans h) M
noncomputable def f43l0t : Tm := ⟨[1, 2, 7, 8, 9, 10], [(.box 2)], [.one (.v (.list T0)), .one (.ptr (.box 2) 0 4), .one (.v (.int .i64)), .one (.v (.int .i64)), .one (.v (.int .i64)), .one (.v (.int .i64)), .agg [.v (.list T0), .v T1, .v T3, .v (.list T4)]]⟩
noncomputable def f43l0tv : Vw f43l0t := { Y := Yls × Int × Int × Int × Int × Yls × Ylp × Ylc × Ylg, fromT := fun t => (t.1, t.2.2.1, t.2.2.2.1, t.2.2.2.2.1, t.2.2.2.2.2.1, t.2.2.2.2.2.2.1.1, t.2.2.2.2.2.2.1.2.1, t.2.2.2.2.2.2.1.2.2.1, t.2.2.2.2.2.2.1.2.2.2.1), outT := fun y => (y.1, (), y.2.1, y.2.2.1, y.2.2.2.1, y.2.2.2.2.1, (y.2.2.2.2.2.1, y.2.2.2.2.2.2.1, y.2.2.2.2.2.2.2.1, y.2.2.2.2.2.2.2.2, ()), ()), inv := fun _ => rfl }
noncomputable def f43l0e0 : Tm := ⟨[7, 8, 9], [], [.one (.v (.int .i64)), .one (.v (.int .i64)), .one (.v (.int .i64))]⟩
noncomputable def f43l0e0v : Vw f43l0e0 := { Y := Int × Int × Int, fromT := fun t => (t.1, t.2.1, t.2.2.1), outT := fun y => (y.1, y.2.1, y.2.2, ()), inv := fun _ => rfl }
@[reducible] noncomputable def f43l0E : List Ex := [⟨(.ext 0), f43l0e0, f43l0e0v⟩]
noncomputable def f43l0B (N : Nat) (go : Yls → Int → Int → Int → Int → Yls → Ylp → Ylc → Ylg → Option (Int × Int × Int)) (x0 : Yls) (x1 : Int) (x2 : Int) (x3 : Int) (x4 : Int) (x5 : Yls) (x6 : Ylp) (x7 : Ylc) (x8 : Ylg) : Option (Int × Int × Int) := (if (decide (x4 < ((List.length x0 : Nat) : Int))) = true then (andThen (f43l1 N N x0 x1 x2 x3 x4 (1 : Int) x5 x6 x7 x8) fun y4 => (go y4.1 y4.2.1 y4.2.2.1 y4.2.2.2.1 (Go.IntKind.wrap .i64 (y4.2.2.2.2.1 + (1 : Int))) y4.2.2.2.2.2.1 y4.2.2.2.2.2.2.1 y4.2.2.2.2.2.2.2.1 y4.2.2.2.2.2.2.2.2)) else (some (x1, x2, x3)))
noncomputable def f43l0 (N : Nat) : Nat → Yls → Int → Int → Int → Int → Yls → Ylp → Ylc → Ylg → Option (Int × Int × Int) | 0 => fun _ _ _ _ _ _ _ _ _ => none | q + 1 => f43l0B N (f43l0 N q)
noncomputable def f43l0o (N : Nat) : List (Nat × Orc) := [(50, cutOrc f43l1tv f43l1E (fun x => f43l1 N N x.1 x.2.1 x.2.2.1 x.2.2.2.1 x.2.2.2.2.1 x.2.2.2.2.2.1 x.2.2.2.2.2.2.1 x.2.2.2.2.2.2.2.1 x.2.2.2.2.2.2.2.2.1 x.2.2.2.2.2.2.2.2.2))]
theorem f43l0eq (N : Nat) (go : Yls → Int → Int → Int → Int → Yls → Ylp → Ylc → Ylg → Option (Int × Int × Int)) (x : f43l0tv.Y) : codeK Try.prog hint (callsL (f43calls N)) (orcsL (f43l0o N)) 47 f43l0c 1 (f43l0tv.enc x) (loopK f43l0tv f43l0E (fun x => go x.1 x.2.1 x.2.2.1 x.2.2.2.1 x.2.2.2.2.1 x.2.2.2.2.2.1 x.2.2.2.2.2.2.1 x.2.2.2.2.2.2.2.1 x.2.2.2.2.2.2.2.2)) = f43l0B N go x.1 x.2.1 x.2.2.1 x.2.2.2.1 x.2.2.2.2.1 x.2.2.2.2.2.1 x.2.2.2.2.2.2.1 x.2.2.2.2.2.2.2.1 x.2.2.2.2.2.2.2.2 := by kernel_rfl
theorem f43l0oOk (N : Nat) : OrcsOk Try.prog false 47 f43l0c (orcsL (f43l0o N)) := (orcsL_cons (c := .loop f43l1c) (by kernel_rfl) (f43l1ok N N) orcsL_nil)
theorem f43l0ok (N : Nat) (M : Nat) : OrcOk Try.prog false 47 (.loop f43l0c) (cutOrc f43l0tv f43l0E (fun x => f43l0 N M x.1 x.2.1 x.2.2.1 x.2.2.2.1 x.2.2.2.2.1 x.2.2.2.2.2.1 x.2.2.2.2.2.2.1 x.2.2.2.2.2.2.2.1 x.2.2.2.2.2.2.2.2)) := loop_ok mixed eqOk (f43callsOk N) (f43l0oOk N) (fun _ => rfl) (fun q x o h => (f43l0eq N (f43l0 N q) x).trans h) M
noncomputable def f43 (N : Nat) (x0 : Yls) (x1 : Ylp) (x2 : Ylc) (x3 : Ylg) (x4 : Yls) : Option (Int × Int × Int) := (andThen (f99 N x4) fun y1 => (andThen (f43l0 N N x4 (0 : Int) (0 : Int) y1 (0 : Int) x0 x1 x2 x3) fun y5 => (some (y5.1, y5.2.1, y5.2.2))))
noncomputable def f43orc (N : Nat) : List (Nat × Orc) := [(58, cutOrc f43l0tv f43l0E (fun x => f43l0 N N x.1 x.2.1 x.2.2.1 x.2.2.2.1 x.2.2.2.2.1 x.2.2.2.2.2.1 x.2.2.2.2.2.2.1 x.2.2.2.2.2.2.2.1 x.2.2.2.2.2.2.2.2))]
theorem f43eq (N : Nat) (x : f43iv.Y) : codeK Try.prog hint (callsL (f43calls N)) (orcsL (f43orc N)) 47 f43c 1 (f43iv.enc x) (fnKv Try.prog [.tmp 4, .tmp 5, .tmp 6] f43ov) = f43 N x.1 x.2.1 x.2.2.1 x.2.2.2.1 x.2.2.2.2 := by kernel_rfl
theorem f43orcOk (N : Nat) : OrcsOk Try.prog false 47 f43c (orcsL (f43orc N)) := (orcsL_cons (c := .loop f43l0c) (by kernel_rfl) (f43l0ok N N) orcsL_nil)
noncomputable def f43call (N : Nat) : CallS := callOf 47 f43iv f43ov (fun x => f43 N x.1 x.2.1 x.2.2.1 x.2.2.2.1 x.2.2.2.2)
theorem f43ok (N : Nat) : CallOk Try.prog 43 (f43call N) := fn_ok (g := 43) (fn := Try.f43) (body := f43c) (n := 47) (rs := [.tmp 4, .tmp 5, .tmp 6]) mixed eqOk (f43callsOk N) (by kernel_rfl) (by kernel_rfl) (by kernel_rfl) (by kernel_rfl) (f43orcOk N) (by kernel_rfl) (Vi := f43iv) (Vo := f43ov) (F := fun x => f43 N x.1 x.2.1 x.2.2.1 x.2.2.2.1 x.2.2.2.2) (fun x y h => (f43eq N x).trans h)
end Go.Proofs


namespace Go.Proofs
open Go.Al
noncomputable def f83i : Tm := ⟨[0], [], [.agg [.v (.int .i64), .v (.int .i64)]]⟩
noncomputable def f83iv : Vw f83i := { Y := Int × Int, fromT := fun t => (t.1.1, t.1.2.1), outT := fun y => ((y.1, y.2, ()), ()), inv := fun _ => rfl }
noncomputable def f83o : Tm := ⟨[0], [], [.one (.v .bool)]⟩
noncomputable def f83ov : Vw f83o := { Y := Bool, fromT := fun t => t.1, outT := fun y => (y, ()), inv := fun _ => rfl }
@[reducible] noncomputable def f83c : Code := bodyOf Try.f83
noncomputable def f83calls (N : Nat) : List (Nat × CallS) := [(65, f65call N)]
theorem f83callsOk (N : Nat) : CallsOk Try.prog (callsL (f83calls N)) := (callsL_cons (fun _ => Enters.of (fn := Try.f65) (by kernel_rfl) (by kernel_rfl) (by kernel_rfl)) (f65ok N) callsL_nil)
noncomputable def f83 (N : Nat) (x0 : Int) (x1 : Int) : Option (Bool) := (andThen (f65 N x0 x1) fun y1 => (some (!y1)))
noncomputable def f83orc (N : Nat) : List (Nat × Orc) := []
theorem f83eq (N : Nat) (x : f83iv.Y) : codeK Try.prog hint (callsL (f83calls N)) (orcsL (f83orc N)) 6 f83c 1 (f83iv.enc x) (fnKv Try.prog [.tmp 2] f83ov) = f83 N x.1 x.2 := by kernel_rfl
theorem f83orcOk (N : Nat) : OrcsOk Try.prog false 6 f83c (orcsL (f83orc N)) := orcsL_nil
noncomputable def f83call (N : Nat) : CallS := callOf 6 f83iv f83ov (fun x => f83 N x.1 x.2)
theorem f83ok (N : Nat) : CallOk Try.prog 83 (f83call N) := fn_ok (g := 83) (fn := Try.f83) (body := f83c) (n := 6) (rs := [.tmp 2]) mixed eqOk (f83callsOk N) (by kernel_rfl) (by kernel_rfl) (by kernel_rfl) (by kernel_rfl) (f83orcOk N) (by kernel_rfl) (Vi := f83iv) (Vo := f83ov) (F := fun x => f83 N x.1 x.2) (fun x y h => (f83eq N x).trans h)
end Go.Proofs


namespace Go.Proofs
open Go.Al
noncomputable def f107i : Tm := ⟨[0, 1], [], [.one (.v (.list T0)), .one (.fn 83 [])]⟩
noncomputable def f107iv : Vw f107i := { Y := Yls, fromT := fun t => t.1, outT := fun y => (y, (), ()), inv := fun _ => rfl }
noncomputable def f107o : Tm := ⟨[0], [], [.one (.v (.int .i64))]⟩
noncomputable def f107ov : Vw f107o := { Y := Int, fromT := fun t => t.1, outT := fun y => (y, ()), inv := fun _ => rfl }
@[reducible] noncomputable def f107c : Code := bodyOf Try.f107
noncomputable def f107calls (N : Nat) : List (Nat × CallS) := [(83, f83call N)]
theorem f107callsOk (N : Nat) : CallsOk Try.prog (callsL (f107calls N)) := (callsL_cons (fun _ => Enters.of (fn := Try.f83) (by kernel_rfl) (by kernel_rfl) (by kernel_rfl)) (f83ok N) callsL_nil)
@[reducible] noncomputable def f107l0c : Code := loopOf (codeOf (f107c) 26)
noncomputable def f107l0t : Tm := ⟨[0, 1, 7, 8], [], [.one (.v (.list T0)), .one (.fn 83 []), .one (.v (.int .i64)), .one (.v (.int .i64))]⟩
noncomputable def f107l0tv : Vw f107l0t := { Y := Yls × Int × Int, fromT := fun t => (t.1, t.2.2.1, t.2.2.2.1), outT := fun y => (y.1, (), y.2.1, y.2.2, ()), inv := fun _ => rfl }
noncomputable def f107l0e0 : Tm := ⟨[4], [], [.one (.v (.int .i64))]⟩
noncomputable def f107l0e0v : Vw f107l0e0 := { Y := Int, fromT := fun t => t.1, outT := fun y => (y, ()), inv := fun _ => rfl }
noncomputable def f107l0e1 : Tm := ⟨[], [], []⟩
noncomputable def f107l0e1v : Vw f107l0e1 := { Y := Unit, fromT := fun _ => (), outT := fun _ => (), inv := fun _ => rfl }
@[reducible] noncomputable def f107l0E : List Ex := [⟨.ret, f107l0e0, f107l0e0v⟩, ⟨(.ext 0), f107l0e1, f107l0e1v⟩]
noncomputable def f107l0B (N : Nat) (go : Yls → Int → Int → Option (((Int) ⊕ Unit))) (x0 : Yls) (x1 : Int) (x2 : Int) : Option (((Int) ⊕ Unit)) := (if (decide (x2 < x1)) = true then (if ((decide ((0 : Int) ≤ x2)) && (decide (x2 < ((List.length x0 : Nat) : Int)))) = true then (andThen (f83 N (List.getD x0 (Int.toNat x2) ((0 : Int), (0 : Int))).1 (List.getD x0 (Int.toNat x2) ((0 : Int), (0 : Int))).2) fun y1 => (if y1 = true then (some (Sum.inl x2)) else (go x0 x1 (Go.IntKind.wrap .i64 (x2 + (1 : Int)))))) else none) else (some (Sum.inr ())))
noncomputable def f107l0 (N : Nat) : Nat → Yls → Int → Int → Option (((Int) ⊕ Unit)) | 0 => fun _ _ _ => none | q + 1 => f107l0B N (f107l0 N q)
noncomputable def f107l0o (N : Nat) : List (Nat × Orc) := []
theorem f107l0eq (N : Nat) (go : Yls → Int → Int → Option (((Int) ⊕ Unit))) (x : f107l0tv.Y) : codeK Try.prog hint (callsL (f107calls N)) (orcsL (f107l0o N)) 19 f107l0c 1 (f107l0tv.enc x) (loopK f107l0tv f107l0E (fun x => go x.1 x.2.1 x.2.2)) = f107l0B N go x.1 x.2.1 x.2.2 := by kernel_rfl
theorem f107l0oOk (N : Nat) : OrcsOk Try.prog false 19 f107l0c (orcsL (f107l0o N)) := orcsL_nil
theorem f107l0ok (N : Nat) (M : Nat) : OrcOk Try.prog false 19 (.loop f107l0c) (cutOrc f107l0tv f107l0E (fun x => f107l0 N M x.1 x.2.1 x.2.2)) := loop_ok mixed eqOk (f107callsOk N) (f107l0oOk N) (fun _ => rfl) (fun q x o h => (f107l0eq N (f107l0 N q) x).trans h) M
noncomputable def f107 (N : Nat) (x0 : Yls) : Option (Int) := (andThen (f107l0 N N x0 ((List.length x0 : Nat) : Int) (0 : Int)) fun y2 => (either y2 (fun a3 => (some a3)) (fun b4 => (some (-1 : Int)))))
noncomputable def f107orc (N : Nat) : List (Nat × Orc) := [(26, cutOrc f107l0tv f107l0E (fun x => f107l0 N N x.1 x.2.1 x.2.2))]
theorem f107eq (N : Nat) (x : f107iv.Y) : codeK Try.prog hint (callsL (f107calls N)) (orcsL (f107orc N)) 19 f107c 1 (f107iv.enc x) (fnKv Try.prog [.tmp 4] f107ov) = f107 N x := by kernel_rfl
theorem f107orcOk (N : Nat) : OrcsOk Try.prog false 19 f107c (orcsL (f107orc N)) := (orcsL_cons (c := .loop f107l0c) (by kernel_rfl) (f107l0ok N N) orcsL_nil)
noncomputable def f107call (N : Nat) : CallS := callOf 19 f107iv f107ov (fun x => f107 N x)
theorem f107ok (N : Nat) : CallOk Try.prog 107 (f107call N) := fn_ok (g := 107) (fn := Try.f107) (body := f107c) (n := 19) (rs := [.tmp 4]) mixed eqOk (f107callsOk N) (by kernel_rfl) (by kernel_rfl) (by kernel_rfl) (by kernel_rfl) (f107orcOk N) (by kernel_rfl) (Vi := f107iv) (Vo := f107ov) (F := fun x => f107 N x) (fun x y h => (f107eq N x).trans h)
end Go.Proofs


namespace Go.Proofs
open Go.Al
noncomputable def f82i : Tm := ⟨[0, 1], [], [.one (.v (.list T0)), .one (.fn 83 [])]⟩
noncomputable def f82iv : Vw f82i := { Y := Yls, fromT := fun t => t.1, outT := fun y => (y, (), ()), inv := fun _ => rfl }
noncomputable def f82o : Tm := ⟨[0], [], [.one (.v .bool)]⟩
noncomputable def f82ov : Vw f82o := { Y := Bool, fromT := fun t => t.1, outT := fun y => (y, ()), inv := fun _ => rfl }
@[reducible] noncomputable def f82c : Code := bodyOf Try.f82
noncomputable def f82calls (N : Nat) : List (Nat × CallS) := [(107, f107call N)]
theorem f82callsOk (N : Nat) : CallsOk Try.prog (callsL (f82calls N)) := (callsL_cons (fun _ => Enters.of (fn := Try.f107) (by kernel_rfl) (by kernel_rfl) (by kernel_rfl)) (f107ok N) callsL_nil)
noncomputable def f82 (N : Nat) (x0 : Yls) : Option (Bool) := (andThen (f107 N x0) fun y1 => (some (decide (y1 ≥ (0 : Int)))))
noncomputable def f82orc (N : Nat) : List (Nat × Orc) := []
theorem f82eq (N : Nat) (x : f82iv.Y) : codeK Try.prog hint (callsL (f82calls N)) (orcsL (f82orc N)) 9 f82c 1 (f82iv.enc x) (fnKv Try.prog [.tmp 4] f82ov) = f82 N x := by kernel_rfl
theorem f82orcOk (N : Nat) : OrcsOk Try.prog false 9 f82c (orcsL (f82orc N)) := orcsL_nil
noncomputable def f82call (N : Nat) : CallS := callOf 9 f82iv f82ov (fun x => f82 N x)
theorem f82ok (N : Nat) : CallOk Try.prog 82 (f82call N) := fn_ok (g := 82) (fn := Try.f82) (body := f82c) (n := 9) (rs := [.tmp 4]) mixed eqOk (f82callsOk N) (by kernel_rfl) (by kernel_rfl) (by kernel_rfl) (by kernel_rfl) (f82orcOk N) (by kernel_rfl) (Vi := f82iv) (Vo := f82ov) (F := fun x => f82 N x) (fun x y h => (f82eq N x).trans h)
end Go.Proofs


namespace Go.Proofs
open Go.Al
noncomputable def f84i : Tm := ⟨[0, 1, 2], [(.outer 0), (.outer 1)], [.one (.v (.int .i64)), .one (.ptr (.outer 0) 0 2), .one (.ptr (.outer 1) 0 10), .agg [.v (.int .i64), .v (.int .i64)], .arr (.int .i64) 10]⟩
noncomputable def f84iv : Vw f84i := { Y := Int × Int × Int × List Int, fromT := fun t => (t.1, t.2.2.2.1.1, t.2.2.2.1.2.1, t.2.2.2.2.1), outT := fun y => (y.1, (), (), (y.2.1, y.2.2.1, ()), y.2.2.2, ()), inv := fun _ => rfl }
noncomputable def f84o : Tm := ⟨[0, 1], [(.outer 0), (.outer 1)], [.one (.v .bool), .one (.v .bool), .agg [.v (.int .i64), .v (.int .i64)], .arr (.int .i64) 10]⟩
noncomputable def f84ov : Vw f84o := { Y := Bool × Bool × Int × Int × List Int, fromT := fun t => (t.1, t.2.1, t.2.2.1.1, t.2.2.1.2.1, t.2.2.2.1), outT := fun y => (y.1, y.2.1, (y.2.2.1, y.2.2.2.1, ()), y.2.2.2.2, ()), inv := fun _ => rfl }
@[reducible] noncomputable def f84c : Code := bodyOf Try.f84
noncomputable def f84calls (N : Nat) : List (Nat × CallS) := [(76, f76call N)]
theorem f84callsOk (N : Nat) : CallsOk Try.prog (callsL (f84calls N)) := (callsL_cons (fun _ => Enters.of (fn := Try.f76) (by kernel_rfl) (by kernel_rfl) (by kernel_rfl)) (f76ok N) callsL_nil)
noncomputable def f84 (N : Nat) (x0 : Int) (x1 : Int) (x2 : Int) (x3 : List Int) : Option (Bool × Bool × Int × Int × List Int) := (if ((decide ((0 : Int) ≤ x0)) && (decide (x0 < (5 : Int)))) = true then (andThen (f76 N x1 x2 (List.getD x3 ((0 + ((Int.toNat x0) * 2)) + 0) (0 : Int)) (List.getD x3 ((0 + ((Int.toNat x0) * 2)) + 1) (0 : Int))) fun y1 => (some (y1.1, y1.2, x1, x2, x3))) else none)
noncomputable def f84orc (N : Nat) : List (Nat × Orc) := []
theorem f84eq (N : Nat) (x : f84iv.Y) : codeK Try.prog hint (callsL (f84calls N)) (orcsL (f84orc N)) 13 f84c 1 (f84iv.enc x) (fnKv Try.prog [.tmp 4, .tmp 5] f84ov) = f84 N x.1 x.2.1 x.2.2.1 x.2.2.2 := by kernel_rfl
theorem f84orcOk (N : Nat) : OrcsOk Try.prog false 13 f84c (orcsL (f84orc N)) := orcsL_nil
noncomputable def f84call (N : Nat) : CallS := callOf 13 f84iv f84ov (fun x => f84 N x.1 x.2.1 x.2.2.1 x.2.2.2)
theorem f84ok (N : Nat) : CallOk Try.prog 84 (f84call N) := fn_ok (g := 84) (fn := Try.f84) (body := f84c) (n := 13) (rs := [.tmp 4, .tmp 5]) mixed eqOk (f84callsOk N) (by kernel_rfl) (by kernel_rfl) (by kernel_rfl) (by kernel_rfl) (f84orcOk N) (by kernel_rfl) (Vi := f84iv) (Vo := f84ov) (F := fun x => f84 N x.1 x.2.1 x.2.2.1 x.2.2.2) (fun x y h => (f84eq N x).trans h)
end Go.Proofs


namespace Go.Proofs
open Go.Al
noncomputable def f74bi : Tm := ⟨[0, 1], [(.outer 0), (.outer 1)], [.agg [.v (.list T0), .v T1, .v T3, .v (.list T4), .v (.list T5)], .one (.fn 84 [(.outer 0), (.outer 1)]), .agg [.v (.int .i64), .v (.int .i64)], .arr (.int .i64) 10]⟩
noncomputable def f74biv : Vw f74bi := { Y := Yls × Ylp × Ylc × Ylg × Yln × Int × Int × List Int, fromT := fun t => (t.1.1, t.1.2.1, t.1.2.2.1, t.1.2.2.2.1, t.1.2.2.2.2.1, t.2.2.1.1, t.2.2.1.2.1, t.2.2.2.1), outT := fun y => ((y.1, y.2.1, y.2.2.1, y.2.2.2.1, y.2.2.2.2.1, ()), (), (y.2.2.2.2.2.1, y.2.2.2.2.2.2.1, ()), y.2.2.2.2.2.2.2, ()), inv := fun _ => rfl }
noncomputable def f74bo : Tm := ⟨[0, 1], [(.outer 0), (.outer 1)], [.one (.own 4096 (.int .i64)), .one (.own 4097 (.int .i64)), .agg [.v (.int .i64), .v (.int .i64)], .arr (.int .i64) 10]⟩
noncomputable def f74bov : Vw f74bo := { Y := Yli × Yli × Int × Int × List Int, fromT := fun t => (t.1, t.2.1, t.2.2.1.1, t.2.2.1.2.1, t.2.2.2.1), outT := fun y => (y.1, y.2.1, (y.2.2.1, y.2.2.2.1, ()), y.2.2.2.2, ()), inv := fun _ => rfl }
@[reducible] noncomputable def f74bc : Code := bodyOf Try.f74
noncomputable def f74bcalls (N : Nat) : List (Nat × CallS) := [(84, f84call N)]
theorem f74bcallsOk (N : Nat) : CallsOk Try.prog (callsL (f74bcalls N)) := (callsL_cons (fun _ => Enters.of (fn := Try.f84) (by kernel_rfl) (by kernel_rfl) (by kernel_rfl)) (f84ok N) callsL_nil)
@[reducible] noncomputable def f74bl0c : Code := loopOf (codeOf (f74bc) 26)
noncomputable def f74bl0t : Tm := ⟨[1, 4, 5, 12, 13], [(.outer 0), (.outer 1)], [.one (.fn 84 [(.outer 0), (.outer 1)]), .one (.own 1000000 (.int .i64)), .one (.own 1000001 (.int .i64)), .one (.v (.int .i64)), .one (.v (.int .i64)), .agg [.v (.int .i64), .v (.int .i64)], .arr (.int .i64) 10]⟩
noncomputable def f74bl0tv : Vw f74bl0t := { Y := Yli × Yli × Int × Int × Int × Int × List Int, fromT := fun t => (t.2.1, t.2.2.1, t.2.2.2.1, t.2.2.2.2.1, t.2.2.2.2.2.1.1, t.2.2.2.2.2.1.2.1, t.2.2.2.2.2.2.1), outT := fun y => ((), y.1, y.2.1, y.2.2.1, y.2.2.2.1, (y.2.2.2.2.1, y.2.2.2.2.2.1, ()), y.2.2.2.2.2.2, ()), inv := fun _ => rfl }
noncomputable def f74bl0e0 : Tm := ⟨[4, 5], [(.outer 0), (.outer 1)], [.one (.own 1000000 (.int .i64)), .one (.own 1000001 (.int .i64)), .agg [.v (.int .i64), .v (.int .i64)], .arr (.int .i64) 10]⟩
noncomputable def f74bl0e0v : Vw f74bl0e0 := { Y := Yli × Yli × Int × Int × List Int, fromT := fun t => (t.1, t.2.1, t.2.2.1.1, t.2.2.1.2.1, t.2.2.2.1), outT := fun y => (y.1, y.2.1, (y.2.2.1, y.2.2.2.1, ()), y.2.2.2.2, ()), inv := fun _ => rfl }
@[reducible] noncomputable def f74bl0E : List Ex := [⟨(.ext 0), f74bl0e0, f74bl0e0v⟩]
noncomputable def f74bl0B (N : Nat) (go : Yli → Yli → Int → Int → Int → Int → List Int → Option (Yli × Yli × Int × Int × List Int)) (x0 : Yli) (x1 : Yli) (x2 : Int) (x3 : Int) (x4 : Int) (x5 : Int) (x6 : List Int) : Option (Yli × Yli × Int × Int × List Int) := (if (decide (x3 < x2)) = true then (andThen (f84 N x3 x4 x5 x6) fun y1 => (if y1.1 = true then (if (Nat.ble ((List.length x0) + (List.length ([x3] : List Int))) Go.Al.boundLen) = true then (if y1.2.1 = true then (if (Nat.ble ((List.length x1) + (List.length ([x3] : List Int))) Go.Al.boundLen) = true then (go (x0 ++ ([x3] : List Int)) (x1 ++ ([x3] : List Int)) x2 (Go.IntKind.wrap .i64 (x3 + (1 : Int))) y1.2.2.1 y1.2.2.2.1 y1.2.2.2.2) else none) else (go (x0 ++ ([x3] : List Int)) x1 x2 (Go.IntKind.wrap .i64 (x3 + (1 : Int))) y1.2.2.1 y1.2.2.2.1 y1.2.2.2.2)) else none) else (if y1.2.1 = true then (if (Nat.ble ((List.length x1) + (List.length ([x3] : List Int))) Go.Al.boundLen) = true then (go x0 (x1 ++ ([x3] : List Int)) x2 (Go.IntKind.wrap .i64 (x3 + (1 : Int))) y1.2.2.1 y1.2.2.2.1 y1.2.2.2.2) else none) else (go x0 x1 x2 (Go.IntKind.wrap .i64 (x3 + (1 : Int))) y1.2.2.1 y1.2.2.2.1 y1.2.2.2.2)))) else (some (x0, x1, x4, x5, x6)))
noncomputable def f74bl0 (N : Nat) : Nat → Yli → Yli → Int → Int → Int → Int → List Int → Option (Yli × Yli × Int × Int × List Int) | 0 => fun _ _ _ _ _ _ _ => none | q + 1 => f74bl0B N (f74bl0 N q)
noncomputable def f74bl0o (N : Nat) : List (Nat × Orc) := []
theorem f74bl0eq (N : Nat) (go : Yli → Yli → Int → Int → Int → Int → List Int → Option (Yli × Yli × Int × Int × List Int)) (x : f74bl0tv.Y) : codeK Try.prog hint (callsL (f74bcalls N)) (orcsL (f74bl0o N)) 35 f74bl0c 1 (f74bl0tv.enc x) (loopK f74bl0tv f74bl0E (fun x => go x.1 x.2.1 x.2.2.1 x.2.2.2.1 x.2.2.2.2.1 x.2.2.2.2.2.1 x.2.2.2.2.2.2)) = f74bl0B N go x.1 x.2.1 x.2.2.1 x.2.2.2.1 x.2.2.2.2.1 x.2.2.2.2.2.1 x.2.2.2.2.2.2 := by kernel_rfl
theorem f74bl0oOk (N : Nat) : OrcsOk Try.prog false 35 f74bl0c (orcsL (f74bl0o N)) := orcsL_nil
theorem f74bl0ok (N : Nat) (M : Nat) : OrcOk Try.prog false 35 (.loop f74bl0c) (cutOrc f74bl0tv f74bl0E (fun x => f74bl0 N M x.1 x.2.1 x.2.2.1 x.2.2.2.1 x.2.2.2.2.1 x.2.2.2.2.2.1 x.2.2.2.2.2.2)) := loop_ok mixed eqOk (f74bcallsOk N) (f74bl0oOk N) (fun _ => rfl) (fun q x o h => (f74bl0eq N (f74bl0 N q) x).trans h) M
noncomputable def f74b (N : Nat) (x0 : Yls) (x1 : Ylp) (x2 : Ylc) (x3 : Ylg) (x4 : Yln) (x5 : Int) (x6 : Int) (x7 : List Int) : Option (Yli × Yli × Int × Int × List Int) := (andThen (f74bl0 N N ([] : List Int) ([] : List Int) ((List.length x0 : Nat) : Int) (0 : Int) x5 x6 x7) fun y2 => (some (y2.1, y2.2.1, y2.2.2.1, y2.2.2.2.1, y2.2.2.2.2)))
noncomputable def f74borc (N : Nat) : List (Nat × Orc) := [(26, cutOrc f74bl0tv f74bl0E (fun x => f74bl0 N N x.1 x.2.1 x.2.2.1 x.2.2.2.1 x.2.2.2.2.1 x.2.2.2.2.2.1 x.2.2.2.2.2.2))]
theorem f74beq (N : Nat) (x : f74biv.Y) : codeK Try.prog hint (callsL (f74bcalls N)) (orcsL (f74borc N)) 35 f74bc 1 (f74biv.enc x) (fnKv Try.prog [.tmp 4, .tmp 5] f74bov) = f74b N x.1 x.2.1 x.2.2.1 x.2.2.2.1 x.2.2.2.2.1 x.2.2.2.2.2.1 x.2.2.2.2.2.2.1 x.2.2.2.2.2.2.2 := by kernel_rfl
theorem f74borcOk (N : Nat) : OrcsOk Try.prog false 35 f74bc (orcsL (f74borc N)) := (orcsL_cons (c := .loop f74bl0c) (by kernel_rfl) (f74bl0ok N N) orcsL_nil)
noncomputable def f74bcall (N : Nat) : CallS := callOf 35 f74biv f74bov (fun x => f74b N x.1 x.2.1 x.2.2.1 x.2.2.2.1 x.2.2.2.2.1 x.2.2.2.2.2.1 x.2.2.2.2.2.2.1 x.2.2.2.2.2.2.2)
theorem f74bok (N : Nat) : CallOk Try.prog 74 (f74bcall N) := fn_ok (g := 74) (fn := Try.f74) (body := f74bc) (n := 35) (rs := [.tmp 4, .tmp 5]) mixed eqOk (f74bcallsOk N) (by kernel_rfl) (by kernel_rfl) (by kernel_rfl) (by kernel_rfl) (f74borcOk N) (by kernel_rfl) (Vi := f74biv) (Vo := f74bov) (F := fun x => f74b N x.1 x.2.1 x.2.2.1 x.2.2.2.1 x.2.2.2.2.1 x.2.2.2.2.2.1 x.2.2.2.2.2.2.1 x.2.2.2.2.2.2.2) (fun x y h => (f74beq N x).trans h)
end Go.Proofs


namespace Go.Proofs
open Go.Al
noncomputable def f93i : Tm := ⟨[0], [], [.one (.vn (.int .i64))]⟩
noncomputable def f93iv : Vw f93i := { Y := (Bool × List Int), fromT := fun t => t.1, outT := fun y => (y, ()), inv := fun _ => rfl }
noncomputable def f93o : Tm := ⟨[0], [], [.one (.vn (.int .i64))]⟩
noncomputable def f93ov : Vw f93o := { Y := (Bool × List Int), fromT := fun t => t.1, outT := fun y => (y, ()), inv := fun _ => rfl }
@[reducible] noncomputable def f93c : Code := bodyOf Try.f93
noncomputable def f93calls (N : Nat) : List (Nat × CallS) := []
theorem f93callsOk (N : Nat) : CallsOk Try.prog (callsL (f93calls N)) := callsL_nil
noncomputable def f93 (N : Nat) (x0 : (Bool × List Int)) : Option ((Bool × List Int)) := (if x0.1 = true then (some (true, ([] : List Int))) else (if (Nat.ble ((List.length ([] : List Int)) + (List.length x0.2)) Go.Al.boundLen) = true then (some (false, (([] : List Int) ++ x0.2))) else none))
noncomputable def f93orc (N : Nat) : List (Nat × Orc) := []
theorem f93eq (N : Nat) (x : f93iv.Y) : codeK Try.prog hint (callsL (f93calls N)) (orcsL (f93orc N)) 8 f93c 1 (f93iv.enc x) (fnKv Try.prog [.tmp 2] f93ov) = f93 N x := by kernel_rfl
theorem f93orcOk (N : Nat) : OrcsOk Try.prog false 8 f93c (orcsL (f93orc N)) := orcsL_nil
noncomputable def f93call (N : Nat) : CallS := callOf 8 f93iv f93ov (fun x => f93 N x)
theorem f93ok (N : Nat) : CallOk Try.prog 93 (f93call N) := fn_ok (g := 93) (fn := Try.f93) (body := f93c) (n := 8) (rs := [.tmp 2]) mixed eqOk (f93callsOk N) (by kernel_rfl) (by kernel_rfl) (by kernel_rfl) (by kernel_rfl) (f93orcOk N) (by kernel_rfl) (Vi := f93iv) (Vo := f93ov) (F := fun x => f93 N x) (fun x y h => (f93eq N x).trans h)
end Go.Proofs


namespace Go.Proofs
open Go.Al
noncomputable def f108i : Tm := ⟨[0], [], [.one (.v (.list (.int .i64)))]⟩
noncomputable def f108iv : Vw f108i := { Y := Yli, fromT := fun t => t.1, outT := fun y => (y, ()), inv := fun _ => rfl }
noncomputable def f108o : Tm := ⟨[0], [], [.one (.vx (.int .i64))]⟩
noncomputable def f108ov : Vw f108o := { Y := Yli, fromT := fun t => t.1, outT := fun y => (y, ()), inv := fun _ => rfl }
@[reducible] noncomputable def f108c : Code := bodyOf Try.f108
noncomputable def f108calls (N : Nat) : List (Nat × CallS) := []
theorem f108callsOk (N : Nat) : CallsOk Try.prog (callsL (f108calls N)) := callsL_nil
noncomputable def f108 (N : Nat) (x0 : Yli) : Option (Yli) := (if ((((decide ((0 : Int) ≤ (0 : Int))) && (decide ((0 : Int) ≤ ((List.length x0 : Nat) : Int)))) && (decide (((List.length x0 : Nat) : Int) ≤ ((List.length x0 : Nat) : Int)))) && (((List.length x0 : Nat) : Int) == ((List.length x0 : Nat) : Int))) = true then (some (Go.Al.cut x0 (Int.toNat (0 : Int)) (Int.toNat ((List.length x0 : Nat) : Int)))) else none)
noncomputable def f108orc (N : Nat) : List (Nat × Orc) := []
theorem f108eq (N : Nat) (x : f108iv.Y) : codeK Try.prog hint (callsL (f108calls N)) (orcsL (f108orc N)) 9 f108c 1 (f108iv.enc x) (fnKv Try.prog [.tmp 2] f108ov) = f108 N x := by kernel_rfl
theorem f108orcOk (N : Nat) : OrcsOk Try.prog false 9 f108c (orcsL (f108orc N)) := orcsL_nil
noncomputable def f108call (N : Nat) : CallS := callOf 9 f108iv f108ov (fun x => f108 N x)
theorem f108ok (N : Nat) : CallOk Try.prog 108 (f108call N) := fn_ok (g := 108) (fn := Try.f108) (body := f108c) (n := 9) (rs := [.tmp 2]) mixed eqOk (f108callsOk N) (by kernel_rfl) (by kernel_rfl) (by kernel_rfl) (by kernel_rfl) (f108orcOk N) (by kernel_rfl) (Vi := f108iv) (Vo := f108ov) (F := fun x => f108 N x) (fun x y h => (f108eq N x).trans h)
end Go.Proofs


namespace Go.Proofs
open Go.Al
noncomputable def f119i : Tm := ⟨[0, 1], [], [.one (.v (.list (.int .i64))), .one (.v (.int .i64))]⟩
noncomputable def f119iv : Vw f119i := { Y := Yli × Int, fromT := fun t => (t.1, t.2.1), outT := fun y => (y.1, y.2, ()), inv := fun _ => rfl }
noncomputable def f119o : Tm := ⟨[0], [], [.one (.v (.int .i64))]⟩
noncomputable def f119ov : Vw f119o := { Y := Int, fromT := fun t => t.1, outT := fun y => (y, ()), inv := fun _ => rfl }
@[reducible] noncomputable def f119c : Code := bodyOf Try.f119
noncomputable def f119calls (N : Nat) : List (Nat × CallS) := []
theorem f119callsOk (N : Nat) : CallsOk Try.prog (callsL (f119calls N)) := callsL_nil
@[reducible] noncomputable def f119l0c : Code := loopOf (codeOf (f119c) 26)
noncomputable def f119l0t : Tm := ⟨[0, 1, 7, 8], [], [.one (.v (.list (.int .i64))), .one (.v (.int .i64)), .one (.v (.int .i64)), .one (.v (.int .i64))]⟩
noncomputable def f119l0tv : Vw f119l0t := { Y := Yli × Int × Int × Int, fromT := fun t => (t.1, t.2.1, t.2.2.1, t.2.2.2.1), outT := fun y => (y.1, y.2.1, y.2.2.1, y.2.2.2, ()), inv := fun _ => rfl }
noncomputable def f119l0e0 : Tm := ⟨[4], [], [.one (.v (.int .i64))]⟩
noncomputable def f119l0e0v : Vw f119l0e0 := { Y := Int, fromT := fun t => t.1, outT := fun y => (y, ()), inv := fun _ => rfl }
noncomputable def f119l0e1 : Tm := ⟨[], [], []⟩
noncomputable def f119l0e1v : Vw f119l0e1 := { Y := Unit, fromT := fun _ => (), outT := fun _ => (), inv := fun _ => rfl }
@[reducible] noncomputable def f119l0E : List Ex := [⟨.ret, f119l0e0, f119l0e0v⟩, ⟨(.ext 0), f119l0e1, f119l0e1v⟩]
noncomputable def f119l0B (N : Nat) (go : Yli → Int → Int → Int → Option (((Int) ⊕ Unit))) (x0 : Yli) (x1 : Int) (x2 : Int) (x3 : Int) : Option (((Int) ⊕ Unit)) := (if (decide (x3 < x2)) = true then (if ((decide ((0 : Int) ≤ x3)) && (decide (x3 < ((List.length x0 : Nat) : Int)))) = true then (if (x1 == (List.getD x0 (Int.toNat x3) (0 : Int))) = true then (some (Sum.inl x3)) else (go x0 x1 x2 (Go.IntKind.wrap .i64 (x3 + (1 : Int))))) else none) else (some (Sum.inr ())))
noncomputable def f119l0 (N : Nat) : Nat → Yli → Int → Int → Int → Option (((Int) ⊕ Unit)) | 0 => fun _ _ _ _ => none | q + 1 => f119l0B N (f119l0 N q)
noncomputable def f119l0o (N : Nat) : List (Nat × Orc) := []
theorem f119l0eq (N : Nat) (go : Yli → Int → Int → Int → Option (((Int) ⊕ Unit))) (x : f119l0tv.Y) : codeK Try.prog hint (callsL (f119calls N)) (orcsL (f119l0o N)) 19 f119l0c 1 (f119l0tv.enc x) (loopK f119l0tv f119l0E (fun x => go x.1 x.2.1 x.2.2.1 x.2.2.2)) = f119l0B N go x.1 x.2.1 x.2.2.1 x.2.2.2 := by kernel_rfl
theorem f119l0oOk (N : Nat) : OrcsOk Try.prog false 19 f119l0c (orcsL (f119l0o N)) := orcsL_nil
theorem f119l0ok (N : Nat) (M : Nat) : OrcOk Try.prog false 19 (.loop f119l0c) (cutOrc f119l0tv f119l0E (fun x => f119l0 N M x.1 x.2.1 x.2.2.1 x.2.2.2)) := loop_ok mixed eqOk (f119callsOk N) (f119l0oOk N) (fun _ => rfl) (fun q x o h => (f119l0eq N (f119l0 N q) x).trans h) M
noncomputable def f119 (N : Nat) (x0 : Yli) (x1 : Int) : Option (Int) := (andThen (f119l0 N N x0 x1 ((List.length x0 : Nat) : Int) (0 : Int)) fun y1 => (either y1 (fun a2 => (some a2)) (fun b3 => (some (-1 : Int)))))
noncomputable def f119orc (N : Nat) : List (Nat × Orc) := [(26, cutOrc f119l0tv f119l0E (fun x => f119l0 N N x.1 x.2.1 x.2.2.1 x.2.2.2))]
theorem f119eq (N : Nat) (x : f119iv.Y) : codeK Try.prog hint (callsL (f119calls N)) (orcsL (f119orc N)) 19 f119c 1 (f119iv.enc x) (fnKv Try.prog [.tmp 4] f119ov) = f119 N x.1 x.2 := by kernel_rfl
theorem f119orcOk (N : Nat) : OrcsOk Try.prog false 19 f119c (orcsL (f119orc N)) := (orcsL_cons (c := .loop f119l0c) (by kernel_rfl) (f119l0ok N N) orcsL_nil)
noncomputable def f119call (N : Nat) : CallS := callOf 19 f119iv f119ov (fun x => f119 N x.1 x.2)
theorem f119ok (N : Nat) : CallOk Try.prog 119 (f119call N) := fn_ok (g := 119) (fn := Try.f119) (body := f119c) (n := 19) (rs := [.tmp 4]) mixed eqOk (f119callsOk N) (by kernel_rfl) (by kernel_rfl) (by kernel_rfl) (by kernel_rfl) (f119orcOk N) (by kernel_rfl) (Vi := f119iv) (Vo := f119ov) (F := fun x => f119 N x.1 x.2) (fun x y h => (f119eq N x).trans h)
end Go.Proofs


namespace Go.Proofs
open Go.Al
noncomputable def f109i : Tm := ⟨[0, 1], [], [.one (.v (.list (.int .i64))), .one (.v (.int .i64))]⟩
noncomputable def f109iv : Vw f109i := { Y := Yli × Int, fromT := fun t => (t.1, t.2.1), outT := fun y => (y.1, y.2, ()), inv := fun _ => rfl }
noncomputable def f109o : Tm := ⟨[0], [], [.one (.v .bool)]⟩
noncomputable def f109ov : Vw f109o := { Y := Bool, fromT := fun t => t.1, outT := fun y => (y, ()), inv := fun _ => rfl }
@[reducible] noncomputable def f109c : Code := bodyOf Try.f109
noncomputable def f109calls (N : Nat) : List (Nat × CallS) := [(119, f119call N)]
theorem f109callsOk (N : Nat) : CallsOk Try.prog (callsL (f109calls N)) := (callsL_cons (fun _ => Enters.of (fn := Try.f119) (by kernel_rfl) (by kernel_rfl) (by kernel_rfl)) (f119ok N) callsL_nil)
noncomputable def f109 (N : Nat) (x0 : Yli) (x1 : Int) : Option (Bool) := (andThen (f119 N x0 x1) fun y1 => (some (decide (y1 ≥ (0 : Int)))))
noncomputable def f109orc (N : Nat) : List (Nat × Orc) := []
theorem f109eq (N : Nat) (x : f109iv.Y) : codeK Try.prog hint (callsL (f109calls N)) (orcsL (f109orc N)) 9 f109c 1 (f109iv.enc x) (fnKv Try.prog [.tmp 4] f109ov) = f109 N x.1 x.2 := by kernel_rfl
theorem f109orcOk (N : Nat) : OrcsOk Try.prog false 9 f109c (orcsL (f109orc N)) := orcsL_nil
noncomputable def f109call (N : Nat) : CallS := callOf 9 f109iv f109ov (fun x => f109 N x.1 x.2)
theorem f109ok (N : Nat) : CallOk Try.prog 109 (f109call N) := fn_ok (g := 109) (fn := Try.f109) (body := f109c) (n := 9) (rs := [.tmp 4]) mixed eqOk (f109callsOk N) (by kernel_rfl) (by kernel_rfl) (by kernel_rfl) (by kernel_rfl) (f109orcOk N) (by kernel_rfl) (Vi := f109iv) (Vo := f109ov) (F := fun x => f109 N x.1 x.2) (fun x y h => (f109eq N x).trans h)
end Go.Proofs


namespace Go.Proofs
open Go.Al
noncomputable def f85i : Tm := ⟨[0, 1, 2], [(.outer 0)], [.one (.ptr (.outer 0) 0 3), .one (.vn (.int .i64)), .one (.v (.int .i64)), .agg [.v T6, .vn (.int .i64), .v (.int .i64)]]⟩
noncomputable def f85iv : Vw f85i := { Y := (Bool × List Int) × Int × (List Yli) × (Bool × List Int) × Int, fromT := fun t => (t.2.1, t.2.2.1, t.2.2.2.1.1, t.2.2.2.1.2.1, t.2.2.2.1.2.2.1), outT := fun y => ((), y.1, y.2.1, (y.2.2.1, y.2.2.2.1, y.2.2.2.2, ()), ()), inv := fun _ => rfl }
noncomputable def f85o : Tm := ⟨[], [(.outer 0)], [.agg [.v T6, .vn (.int .i64), .v (.int .i64)]]⟩
noncomputable def f85ov : Vw f85o := { Y := (List Yli) × (Bool × List Int) × Int, fromT := fun t => (t.1.1, t.1.2.1, t.1.2.2.1), outT := fun y => ((y.1, y.2.1, y.2.2, ()), ()), inv := fun _ => rfl }
@[reducible] noncomputable def f85c : Code := bodyOf Try.f85
noncomputable def f85calls (N : Nat) (rc : (Bool × List Int) → Int → (List Yli) → (Bool × List Int) → Int → Option ((List Yli) × (Bool × List Int) × Int)) : List (Nat × CallS) := [(93, f93call N), (108, f108call N), (85, callOf 86 f85iv f85ov (fun x => rc x.1 x.2.1 x.2.2.1 x.2.2.2.1 x.2.2.2.2)), (109, f109call N)]
theorem f85callsOk (N : Nat) (rc : (Bool × List Int) → Int → (List Yli) → (Bool × List Int) → Int → Option ((List Yli) × (Bool × List Int) × Int)) (hrc : CallOk Try.prog 85 (callOf 86 f85iv f85ov (fun x => rc x.1 x.2.1 x.2.2.1 x.2.2.2.1 x.2.2.2.2))) : CallsOk Try.prog (callsL (f85calls N rc)) := (callsL_cons (fun _ => Enters.of (fn := Try.f93) (by kernel_rfl) (by kernel_rfl) (by kernel_rfl)) (f93ok N) (callsL_cons (fun _ => Enters.of (fn := Try.f108) (by kernel_rfl) (by kernel_rfl) (by kernel_rfl)) (f108ok N) (callsL_cons (fun _ => Enters.of (fn := Try.f85) (by kernel_rfl) (by kernel_rfl) (by kernel_rfl)) hrc (callsL_cons (fun _ => Enters.of (fn := Try.f109) (by kernel_rfl) (by kernel_rfl) (by kernel_rfl)) (f109ok N) callsL_nil))))
@[reducible] noncomputable def f85l0c : Code := loopOf (codeOf (f85c) 30)
noncomputable def f85l0t : Tm := ⟨[0, 1, 2, 54, 55, 56], [(.outer 0)], [.one (.ptr (.outer 0) 0 3), .one (.v (.list (.int .i64))), .one (.v (.int .i64)), .one (.v (.list (.int .i64))), .one (.v (.int .i64)), .one (.v (.int .i64)), .agg [.v T6, .vn (.int .i64), .v (.int .i64)]]⟩
noncomputable def f85l0tv : Vw f85l0t := { Y := Yli × Int × Yli × Int × Int × (List Yli) × (Bool × List Int) × Int, fromT := fun t => (t.2.1, t.2.2.1, t.2.2.2.1, t.2.2.2.2.1, t.2.2.2.2.2.1, t.2.2.2.2.2.2.1.1, t.2.2.2.2.2.2.1.2.1, t.2.2.2.2.2.2.1.2.2.1), outT := fun y => ((), y.1, y.2.1, y.2.2.1, y.2.2.2.1, y.2.2.2.2.1, (y.2.2.2.2.2.1, y.2.2.2.2.2.2.1, y.2.2.2.2.2.2.2, ()), ()), inv := fun _ => rfl }
noncomputable def f85l0e0 : Tm := ⟨[], [(.outer 0)], [.agg [.v T6, .vn (.int .i64), .v (.int .i64)]]⟩
noncomputable def f85l0e0v : Vw f85l0e0 := { Y := (List Yli) × (Bool × List Int) × Int, fromT := fun t => (t.1.1, t.1.2.1, t.1.2.2.1), outT := fun y => ((y.1, y.2.1, y.2.2, ()), ()), inv := fun _ => rfl }
@[reducible] noncomputable def f85l0E : List Ex := [⟨(.ext 0), f85l0e0, f85l0e0v⟩]
noncomputable def f85l0B (N : Nat) (rc : (Bool × List Int) → Int → (List Yli) → (Bool × List Int) → Int → Option ((List Yli) × (Bool × List Int) × Int)) (go : Yli → Int → Yli → Int → Int → (List Yli) → (Bool × List Int) → Int → Option ((List Yli) × (Bool × List Int) × Int)) (x0 : Yli) (x1 : Int) (x2 : Yli) (x3 : Int) (x4 : Int) (x5 : (List Yli)) (x6 : (Bool × List Int)) (x7 : Int) : Option ((List Yli) × (Bool × List Int) × Int) := (if (decide (x4 < x3)) = true then (if ((decide ((0 : Int) ≤ x4)) && (decide (x4 < ((List.length x2 : Nat) : Int)))) = true then (if ((List.getD x2 (Int.toNat x4) (0 : Int)) == (-1 : Int)) = true then (andThen (f108 N x0) fun y2 => (if (Nat.ble ((List.length y2) + (List.length ([(List.getD x2 (Int.toNat x4) (0 : Int))] : List Int))) Go.Al.boundLen) = true then (andThen (rc (false, (y2 ++ ([(List.getD x2 (Int.toNat x4) (0 : Int))] : List Int))) x1 x5 (x6.1, x6.2) x7) fun y3 => (go x0 x1 x2 x3 (Go.IntKind.wrap .i64 (x4 + (1 : Int))) y3.1 (y3.2.1.1, y3.2.1.2) y3.2.2)) else none)) else (andThen (f109 N x0 (List.getD x2 (Int.toNat x4) (0 : Int))) fun y4 => (if (!y4) = true then (andThen (f108 N x0) fun y5 => (if (Nat.ble ((List.length y5) + (List.length ([(List.getD x2 (Int.toNat x4) (0 : Int))] : List Int))) Go.Al.boundLen) = true then (andThen (rc (false, (y5 ++ ([(List.getD x2 (Int.toNat x4) (0 : Int))] : List Int))) (Go.IntKind.wrap .i64 (x1 + (1 : Int))) x5 (x6.1, x6.2) x7) fun y6 => (go x0 x1 x2 x3 (Go.IntKind.wrap .i64 (x4 + (1 : Int))) y6.1 (y6.2.1.1, y6.2.1.2) y6.2.2)) else none)) else (go x0 x1 x2 x3 (Go.IntKind.wrap .i64 (x4 + (1 : Int))) x5 (x6.1, x6.2) x7)))) else none) else (some (x5, (x6.1, x6.2), x7)))
noncomputable def f85l0 (N : Nat) (rc : (Bool × List Int) → Int → (List Yli) → (Bool × List Int) → Int → Option ((List Yli) × (Bool × List Int) × Int)) : Nat → Yli → Int → Yli → Int → Int → (List Yli) → (Bool × List Int) → Int → Option ((List Yli) × (Bool × List Int) × Int) | 0 => fun _ _ _ _ _ _ _ _ => none | q + 1 => f85l0B N rc (f85l0 N rc q)
noncomputable def f85l0o (N : Nat) (rc : (Bool × List Int) → Int → (List Yli) → (Bool × List Int) → Int → Option ((List Yli) × (Bool × List Int) × Int)) : List (Nat × Orc) := []
theorem f85l0eq (N : Nat) (rc : (Bool × List Int) → Int → (List Yli) → (Bool × List Int) → Int → Option ((List Yli) × (Bool × List Int) × Int)) (go : Yli → Int → Yli → Int → Int → (List Yli) → (Bool × List Int) → Int → Option ((List Yli) × (Bool × List Int) × Int)) (x : f85l0tv.Y) : codeK Try.prog hint (callsL (f85calls N rc)) (orcsL (f85l0o N rc)) 86 f85l0c 1 (f85l0tv.enc x) (loopK f85l0tv f85l0E (fun x => go x.1 x.2.1 x.2.2.1 x.2.2.2.1 x.2.2.2.2.1 x.2.2.2.2.2.1 x.2.2.2.2.2.2.1 x.2.2.2.2.2.2.2)) = f85l0B N rc go x.1 x.2.1 x.2.2.1 x.2.2.2.1 x.2.2.2.2.1 x.2.2.2.2.2.1 x.2.2.2.2.2.2.1 x.2.2.2.2.2.2.2 := by kernel_rfl
theorem f85l0oOk (N : Nat) (rc : (Bool × List Int) → Int → (List Yli) → (Bool × List Int) → Int → Option ((List Yli) × (Bool × List Int) × Int)) (hrc : CallOk Try.prog 85 (callOf 86 f85iv f85ov (fun x => rc x.1 x.2.1 x.2.2.1 x.2.2.2.1 x.2.2.2.2))) : OrcsOk Try.prog false 86 f85l0c (orcsL (f85l0o N rc)) := orcsL_nil
theorem f85l0ok (N : Nat) (rc : (Bool × List Int) → Int → (List Yli) → (Bool × List Int) → Int → Option ((List Yli) × (Bool × List Int) × Int)) (hrc : CallOk Try.prog 85 (callOf 86 f85iv f85ov (fun x => rc x.1 x.2.1 x.2.2.1 x.2.2.2.1 x.2.2.2.2))) (M : Nat) : OrcOk Try.prog false 86 (.loop f85l0c) (cutOrc f85l0tv f85l0E (fun x => f85l0 N rc M x.1 x.2.1 x.2.2.1 x.2.2.2.1 x.2.2.2.2.1 x.2.2.2.2.2.1 x.2.2.2.2.2.2.1 x.2.2.2.2.2.2.2)) := loop_ok mixed eqOk (f85callsOk N rc hrc) (f85l0oOk N rc hrc) (fun _ => rfl) (fun q x o h => (f85l0eq N rc (f85l0 N rc q) x).trans h) M
noncomputable def f85B (N : Nat) (rc : (Bool × List Int) → Int → (List Yli) → (Bool × List Int) → Int → Option ((List Yli) × (Bool × List Int) × Int)) (x0 : (Bool × List Int)) (x1 : Int) (x2 : (List Yli)) (x3 : (Bool × List Int)) (x4 : Int) : Option ((List Yli) × (Bool × List Int) × Int) := (if (decide ((Go.IntKind.wrap .i64 ((Go.IntKind.wrap .i64 (x1 + ((List.length x2 : Nat) : Int))) - ((List.length x0.2 : Nat) : Int))) ≤ x4)) = true then (if (!x3.1) = true then (some (x2, (x3.1, x3.2), x4)) else (if (((List.length x0.2 : Nat) : Int) == ((List.length x2 : Nat) : Int)) = true then (andThen (f93 N (x0.1, x0.2)) fun y1 => (some (x2, (y1.1, y1.2), x1))) else (if ((decide ((0 : Int) ≤ ((List.length x0.2 : Nat) : Int))) && (decide (((List.length x0.2 : Nat) : Int) < ((List.length x2 : Nat) : Int)))) = true then (andThen (f85l0 N rc N x0.2 x1 (List.getD x2 (Int.toNat ((List.length x0.2 : Nat) : Int)) ([] : List Int)) ((List.length (List.getD x2 (Int.toNat ((List.length x0.2 : Nat) : Int)) ([] : List Int)) : Nat) : Int) (0 : Int) x2 (x3.1, x3.2) x4) fun y7 => (some (y7.1, (y7.2.1.1, y7.2.1.2), y7.2.2))) else none))) else (if (((List.length x0.2 : Nat) : Int) == ((List.length x2 : Nat) : Int)) = true then (andThen (f93 N (x0.1, x0.2)) fun y8 => (some (x2, (y8.1, y8.2), x1))) else (if ((decide ((0 : Int) ≤ ((List.length x0.2 : Nat) : Int))) && (decide (((List.length x0.2 : Nat) : Int) < ((List.length x2 : Nat) : Int)))) = true then (andThen (f85l0 N rc N x0.2 x1 (List.getD x2 (Int.toNat ((List.length x0.2 : Nat) : Int)) ([] : List Int)) ((List.length (List.getD x2 (Int.toNat ((List.length x0.2 : Nat) : Int)) ([] : List Int)) : Nat) : Int) (0 : Int) x2 (x3.1, x3.2) x4) fun y9 => (some (y9.1, (y9.2.1.1, y9.2.1.2), y9.2.2))) else none)))
noncomputable def f85 (N : Nat) : Nat → (Bool × List Int) → Int → (List Yli) → (Bool × List Int) → Int → Option ((List Yli) × (Bool × List Int) × Int) | 0 => fun _ _ _ _ _ => none | q + 1 => f85B N (f85 N q)
noncomputable def f85orc (N : Nat) (rc : (Bool × List Int) → Int → (List Yli) → (Bool × List Int) → Int → Option ((List Yli) × (Bool × List Int) × Int)) : List (Nat × Orc) := [(30, cutOrc f85l0tv f85l0E (fun x => f85l0 N rc N x.1 x.2.1 x.2.2.1 x.2.2.2.1 x.2.2.2.2.1 x.2.2.2.2.2.1 x.2.2.2.2.2.2.1 x.2.2.2.2.2.2.2))]
theorem f85eq (N : Nat) (rc : (Bool × List Int) → Int → (List Yli) → (Bool × List Int) → Int → Option ((List Yli) × (Bool × List Int) × Int)) (x : f85iv.Y) : codeK Try.prog hint (callsL (f85calls N rc)) (orcsL (f85orc N rc)) 86 f85c 1 (f85iv.enc x) (fnKv Try.prog [] f85ov) = f85B N rc x.1 x.2.1 x.2.2.1 x.2.2.2.1 x.2.2.2.2 := by kernel_rfl
theorem f85orcOk (N : Nat) (rc : (Bool × List Int) → Int → (List Yli) → (Bool × List Int) → Int → Option ((List Yli) × (Bool × List Int) × Int)) (hrc : CallOk Try.prog 85 (callOf 86 f85iv f85ov (fun x => rc x.1 x.2.1 x.2.2.1 x.2.2.2.1 x.2.2.2.2))) : OrcsOk Try.prog false 86 f85c (orcsL (f85orc N rc)) := (orcsL_cons (c := .loop f85l0c) (by kernel_rfl) (f85l0ok N rc hrc N) orcsL_nil)
noncomputable def f85call (N M : Nat) : CallS := callOf 86 f85iv f85ov (fun x => f85 N M x.1 x.2.1 x.2.2.1 x.2.2.2.1 x.2.2.2.2)
theorem f85ok (N M : Nat) : CallOk Try.prog 85 (f85call N M) := by
 induction M with
 | zero => exact call_none (fun _ => rfl)
 | succ M ih => exact fn_ok (g := 85) (fn := Try.f85) (body := f85c) (n := 86) (rs := []) mixed eqOk (f85callsOk N (f85 N M) ih) (by kernel_rfl) (by kernel_rfl) (by kernel_rfl) (by kernel_rfl) (f85orcOk N (f85 N M) ih) (by kernel_rfl) (Vi := f85iv) (Vo := f85ov) (F := fun x => f85 N (M + 1) x.1 x.2.1 x.2.2.1 x.2.2.2.1 x.2.2.2.2) (fun x y h => (f85eq N (f85 N M) x).trans h)
end Go.Proofs


namespace Go.Proofs
open Go.Al
noncomputable def f34i : Tm := ⟨[0, 1], [], [.agg [.v (.list T0), .v T1, .v T3, .v (.list T4)], .one (.v (.list T0))]⟩
noncomputable def f34iv : Vw f34i := { Y := Yls × Ylp × Ylc × Ylg × Yls, fromT := fun t => (t.1.1, t.1.2.1, t.1.2.2.1, t.1.2.2.2.1, t.2.1), outT := fun y => ((y.1, y.2.1, y.2.2.1, y.2.2.2.1, ()), y.2.2.2.2, ()), inv := fun _ => rfl }
noncomputable def f34o : Tm := ⟨[0, 1], [], [.one (.v (.list (.int .i64))), .one (.v (.int .i64))]⟩
noncomputable def f34ov : Vw f34o := { Y := Yli × Int, fromT := fun t => (t.1, t.2.1), outT := fun y => (y.1, y.2, ()), inv := fun _ => rfl }
@[reducible] noncomputable def f34c : Code := bodyOf Try.f34
noncomputable def f34calls (N : Nat) : List (Nat × CallS) := [(70, f70call N), (82, f82call N), (71, f71call N), (74, f74bcall N), (85, f85call N N)]
theorem f34callsOk (N : Nat) : CallsOk Try.prog (callsL (f34calls N)) := (callsL_cons (fun _ => Enters.of (fn := Try.f70) (by kernel_rfl) (by kernel_rfl) (by kernel_rfl)) (f70ok N) (callsL_cons (fun _ => Enters.of (fn := Try.f82) (by kernel_rfl) (by kernel_rfl) (by kernel_rfl)) (f82ok N) (callsL_cons (fun _ => Enters.of (fn := Try.f71) (by kernel_rfl) (by kernel_rfl) (by kernel_rfl)) (f71ok N) (callsL_cons (fun _ => Enters.of (fn := Try.f74) (by kernel_rfl) (by kernel_rfl) (by kernel_rfl)) (f74bok N) (callsL_cons (fun _ => Enters.of (fn := Try.f85) (by kernel_rfl) (by kernel_rfl) (by kernel_rfl)) (f85ok N N) callsL_nil)))))
@[reducible] noncomputable def f34l0c : Code := loopOf (codeOf (f34c) 250)
noncomputable def f34l0t : Tm := ⟨[6, 9, 10, 37, 38, 39], [(.box 6), (.box 9), (.box 36)], [.one (.ptr (.box 6) 0 5), .one (.ptr (.box 9) 0 10), .one (.ptr (.box 36) 0 3), .one (.v (.list T0)), .one (.v (.int .i64)), .one (.v (.int .i64)), .agg [.v (.list T0), .v T1, .v T3, .v (.list T4), .own 1000000 T5], .arr (.int .i64) 10, .agg [.own 1000001 (.list (.int .i64)), .vn (.int .i64), .v (.int .i64)]]⟩
noncomputable def f34l0tv : Vw f34l0t := { Y := Yls × Int × Int × Yls × Ylp × Ylc × Ylg × Yln × List Int × (List Yli) × (Bool × List Int) × Int, fromT := fun t => (t.2.2.2.1, t.2.2.2.2.1, t.2.2.2.2.2.1, t.2.2.2.2.2.2.1.1, t.2.2.2.2.2.2.1.2.1, t.2.2.2.2.2.2.1.2.2.1, t.2.2.2.2.2.2.1.2.2.2.1, t.2.2.2.2.2.2.1.2.2.2.2.1, t.2.2.2.2.2.2.2.1, t.2.2.2.2.2.2.2.2.1.1, t.2.2.2.2.2.2.2.2.1.2.1, t.2.2.2.2.2.2.2.2.1.2.2.1), outT := fun y => ((), (), (), y.1, y.2.1, y.2.2.1, (y.2.2.2.1, y.2.2.2.2.1, y.2.2.2.2.2.1, y.2.2.2.2.2.2.1, y.2.2.2.2.2.2.2.1, ()), y.2.2.2.2.2.2.2.2.1, (y.2.2.2.2.2.2.2.2.2.1, y.2.2.2.2.2.2.2.2.2.2.1, y.2.2.2.2.2.2.2.2.2.2.2, ()), ()), inv := fun _ => rfl }
noncomputable def f34l0e0 : Tm := ⟨[10], [(.box 36)], [.one (.ptr (.box 36) 0 3), .agg [.own 1000000 (.list (.int .i64)), .vn (.int .i64), .v (.int .i64)]]⟩
noncomputable def f34l0e0v : Vw f34l0e0 := { Y := (List Yli) × (Bool × List Int) × Int, fromT := fun t => (t.2.1.1, t.2.1.2.1, t.2.1.2.2.1), outT := fun y => ((), (y.1, y.2.1, y.2.2, ()), ()), inv := fun _ => rfl }
@[reducible] noncomputable def f34l0E : List Ex := [⟨(.ext 1), f34l0e0, f34l0e0v⟩]
noncomputable def f34l0B (N : Nat) (go : Yls → Int → Int → Yls → Ylp → Ylc → Ylg → Yln → List Int → (List Yli) → (Bool × List Int) → Int → Option ((List Yli) × (Bool × List Int) × Int)) (x0 : Yls) (x1 : Int) (x2 : Int) (x3 : Yls) (x4 : Ylp) (x5 : Ylc) (x6 : Ylg) (x7 : Yln) (x8 : List Int) (x9 : (List Yli)) (x10 : (Bool × List Int)) (x11 : Int) : Option ((List Yli) × (Bool × List Int) × Int) := (if (decide (x2 < x1)) = true then (if ((decide ((0 : Int) ≤ x2)) && (decide (x2 < ((List.length x0 : Nat) : Int)))) = true then (andThen (f74b N x3 x4 x5 x6 x7 (List.getD x0 (Int.toNat x2) ((0 : Int), (0 : Int))).1 (List.getD x0 (Int.toNat x2) ((0 : Int), (0 : Int))).2 x8) fun y4 => (if (Nat.ble ((List.length ([(-1 : Int)] : List Int)) + (List.length y4.1)) Go.Al.boundLen) = true then (if (Nat.ble ((List.length x9) + (List.length ([(([(-1 : Int)] : List Int) ++ y4.1)] : List Yli))) Go.Al.boundLen) = true then (go x0 x1 (Go.IntKind.wrap .i64 (x2 + (1 : Int))) x3 x4 x5 x6 x7 y4.2.2.2.2 (x9 ++ ([(([(-1 : Int)] : List Int) ++ y4.1)] : List Yli)) (x10.1, x10.2) x11) else none) else none)) else none) else (some (x9, (x10.1, x10.2), x11)))
noncomputable def f34l0 (N : Nat) : Nat → Yls → Int → Int → Yls → Ylp → Ylc → Ylg → Yln → List Int → (List Yli) → (Bool × List Int) → Int → Option ((List Yli) × (Bool × List Int) × Int) | 0 => fun _ _ _ _ _ _ _ _ _ _ _ _ => none | q + 1 => f34l0B N (f34l0 N q)
noncomputable def f34l0o (N : Nat) : List (Nat × Orc) := []
theorem f34l0eq (N : Nat) (go : Yls → Int → Int → Yls → Ylp → Ylc → Ylg → Yln → List Int → (List Yli) → (Bool × List Int) → Int → Option ((List Yli) × (Bool × List Int) × Int)) (x : f34l0tv.Y) : codeK Try.prog hint (callsL (f34calls N)) (orcsL (f34l0o N)) 68 f34l0c 1 (f34l0tv.enc x) (loopK f34l0tv f34l0E (fun x => go x.1 x.2.1 x.2.2.1 x.2.2.2.1 x.2.2.2.2.1 x.2.2.2.2.2.1 x.2.2.2.2.2.2.1 x.2.2.2.2.2.2.2.1 x.2.2.2.2.2.2.2.2.1 x.2.2.2.2.2.2.2.2.2.1 x.2.2.2.2.2.2.2.2.2.2.1 x.2.2.2.2.2.2.2.2.2.2.2)) = f34l0B N go x.1 x.2.1 x.2.2.1 x.2.2.2.1 x.2.2.2.2.1 x.2.2.2.2.2.1 x.2.2.2.2.2.2.1 x.2.2.2.2.2.2.2.1 x.2.2.2.2.2.2.2.2.1 x.2.2.2.2.2.2.2.2.2.1 x.2.2.2.2.2.2.2.2.2.2.1 x.2.2.2.2.2.2.2.2.2.2.2 := by kernel_rfl
theorem f34l0oOk (N : Nat) : OrcsOk Try.prog false 68 f34l0c (orcsL (f34l0o N)) := orcsL_nil
theorem f34l0ok (N : Nat) (M : Nat) : OrcOk Try.prog false 68 (.loop f34l0c) (cutOrc f34l0tv f34l0E (fun x => f34l0 N M x.1 x.2.1 x.2.2.1 x.2.2.2.1 x.2.2.2.2.1 x.2.2.2.2.2.1 x.2.2.2.2.2.2.1 x.2.2.2.2.2.2.2.1 x.2.2.2.2.2.2.2.2.1 x.2.2.2.2.2.2.2.2.2.1 x.2.2.2.2.2.2.2.2.2.2.1 x.2.2.2.2.2.2.2.2.2.2.2)) := loop_ok mixed eqOk (f34callsOk N) (f34l0oOk N) (fun _ => rfl) (fun q x o h => (f34l0eq N (f34l0 N q) x).trans h) M
noncomputable def f34 (N : Nat) (x0 : Yls) (x1 : Ylp) (x2 : Ylc) (x3 : Ylg) (x4 : Yls) : Option (Yli × Int) := (andThen (f70 N x0 x1 x2 x3) fun y1 => (if (y1.2.2.2.2.2.2 != (0 : Int)) = true then (some (([] : List Int), y1.2.2.2.2.2.2)) else (if (decide (((List.length x4 : Nat) : Int) > (5 : Int))) = true then (some (([] : List Int), (5 : Int))) else (andThen (f82 N x4) fun y2 => (if y2 = true then (some (([] : List Int), (2 : Int))) else (andThen (f71 N y1.1 y1.2.1 y1.2.2.1 y1.2.2.2.1 y1.2.2.2.2.1 y1.2.2.2.2.2.1) fun y3 => (andThen (f34l0 N N x4 ((List.length x4 : Nat) : Int) (0 : Int) y1.1 y1.2.1 y1.2.2.1 y1.2.2.2.1 y1.2.2.2.2.1 y3 ([] : List Yli) (true, ([] : List Int)) (0 : Int)) fun y5 => (andThen (f85 N N (true, ([] : List Int)) (0 : Int) y5.1 (y5.2.1.1, y5.2.1.2) y5.2.2) fun y6 => (some (y6.2.1.2, (0 : Int)))))))))))
noncomputable def f34orc (N : Nat) : List (Nat × Orc) := [(250, cutOrc f34l0tv f34l0E (fun x => f34l0 N N x.1 x.2.1 x.2.2.1 x.2.2.2.1 x.2.2.2.2.1 x.2.2.2.2.2.1 x.2.2.2.2.2.2.1 x.2.2.2.2.2.2.2.1 x.2.2.2.2.2.2.2.2.1 x.2.2.2.2.2.2.2.2.2.1 x.2.2.2.2.2.2.2.2.2.2.1 x.2.2.2.2.2.2.2.2.2.2.2))]
theorem f34eq (N : Nat) (x : f34iv.Y) : codeK Try.prog hint (callsL (f34calls N)) (orcsL (f34orc N)) 68 f34c 1 (f34iv.enc x) (fnKv Try.prog [.tmp 4, .tmp 5] f34ov) = f34 N x.1 x.2.1 x.2.2.1 x.2.2.2.1 x.2.2.2.2 := by kernel_rfl
theorem f34orcOk (N : Nat) : OrcsOk Try.prog false 68 f34c (orcsL (f34orc N)) := (orcsL_cons (c := .loop f34l0c) (by kernel_rfl) (f34l0ok N N) orcsL_nil)
noncomputable def f34call (N : Nat) : CallS := callOf 68 f34iv f34ov (fun x => f34 N x.1 x.2.1 x.2.2.1 x.2.2.2.1 x.2.2.2.2)
theorem f34ok (N : Nat) : CallOk Try.prog 34 (f34call N) := fn_ok (g := 34) (fn := Try.f34) (body := f34c) (n := 68) (rs := [.tmp 4, .tmp 5]) mixed eqOk (f34callsOk N) (by kernel_rfl) (by kernel_rfl) (by kernel_rfl) (by kernel_rfl) (f34orcOk N) (by kernel_rfl) (Vi := f34iv) (Vo := f34ov) (F := fun x => f34 N x.1 x.2.1 x.2.2.1 x.2.2.2.1 x.2.2.2.2) (fun x y h => (f34eq N x).trans h)
end Go.Proofs


namespace Go.Proofs
open Go.Al
noncomputable def f86i : Tm := ⟨[0, 1, 2], [], [.one (.v (.list T0)), .one (.v (.list T0)), .one (.v (.list (.int .i64)))]⟩
noncomputable def f86iv : Vw f86i := { Y := Yls × Yls × Yli, fromT := fun t => (t.1, t.2.1, t.2.2.1), outT := fun y => (y.1, y.2.1, y.2.2, ()), inv := fun _ => rfl }
noncomputable def f86o : Tm := ⟨[0], [], [.one (.own 4096 (.list (.int .i64)))]⟩
noncomputable def f86ov : Vw f86o := { Y := (List Yli), fromT := fun t => t.1, outT := fun y => (y, ()), inv := fun _ => rfl }
@[reducible] noncomputable def f86c : Code := bodyOf Try.f86
noncomputable def f86calls (N : Nat) (rc : Yls → Yls → Yli → Option ((List Yli))) : List (Nat × CallS) := [(30, f30call N), (110, f110call N), (86, callOf 59 f86iv f86ov (fun x => rc x.1 x.2.1 x.2.2))]
theorem f86callsOk (N : Nat) (rc : Yls → Yls → Yli → Option ((List Yli))) (hrc : CallOk Try.prog 86 (callOf 59 f86iv f86ov (fun x => rc x.1 x.2.1 x.2.2))) : CallsOk Try.prog (callsL (f86calls N rc)) := (callsL_cons (fun _ => Enters.of (fn := Try.f30) (by kernel_rfl) (by kernel_rfl) (by kernel_rfl)) (f30ok N) (callsL_cons (fun _ => Enters.of (fn := Try.f110) (by kernel_rfl) (by kernel_rfl) (by kernel_rfl)) (f110ok N) (callsL_cons (fun _ => Enters.of (fn := Try.f86) (by kernel_rfl) (by kernel_rfl) (by kernel_rfl)) hrc callsL_nil)))
@[reducible] noncomputable def f86l0c : Code := loopOf (codeOf (f86c) 122)
noncomputable def f86l0t : Tm := ⟨[0, 1, 2, 7, 8], [], [.one (.v (.list T0)), .one (.v (.list T0)), .one (.v (.list (.int .i64))), .one (.own 1000000 (.list (.int .i64))), .one (.v (.int .i64))]⟩
noncomputable def f86l0tv : Vw f86l0t := { Y := Yls × Yls × Yli × (List Yli) × Int, fromT := fun t => (t.1, t.2.1, t.2.2.1, t.2.2.2.1, t.2.2.2.2.1), outT := fun y => (y.1, y.2.1, y.2.2.1, y.2.2.2.1, y.2.2.2.2, ()), inv := fun _ => rfl }
noncomputable def f86l0e0 : Tm := ⟨[7], [], [.one (.own 1000000 (.list (.int .i64)))]⟩
noncomputable def f86l0e0v : Vw f86l0e0 := { Y := (List Yli), fromT := fun t => t.1, outT := fun y => (y, ()), inv := fun _ => rfl }
@[reducible] noncomputable def f86l0E : List Ex := [⟨(.ext 0), f86l0e0, f86l0e0v⟩]
noncomputable def f86l0B (N : Nat) (rc : Yls → Yls → Yli → Option ((List Yli))) (go : Yls → Yls → Yli → (List Yli) → Int → Option ((List Yli))) (x0 : Yls) (x1 : Yls) (x2 : Yli) (x3 : (List Yli)) (x4 : Int) : Option ((List Yli)) := (if (decide (x4 < ((List.length x0 : Nat) : Int))) = true then (if (decide (x4 ≥ (0 : Int))) = true then (if ((decide ((0 : Int) ≤ ((List.length x2 : Nat) : Int))) && (decide (((List.length x2 : Nat) : Int) < ((List.length x1 : Nat) : Int)))) = true then (if ((decide ((0 : Int) ≤ x4)) && (decide (x4 < ((List.length x0 : Nat) : Int)))) = true then (andThen (f30 N (List.getD x1 (Int.toNat ((List.length x2 : Nat) : Int)) ((0 : Int), (0 : Int))).1 (List.getD x1 (Int.toNat ((List.length x2 : Nat) : Int)) ((0 : Int), (0 : Int))).2 (List.getD x0 (Int.toNat x4) ((0 : Int), (0 : Int))).1 (List.getD x0 (Int.toNat x4) ((0 : Int), (0 : Int))).2) fun y1 => (if (!y1.1) = false then (andThen (f110 N x2 x4) fun y2 => (if y2 = true then (go x0 x1 x2 x3 (Go.IntKind.wrap .i64 (x4 + (1 : Int)))) else (if (Nat.ble ((List.length ([] : List Int)) + (List.length x2)) Go.Al.boundLen) = true then (if (Nat.ble ((List.length (([] : List Int) ++ x2)) + (List.length ([x4] : List Int))) Go.Al.boundLen) = true then (andThen (rc x0 x1 ((([] : List Int) ++ x2) ++ ([x4] : List Int))) fun y3 => (if (Nat.ble ((List.length x3) + (List.length y3)) Go.Al.boundLen) = true then (go x0 x1 x2 (x3 ++ y3) (Go.IntKind.wrap .i64 (x4 + (1 : Int)))) else none)) else none) else none))) else (go x0 x1 x2 x3 (Go.IntKind.wrap .i64 (x4 + (1 : Int)))))) else none) else none) else (if (Nat.ble ((List.length ([] : List Int)) + (List.length x2)) Go.Al.boundLen) = true then (if (Nat.ble ((List.length (([] : List Int) ++ x2)) + (List.length ([x4] : List Int))) Go.Al.boundLen) = true then (andThen (rc x0 x1 ((([] : List Int) ++ x2) ++ ([x4] : List Int))) fun y4 => (if (Nat.ble ((List.length x3) + (List.length y4)) Go.Al.boundLen) = true then (go x0 x1 x2 (x3 ++ y4) (Go.IntKind.wrap .i64 (x4 + (1 : Int)))) else none)) else none) else none)) else (some x3))
noncomputable def f86l0 (N : Nat) (rc : Yls → Yls → Yli → Option ((List Yli))) : Nat → Yls → Yls → Yli → (List Yli) → Int → Option ((List Yli)) | 0 => fun _ _ _ _ _ => none | q + 1 => f86l0B N rc (f86l0 N rc q)
noncomputable def f86l0o (N : Nat) (rc : Yls → Yls → Yli → Option ((List Yli))) : List (Nat × Orc) := []
theorem f86l0eq (N : Nat) (rc : Yls → Yls → Yli → Option ((List Yli))) (go : Yls → Yls → Yli → (List Yli) → Int → Option ((List Yli))) (x : f86l0tv.Y) : codeK Try.prog hint (callsL (f86calls N rc)) (orcsL (f86l0o N rc)) 59 f86l0c 1 (f86l0tv.enc x) (loopK f86l0tv f86l0E (fun x => go x.1 x.2.1 x.2.2.1 x.2.2.2.1 x.2.2.2.2)) = f86l0B N rc go x.1 x.2.1 x.2.2.1 x.2.2.2.1 x.2.2.2.2 := by kernel_rfl
theorem f86l0oOk (N : Nat) (rc : Yls → Yls → Yli → Option ((List Yli))) (hrc : CallOk Try.prog 86 (callOf 59 f86iv f86ov (fun x => rc x.1 x.2.1 x.2.2))) : OrcsOk Try.prog false 59 f86l0c (orcsL (f86l0o N rc)) := orcsL_nil
theorem f86l0ok (N : Nat) (rc : Yls → Yls → Yli → Option ((List Yli))) (hrc : CallOk Try.prog 86 (callOf 59 f86iv f86ov (fun x => rc x.1 x.2.1 x.2.2))) (M : Nat) : OrcOk Try.prog false 59 (.loop f86l0c) (cutOrc f86l0tv f86l0E (fun x => f86l0 N rc M x.1 x.2.1 x.2.2.1 x.2.2.2.1 x.2.2.2.2)) := loop_ok mixed eqOk (f86callsOk N rc hrc) (f86l0oOk N rc hrc) (fun _ => rfl) (fun q x o h => (f86l0eq N rc (f86l0 N rc q) x).trans h) M
noncomputable def f86B (N : Nat) (rc : Yls → Yls → Yli → Option ((List Yli))) (x0 : Yls) (x1 : Yls) (x2 : Yli) : Option ((List Yli)) := (if (((List.length x2 : Nat) : Int) == ((List.length x1 : Nat) : Int)) = true then (some ([x2] : List Yli)) else (andThen (f86l0 N rc N x0 x1 x2 ([] : List Yli) (-1 : Int)) fun y5 => (some y5)))
noncomputable def f86 (N : Nat) : Nat → Yls → Yls → Yli → Option ((List Yli)) | 0 => fun _ _ _ => none | q + 1 => f86B N (f86 N q)
noncomputable def f86orc (N : Nat) (rc : Yls → Yls → Yli → Option ((List Yli))) : List (Nat × Orc) := [(122, cutOrc f86l0tv f86l0E (fun x => f86l0 N rc N x.1 x.2.1 x.2.2.1 x.2.2.2.1 x.2.2.2.2))]
theorem f86eq (N : Nat) (rc : Yls → Yls → Yli → Option ((List Yli))) (x : f86iv.Y) : codeK Try.prog hint (callsL (f86calls N rc)) (orcsL (f86orc N rc)) 59 f86c 1 (f86iv.enc x) (fnKv Try.prog [.tmp 6] f86ov) = f86B N rc x.1 x.2.1 x.2.2 := by kernel_rfl
theorem f86orcOk (N : Nat) (rc : Yls → Yls → Yli → Option ((List Yli))) (hrc : CallOk Try.prog 86 (callOf 59 f86iv f86ov (fun x => rc x.1 x.2.1 x.2.2))) : OrcsOk Try.prog false 59 f86c (orcsL (f86orc N rc)) := (orcsL_cons (c := .loop f86l0c) (by kernel_rfl) (f86l0ok N rc hrc N) orcsL_nil)
noncomputable def f86call (N M : Nat) : CallS := callOf 59 f86iv f86ov (fun x => f86 N M x.1 x.2.1 x.2.2)
theorem f86ok (N M : Nat) : CallOk Try.prog 86 (f86call N M) := by
 induction M with
 | zero => exact call_none (fun _ => rfl)
 | succ M ih => exact fn_ok (g := 86) (fn := Try.f86) (body := f86c) (n := 59) (rs := [.tmp 6]) mixed eqOk (f86callsOk N (f86 N M) ih) (by kernel_rfl) (by kernel_rfl) (by kernel_rfl) (by kernel_rfl) (f86orcOk N (f86 N M) ih) (by kernel_rfl) (Vi := f86iv) (Vo := f86ov) (F := fun x => f86 N (M + 1) x.1 x.2.1 x.2.2) (fun x y h => (f86eq N (f86 N M) x).trans h)
end Go.Proofs


namespace Go.Proofs
open Go.Al
noncomputable def f87i : Tm := ⟨[0], [], [.one (.v (.list (.int .i64)))]⟩
noncomputable def f87iv : Vw f87i := { Y := Yli, fromT := fun t => t.1, outT := fun y => (y, ()), inv := fun _ => rfl }
noncomputable def f87o : Tm := ⟨[0], [], [.one (.v (.int .i64))]⟩
noncomputable def f87ov : Vw f87o := { Y := Int, fromT := fun t => t.1, outT := fun y => (y, ()), inv := fun _ => rfl }
@[reducible] noncomputable def f87c : Code := bodyOf Try.f87
noncomputable def f87calls (N : Nat) : List (Nat × CallS) := []
theorem f87callsOk (N : Nat) : CallsOk Try.prog (callsL (f87calls N)) := callsL_nil
@[reducible] noncomputable def f87l0c : Code := loopOf (codeOf (f87c) 58)
noncomputable def f87l0t : Tm := ⟨[0, 3, 4], [], [.one (.v (.list (.int .i64))), .one (.v (.int .i64)), .one (.v (.int .i64))]⟩
noncomputable def f87l0tv : Vw f87l0t := { Y := Yli × Int × Int, fromT := fun t => (t.1, t.2.1, t.2.2.1), outT := fun y => (y.1, y.2.1, y.2.2, ()), inv := fun _ => rfl }
noncomputable def f87l0e0 : Tm := ⟨[3], [], [.one (.v (.int .i64))]⟩
noncomputable def f87l0e0v : Vw f87l0e0 := { Y := Int, fromT := fun t => t.1, outT := fun y => (y, ()), inv := fun _ => rfl }
@[reducible] noncomputable def f87l0E : List Ex := [⟨(.ext 0), f87l0e0, f87l0e0v⟩]
noncomputable def f87l0B (N : Nat) (go : Yli → Int → Int → Option (Int)) (x0 : Yli) (x1 : Int) (x2 : Int) : Option (Int) := (if (decide (x2 < ((List.length x0 : Nat) : Int))) = true then (if ((decide ((0 : Int) ≤ x2)) && (decide (x2 < ((List.length x0 : Nat) : Int)))) = true then (if (decide ((List.getD x0 (Int.toNat x2) (0 : Int)) ≥ (0 : Int))) = true then (go x0 (Go.IntKind.wrap .i64 (x1 + (1 : Int))) (Go.IntKind.wrap .i64 (x2 + (1 : Int)))) else (go x0 x1 (Go.IntKind.wrap .i64 (x2 + (1 : Int))))) else none) else (some x1))
noncomputable def f87l0 (N : Nat) : Nat → Yli → Int → Int → Option (Int) | 0 => fun _ _ _ => none | q + 1 => f87l0B N (f87l0 N q)
noncomputable def f87l0o (N : Nat) : List (Nat × Orc) := []
theorem f87l0eq (N : Nat) (go : Yli → Int → Int → Option (Int)) (x : f87l0tv.Y) : codeK Try.prog hint (callsL (f87calls N)) (orcsL (f87l0o N)) 19 f87l0c 1 (f87l0tv.enc x) (loopK f87l0tv f87l0E (fun x => go x.1 x.2.1 x.2.2)) = f87l0B N go x.1 x.2.1 x.2.2 := by kernel_rfl
theorem f87l0oOk (N : Nat) : OrcsOk Try.prog false 19 f87l0c (orcsL (f87l0o N)) := orcsL_nil
theorem f87l0ok (N : Nat) (M : Nat) : OrcOk Try.prog false 19 (.loop f87l0c) (cutOrc f87l0tv f87l0E (fun x => f87l0 N M x.1 x.2.1 x.2.2)) := loop_ok mixed eqOk (f87callsOk N) (f87l0oOk N) (fun _ => rfl) (fun q x o h => (f87l0eq N (f87l0 N q) x).trans h) M
noncomputable def f87 (N : Nat) (x0 : Yli) : Option (Int) := (andThen (f87l0 N N x0 (0 : Int) (0 : Int)) fun y1 => (some y1))
noncomputable def f87orc (N : Nat) : List (Nat × Orc) := [(58, cutOrc f87l0tv f87l0E (fun x => f87l0 N N x.1 x.2.1 x.2.2))]
theorem f87eq (N : Nat) (x : f87iv.Y) : codeK Try.prog hint (callsL (f87calls N)) (orcsL (f87orc N)) 19 f87c 1 (f87iv.enc x) (fnKv Try.prog [.tmp 2] f87ov) = f87 N x := by kernel_rfl
theorem f87orcOk (N : Nat) : OrcsOk Try.prog false 19 f87c (orcsL (f87orc N)) := (orcsL_cons (c := .loop f87l0c) (by kernel_rfl) (f87l0ok N N) orcsL_nil)
noncomputable def f87call (N : Nat) : CallS := callOf 19 f87iv f87ov (fun x => f87 N x)
theorem f87ok (N : Nat) : CallOk Try.prog 87 (f87call N) := fn_ok (g := 87) (fn := Try.f87) (body := f87c) (n := 19) (rs := [.tmp 2]) mixed eqOk (f87callsOk N) (by kernel_rfl) (by kernel_rfl) (by kernel_rfl) (by kernel_rfl) (f87orcOk N) (by kernel_rfl) (Vi := f87iv) (Vo := f87ov) (F := fun x => f87 N x) (fun x y h => (f87eq N x).trans h)
end Go.Proofs


namespace Go.Proofs
open Go.Al
noncomputable def f35i : Tm := ⟨[0, 1], [], [.one (.v (.list T0)), .one (.v (.list T0))]⟩
noncomputable def f35iv : Vw f35i := { Y := Yls × Yls, fromT := fun t => (t.1, t.2.1), outT := fun y => (y.1, y.2, ()), inv := fun _ => rfl }
noncomputable def f35o : Tm := ⟨[0], [], [.one (.v (.list (.int .i64)))]⟩
noncomputable def f35ov : Vw f35o := { Y := Yli, fromT := fun t => t.1, outT := fun y => (y, ()), inv := fun _ => rfl }
@[reducible] noncomputable def f35c : Code := bodyOf Try.f35
noncomputable def f35calls (N : Nat) : List (Nat × CallS) := [(86, f86call N N), (87, f87call N)]
theorem f35callsOk (N : Nat) : CallsOk Try.prog (callsL (f35calls N)) := (callsL_cons (fun _ => Enters.of (fn := Try.f86) (by kernel_rfl) (by kernel_rfl) (by kernel_rfl)) (f86ok N N) (callsL_cons (fun _ => Enters.of (fn := Try.f87) (by kernel_rfl) (by kernel_rfl) (by kernel_rfl)) (f87ok N) callsL_nil))
@[reducible] noncomputable def f35l0c : Code := loopOf (codeOf (f35c) 122)
noncomputable def f35l0t : Tm := ⟨[5, 6, 7], [], [.one (.own 1000000 (.list (.int .i64))), .one (.v (.list (.int .i64))), .one (.v (.int .i64))]⟩
noncomputable def f35l0tv : Vw f35l0t := { Y := (List Yli) × Yli × Int, fromT := fun t => (t.1, t.2.1, t.2.2.1), outT := fun y => (y.1, y.2.1, y.2.2, ()), inv := fun _ => rfl }
noncomputable def f35l0e0 : Tm := ⟨[6], [], [.one (.v (.list (.int .i64)))]⟩
noncomputable def f35l0e0v : Vw f35l0e0 := { Y := Yli, fromT := fun t => t.1, outT := fun y => (y, ()), inv := fun _ => rfl }
@[reducible] noncomputable def f35l0E : List Ex := [⟨(.ext 0), f35l0e0, f35l0e0v⟩]
noncomputable def f35l0B (N : Nat) (go : (List Yli) → Yli → Int → Option (Yli)) (x0 : (List Yli)) (x1 : Yli) (x2 : Int) : Option (Yli) := (if (decide (x2 < ((List.length x0 : Nat) : Int))) = true then (if ((decide ((0 : Int) ≤ x2)) && (decide (x2 < ((List.length x0 : Nat) : Int)))) = true then (andThen (f87 N (List.getD x0 (Int.toNat x2) ([] : List Int))) fun y2 => (andThen (f87 N x1) fun y3 => (if (decide (y2 > y3)) = true then (if ((decide ((0 : Int) ≤ x2)) && (decide (x2 < ((List.length x0 : Nat) : Int)))) = true then (go x0 (List.getD x0 (Int.toNat x2) ([] : List Int)) (Go.IntKind.wrap .i64 (x2 + (1 : Int)))) else none) else (go x0 x1 (Go.IntKind.wrap .i64 (x2 + (1 : Int))))))) else none) else (some x1))
noncomputable def f35l0 (N : Nat) : Nat → (List Yli) → Yli → Int → Option (Yli) | 0 => fun _ _ _ => none | q + 1 => f35l0B N (f35l0 N q)
noncomputable def f35l0o (N : Nat) : List (Nat × Orc) := []
theorem f35l0eq (N : Nat) (go : (List Yli) → Yli → Int → Option (Yli)) (x : f35l0tv.Y) : codeK Try.prog hint (callsL (f35calls N)) (orcsL (f35l0o N)) 33 f35l0c 1 (f35l0tv.enc x) (loopK f35l0tv f35l0E (fun x => go x.1 x.2.1 x.2.2)) = f35l0B N go x.1 x.2.1 x.2.2 := by kernel_rfl
theorem f35l0oOk (N : Nat) : OrcsOk Try.prog false 33 f35l0c (orcsL (f35l0o N)) := orcsL_nil
theorem f35l0ok (N : Nat) (M : Nat) : OrcOk Try.prog false 33 (.loop f35l0c) (cutOrc f35l0tv f35l0E (fun x => f35l0 N M x.1 x.2.1 x.2.2)) := loop_ok mixed eqOk (f35callsOk N) (f35l0oOk N) (fun _ => rfl) (fun q x o h => (f35l0eq N (f35l0 N q) x).trans h) M
noncomputable def f35 (N : Nat) (x0 : Yls) (x1 : Yls) : Option (Yli) := (andThen (f86 N N x0 x1 ([] : List Int)) fun y1 => (if ((decide ((0 : Int) ≤ (0 : Int))) && (decide ((0 : Int) < ((List.length y1 : Nat) : Int)))) = true then (andThen (f35l0 N N y1 (List.getD y1 (Int.toNat (0 : Int)) ([] : List Int)) (1 : Int)) fun y4 => (some y4)) else none))
noncomputable def f35orc (N : Nat) : List (Nat × Orc) := [(122, cutOrc f35l0tv f35l0E (fun x => f35l0 N N x.1 x.2.1 x.2.2))]
theorem f35eq (N : Nat) (x : f35iv.Y) : codeK Try.prog hint (callsL (f35calls N)) (orcsL (f35orc N)) 33 f35c 1 (f35iv.enc x) (fnKv Try.prog [.tmp 4] f35ov) = f35 N x.1 x.2 := by kernel_rfl
theorem f35orcOk (N : Nat) : OrcsOk Try.prog false 33 f35c (orcsL (f35orc N)) := (orcsL_cons (c := .loop f35l0c) (by kernel_rfl) (f35l0ok N N) orcsL_nil)
noncomputable def f35call (N : Nat) : CallS := callOf 33 f35iv f35ov (fun x => f35 N x.1 x.2)
theorem f35ok (N : Nat) : CallOk Try.prog 35 (f35call N) := fn_ok (g := 35) (fn := Try.f35) (body := f35c) (n := 33) (rs := [.tmp 4]) mixed eqOk (f35callsOk N) (by kernel_rfl) (by kernel_rfl) (by kernel_rfl) (by kernel_rfl) (f35orcOk N) (by kernel_rfl) (Vi := f35iv) (Vo := f35ov) (F := fun x => f35 N x.1 x.2) (fun x y h => (f35eq N x).trans h)
end Go.Proofs


namespace Go.Proofs
open Go.Al
noncomputable def f91i : Tm := ⟨[0], [], [.one (.v (.int .i64))]⟩
noncomputable def f91iv : Vw f91i := { Y := Int, fromT := fun t => t.1, outT := fun y => (y, ()), inv := fun _ => rfl }
noncomputable def f91o : Tm := ⟨[0], [(.box 1)], [.one (.fn 112 [(.box 1)]), .one (.v (.int .i64))]⟩
noncomputable def f91ov : Vw f91o := { Y := Int, fromT := fun t => t.2.1, outT := fun y => ((), y, ()), inv := fun _ => rfl }
@[reducible] noncomputable def f91c : Code := bodyOf Try.f91
noncomputable def f91calls (N : Nat) : List (Nat × CallS) := []
theorem f91callsOk (N : Nat) : CallsOk Try.prog (callsL (f91calls N)) := callsL_nil
noncomputable def f91 (N : Nat) (x0 : Int) : Option (Int) := (some x0)
noncomputable def f91orc (N : Nat) : List (Nat × Orc) := []
theorem f91eq (N : Nat) (x : f91iv.Y) : codeK Try.prog hint (callsL (f91calls N)) (orcsL (f91orc N)) 4 f91c 1 (f91iv.enc x) (fnKv Try.prog [.tmp 2] f91ov) = f91 N x := by kernel_rfl
theorem f91orcOk (N : Nat) : OrcsOk Try.prog false 4 f91c (orcsL (f91orc N)) := orcsL_nil
noncomputable def f91call (N : Nat) : CallS := callOf 4 f91iv f91ov (fun x => f91 N x)
theorem f91ok (N : Nat) : CallOk Try.prog 91 (f91call N) := fn_ok (g := 91) (fn := Try.f91) (body := f91c) (n := 4) (rs := [.tmp 2]) mixed eqOk (f91callsOk N) (by kernel_rfl) (by kernel_rfl) (by kernel_rfl) (by kernel_rfl) (f91orcOk N) (by kernel_rfl) (Vi := f91iv) (Vo := f91ov) (F := fun x => f91 N x) (fun x y h => (f91eq N x).trans h)
end Go.Proofs


namespace Go.Proofs
open Go.Al
noncomputable def y0i : Tm := ⟨[0, 1, 2], [(.outer 0), (.outer 1), (.outer 2), (.outer 3)], [.one (.vn (.int .i64)), .one (.v (.int .i64)), .one (.ptr (.outer 0) 0 0), .lp 38 [122] [2, 3, 5] [.ptr (.outer 1) 0 1, .ptr (.outer 2) 0 1, .ptr (.outer 3) 0 5], .one (.v (.list (.int .i64))), .one (.v (.int .i64)), .agg [.v (.list T0), .v T1, .v T3, .v (.list T4), .v (.list T5)]]⟩
noncomputable def y0iv : Vw y0i := { Y := (Bool × List Int) × Int × Int × Yli × Int × Yls × Ylp × Ylc × Ylg × Yln, fromT := fun t => (t.1, t.2.1, t.2.2.2.1.1, t.2.2.2.2.1, t.2.2.2.2.2.1, t.2.2.2.2.2.2.1.1, t.2.2.2.2.2.2.1.2.1, t.2.2.2.2.2.2.1.2.2.1, t.2.2.2.2.2.2.1.2.2.2.1, t.2.2.2.2.2.2.1.2.2.2.2.1), outT := fun y => (y.1, y.2.1, (), (y.2.2.1, (), (), (), ()), y.2.2.2.1, y.2.2.2.2.1, (y.2.2.2.2.2.1, y.2.2.2.2.2.2.1, y.2.2.2.2.2.2.2.1, y.2.2.2.2.2.2.2.2.1, y.2.2.2.2.2.2.2.2.2, ()), ()), inv := fun _ => rfl }
noncomputable def y0o : Tm := ⟨[0], [(.outer 0), (.outer 1), (.outer 2), (.outer 3)], [.one (.v .bool), .lp 38 [122] [2, 3, 5] [.ptr (.outer 1) 0 1, .ptr (.outer 2) 0 1, .ptr (.outer 3) 0 5], .one (.v (.list (.int .i64))), .one (.v (.int .i64)), .agg [.v (.list T0), .v T1, .v T3, .v (.list T4), .v (.list T5)]]⟩
noncomputable def y0ov : Vw y0o := { Y := Bool × Int × Yli × Int × Yls × Ylp × Ylc × Ylg × Yln, fromT := fun t => (t.1, t.2.1.1, t.2.2.1, t.2.2.2.1, t.2.2.2.2.1.1, t.2.2.2.2.1.2.1, t.2.2.2.2.1.2.2.1, t.2.2.2.2.1.2.2.2.1, t.2.2.2.2.1.2.2.2.2.1), outT := fun y => (y.1, (y.2.1, (), (), (), ()), y.2.2.1, y.2.2.2.1, (y.2.2.2.2.1, y.2.2.2.2.2.1, y.2.2.2.2.2.2.1, y.2.2.2.2.2.2.2.1, y.2.2.2.2.2.2.2.2, ()), ()), inv := fun _ => rfl }
@[reducible] noncomputable def y0a : Code := rngC (rngAt Try.prog 38 [122]) true
@[reducible] noncomputable def y0b : Code := rngC (rngAt Try.prog 38 [122]) false
@[reducible] noncomputable def y0c : Code := .seq y0a y0b
noncomputable def y0calls (N : Nat) : List (Nat × CallS) := [(92, f92call N), (93, f93call N)]
theorem y0callsOk (N : Nat) : CallsOk Try.prog (callsL (y0calls N)) := (callsL_cons (fun _ => Enters.of (fn := Try.f92) (by kernel_rfl) (by kernel_rfl) (by kernel_rfl)) (f92ok N) (callsL_cons (fun _ => Enters.of (fn := Try.f93) (by kernel_rfl) (by kernel_rfl) (by kernel_rfl)) (f93ok N) callsL_nil))
noncomputable def y0 (N : Nat) (x0 : (Bool × List Int)) (x1 : Int) (x2 : Int) (x3 : Yli) (x4 : Int) (x5 : Yls) (x6 : Ylp) (x7 : Ylc) (x8 : Ylg) (x9 : Yln) : Option (Bool × Int × Yli × Int × Yls × Ylp × Ylc × Ylg × Yln) := (if (x2 == (0 : Int)) = true then (if (x2 == (0 : Int)) = true then (andThen (f92 N x5 x6 x7 x8 x9 x1 ([] : List ((Int × (Int × Bool)) ⊕ (Int × ((Int × Int) × Int))))) fun y1 => (if (!y1.2) = true then (some (true, (0 : Int), x3, x4, x5, x6, x7, x8, x9)) else (if x0.1 = true then (some (false, (1 : Int), ([] : List Int), (6 : Int), x5, x6, x7, x8, x9)) else (andThen (f93 N (x0.1, x0.2)) fun y2 => (some (false, (1 : Int), y2.2, (0 : Int), x5, x6, x7, x8, x9)))))) else none) else none)
noncomputable def y0orc (N : Nat) : List (Nat × Orc) := []
theorem y0eq (N : Nat) (x : y0iv.Y) : yK Try.prog hint (callsL (y0calls N)) (orcsL (y0orc N)) 35 38 [122] [2, 3, 5] [21, 22] y0a y0b y0ov (y0iv.enc x) = y0 N x.1 x.2.1 x.2.2.1 x.2.2.2.1 x.2.2.2.2.1 x.2.2.2.2.2.1 x.2.2.2.2.2.2.1 x.2.2.2.2.2.2.2.1 x.2.2.2.2.2.2.2.2.1 x.2.2.2.2.2.2.2.2.2 := by kernel_rfl
theorem y0orcOk (N : Nat) : OrcsOk Try.prog true 35 y0c (orcsL (y0orc N)) := orcsL_nil
noncomputable def y0call (N : Nat) : CallS := yldOf 3 y0iv y0ov (fun x => y0 N x.1 x.2.1 x.2.2.1 x.2.2.2.1 x.2.2.2.2.1 x.2.2.2.2.2.1 x.2.2.2.2.2.2.1 x.2.2.2.2.2.2.2.1 x.2.2.2.2.2.2.2.2.1 x.2.2.2.2.2.2.2.2.2)
theorem y0ok (N : Nat) : CallOk Try.prog 4294967296 (y0call N) := yld_ok (n := 35) (g := 38) (p := [122]) (ts := [2, 3, 5]) (ps := [21, 22]) (assign := y0a) (body := y0b) mixed eqOk (y0callsOk N) rfl (by kernel_rfl) (y0orcOk N) (by kernel_rfl) (Vi := y0iv) (Vo := y0ov) (F := fun x => y0 N x.1 x.2.1 x.2.2.1 x.2.2.2.1 x.2.2.2.2.1 x.2.2.2.2.2.1 x.2.2.2.2.2.2.1 x.2.2.2.2.2.2.2.1 x.2.2.2.2.2.2.2.2.1 x.2.2.2.2.2.2.2.2.2) (fun x y h => (y0eq N x).trans h)
end Go.Proofs


namespace Go.Proofs
open Go.Al
noncomputable def f113i : Tm := ⟨[0, 1, 2, 3, 4, 5, 6], [(.outer 0), (.outer 1), (.outer 2), (.outer 3), (.outer 4), (.outer 5), (.outer 6)], [.one (.vn (.int .i64)), .one (.v (.int .i64)), .one (.v (.int .i64)), .one (.v (.int .i64)), .one (.ptr (.outer 0) 0 1), .one (.ptr (.outer 1) 0 1), .one (.ptr (.outer 2) 0 1), .one (.fn 4294967296 [(.outer 3)]), .one (.v (.int .i64)), .one (.fn 113 [(.outer 0), (.outer 1), (.outer 2)]), .lp 38 [122] [2, 3, 5] [.ptr (.outer 4) 0 1, .ptr (.outer 5) 0 1, .ptr (.outer 6) 0 5], .one (.v (.list (.int .i64))), .one (.v (.int .i64)), .agg [.v (.list T0), .v T1, .v T3, .v (.list T4), .v (.list T5)]]⟩
noncomputable def f113iv : Vw f113i := { Y := (Bool × List Int) × Int × Int × Int × Int × Int × Yli × Int × Yls × Ylp × Ylc × Ylg × Yln, fromT := fun t => (t.1, t.2.1, t.2.2.1, t.2.2.2.1, t.2.2.2.2.2.2.2.2.1, t.2.2.2.2.2.2.2.2.2.2.1.1, t.2.2.2.2.2.2.2.2.2.2.2.1, t.2.2.2.2.2.2.2.2.2.2.2.2.1, t.2.2.2.2.2.2.2.2.2.2.2.2.2.1.1, t.2.2.2.2.2.2.2.2.2.2.2.2.2.1.2.1, t.2.2.2.2.2.2.2.2.2.2.2.2.2.1.2.2.1, t.2.2.2.2.2.2.2.2.2.2.2.2.2.1.2.2.2.1, t.2.2.2.2.2.2.2.2.2.2.2.2.2.1.2.2.2.2.1), outT := fun y => (y.1, y.2.1, y.2.2.1, y.2.2.2.1, (), (), (), (), y.2.2.2.2.1, (), (y.2.2.2.2.2.1, (), (), (), ()), y.2.2.2.2.2.2.1, y.2.2.2.2.2.2.2.1, (y.2.2.2.2.2.2.2.2.1, y.2.2.2.2.2.2.2.2.2.1, y.2.2.2.2.2.2.2.2.2.2.1, y.2.2.2.2.2.2.2.2.2.2.2.1, y.2.2.2.2.2.2.2.2.2.2.2.2, ()), ()), inv := fun _ => rfl }
noncomputable def f113o : Tm := ⟨[0], [(.outer 0), (.outer 1), (.outer 2), (.outer 3), (.outer 4), (.outer 5), (.outer 6)], [.one (.v .bool), .one (.fn 4294967296 [(.outer 3)]), .one (.v (.int .i64)), .one (.fn 113 [(.outer 0), (.outer 1), (.outer 2)]), .lp 38 [122] [2, 3, 5] [.ptr (.outer 4) 0 1, .ptr (.outer 5) 0 1, .ptr (.outer 6) 0 5], .one (.v (.list (.int .i64))), .one (.v (.int .i64)), .agg [.v (.list T0), .v T1, .v T3, .v (.list T4), .v (.list T5)]]⟩
noncomputable def f113ov : Vw f113o := { Y := Bool × Int × Int × Yli × Int × Yls × Ylp × Ylc × Ylg × Yln, fromT := fun t => (t.1, t.2.2.1, t.2.2.2.2.1.1, t.2.2.2.2.2.1, t.2.2.2.2.2.2.1, t.2.2.2.2.2.2.2.1.1, t.2.2.2.2.2.2.2.1.2.1, t.2.2.2.2.2.2.2.1.2.2.1, t.2.2.2.2.2.2.2.1.2.2.2.1, t.2.2.2.2.2.2.2.1.2.2.2.2.1), outT := fun y => (y.1, (), y.2.1, (), (y.2.2.1, (), (), (), ()), y.2.2.2.1, y.2.2.2.2.1, (y.2.2.2.2.2.1, y.2.2.2.2.2.2.1, y.2.2.2.2.2.2.2.1, y.2.2.2.2.2.2.2.2.1, y.2.2.2.2.2.2.2.2.2, ()), ()), inv := fun _ => rfl }
@[reducible] noncomputable def f113c : Code := bodyOf Try.f113
noncomputable def f113calls (N : Nat) (rc : (Bool × List Int) → Int → Int → Int → Int → Int → Yli → Int → Yls → Ylp → Ylc → Ylg → Yln → Option (Bool × Int × Int × Yli × Int × Yls × Ylp × Ylc × Ylg × Yln)) : List (Nat × CallS) := [(4294967296, y0call N), (108, f108call N), (113, callOf 41 f113iv f113ov (fun x => rc x.1 x.2.1 x.2.2.1 x.2.2.2.1 x.2.2.2.2.1 x.2.2.2.2.2.1 x.2.2.2.2.2.2.1 x.2.2.2.2.2.2.2.1 x.2.2.2.2.2.2.2.2.1 x.2.2.2.2.2.2.2.2.2.1 x.2.2.2.2.2.2.2.2.2.2.1 x.2.2.2.2.2.2.2.2.2.2.2.1 x.2.2.2.2.2.2.2.2.2.2.2.2))]
theorem f113callsOk (N : Nat) (rc : (Bool × List Int) → Int → Int → Int → Int → Int → Yli → Int → Yls → Ylp → Ylc → Ylg → Yln → Option (Bool × Int × Int × Yli × Int × Yls × Ylp × Ylc × Ylg × Yln)) (hrc : CallOk Try.prog 113 (callOf 41 f113iv f113ov (fun x => rc x.1 x.2.1 x.2.2.1 x.2.2.2.1 x.2.2.2.2.1 x.2.2.2.2.2.1 x.2.2.2.2.2.2.1 x.2.2.2.2.2.2.2.1 x.2.2.2.2.2.2.2.2.1 x.2.2.2.2.2.2.2.2.2.1 x.2.2.2.2.2.2.2.2.2.2.1 x.2.2.2.2.2.2.2.2.2.2.2.1 x.2.2.2.2.2.2.2.2.2.2.2.2))) : CallsOk Try.prog (callsL (f113calls N rc)) := (callsL_cons (yEnters rfl) (y0ok N) (callsL_cons (fun _ => Enters.of (fn := Try.f108) (by kernel_rfl) (by kernel_rfl) (by kernel_rfl)) (f108ok N) (callsL_cons (fun _ => Enters.of (fn := Try.f113) (by kernel_rfl) (by kernel_rfl) (by kernel_rfl)) hrc callsL_nil)))
@[reducible] noncomputable def f113l0c : Code := loopOf (codeOf (f113c) 58)
noncomputable def f113l0t : Tm := ⟨[0, 1, 3, 5, 6, 12], [(.outer 0), (.outer 1), (.outer 2), (.outer 3), (.outer 4), (.outer 5), (.outer 6)], [.one (.v (.list (.int .i64))), .one (.v (.int .i64)), .one (.v (.int .i64)), .one (.ptr (.outer 1) 0 1), .one (.ptr (.outer 2) 0 1), .one (.v (.int .i64)), .one (.fn 4294967296 [(.outer 3)]), .one (.v (.int .i64)), .one (.fn 113 [(.outer 0), (.outer 1), (.outer 2)]), .lp 38 [122] [2, 3, 5] [.ptr (.outer 4) 0 1, .ptr (.outer 5) 0 1, .ptr (.outer 6) 0 5], .one (.v (.list (.int .i64))), .one (.v (.int .i64)), .agg [.v (.list T0), .v T1, .v T3, .v (.list T4), .v (.list T5)]]⟩
noncomputable def f113l0tv : Vw f113l0t := { Y := Yli × Int × Int × Int × Int × Int × Yli × Int × Yls × Ylp × Ylc × Ylg × Yln, fromT := fun t => (t.1, t.2.1, t.2.2.1, t.2.2.2.2.2.1, t.2.2.2.2.2.2.2.1, t.2.2.2.2.2.2.2.2.2.1.1, t.2.2.2.2.2.2.2.2.2.2.1, t.2.2.2.2.2.2.2.2.2.2.2.1, t.2.2.2.2.2.2.2.2.2.2.2.2.1.1, t.2.2.2.2.2.2.2.2.2.2.2.2.1.2.1, t.2.2.2.2.2.2.2.2.2.2.2.2.1.2.2.1, t.2.2.2.2.2.2.2.2.2.2.2.2.1.2.2.2.1, t.2.2.2.2.2.2.2.2.2.2.2.2.1.2.2.2.2.1), outT := fun y => (y.1, y.2.1, y.2.2.1, (), (), y.2.2.2.1, (), y.2.2.2.2.1, (), (y.2.2.2.2.2.1, (), (), (), ()), y.2.2.2.2.2.2.1, y.2.2.2.2.2.2.2.1, (y.2.2.2.2.2.2.2.2.1, y.2.2.2.2.2.2.2.2.2.1, y.2.2.2.2.2.2.2.2.2.2.1, y.2.2.2.2.2.2.2.2.2.2.2.1, y.2.2.2.2.2.2.2.2.2.2.2.2, ()), ()), inv := fun _ => rfl }
noncomputable def f113l0e0 : Tm := ⟨[11], [(.outer 0), (.outer 1), (.outer 2), (.outer 3), (.outer 4), (.outer 5), (.outer 6)], [.one (.v .bool), .one (.fn 4294967296 [(.outer 3)]), .one (.v (.int .i64)), .one (.fn 113 [(.outer 0), (.outer 1), (.outer 2)]), .lp 38 [122] [2, 3, 5] [.ptr (.outer 4) 0 1, .ptr (.outer 5) 0 1, .ptr (.outer 6) 0 5], .one (.v (.list (.int .i64))), .one (.v (.int .i64)), .agg [.v (.list T0), .v T1, .v T3, .v (.list T4), .v (.list T5)]]⟩
noncomputable def f113l0e0v : Vw f113l0e0 := { Y := Bool × Int × Int × Yli × Int × Yls × Ylp × Ylc × Ylg × Yln, fromT := fun t => (t.1, t.2.2.1, t.2.2.2.2.1.1, t.2.2.2.2.2.1, t.2.2.2.2.2.2.1, t.2.2.2.2.2.2.2.1.1, t.2.2.2.2.2.2.2.1.2.1, t.2.2.2.2.2.2.2.1.2.2.1, t.2.2.2.2.2.2.2.1.2.2.2.1, t.2.2.2.2.2.2.2.1.2.2.2.2.1), outT := fun y => (y.1, (), y.2.1, (), (y.2.2.1, (), (), (), ()), y.2.2.2.1, y.2.2.2.2.1, (y.2.2.2.2.2.1, y.2.2.2.2.2.2.1, y.2.2.2.2.2.2.2.1, y.2.2.2.2.2.2.2.2.1, y.2.2.2.2.2.2.2.2.2, ()), ()), inv := fun _ => rfl }
noncomputable def f113l0e1 : Tm := ⟨[], [(.outer 0), (.outer 1), (.outer 2), (.outer 3), (.outer 4), (.outer 5), (.outer 6)], [.one (.fn 4294967296 [(.outer 3)]), .one (.v (.int .i64)), .one (.fn 113 [(.outer 0), (.outer 1), (.outer 2)]), .lp 38 [122] [2, 3, 5] [.ptr (.outer 4) 0 1, .ptr (.outer 5) 0 1, .ptr (.outer 6) 0 5], .one (.v (.list (.int .i64))), .one (.v (.int .i64)), .agg [.v (.list T0), .v T1, .v T3, .v (.list T4), .v (.list T5)]]⟩
noncomputable def f113l0e1v : Vw f113l0e1 := { Y := Int × Int × Yli × Int × Yls × Ylp × Ylc × Ylg × Yln, fromT := fun t => (t.2.1, t.2.2.2.1.1, t.2.2.2.2.1, t.2.2.2.2.2.1, t.2.2.2.2.2.2.1.1, t.2.2.2.2.2.2.1.2.1, t.2.2.2.2.2.2.1.2.2.1, t.2.2.2.2.2.2.1.2.2.2.1, t.2.2.2.2.2.2.1.2.2.2.2.1), outT := fun y => ((), y.1, (), (y.2.1, (), (), (), ()), y.2.2.1, y.2.2.2.1, (y.2.2.2.2.1, y.2.2.2.2.2.1, y.2.2.2.2.2.2.1, y.2.2.2.2.2.2.2.1, y.2.2.2.2.2.2.2.2, ()), ()), inv := fun _ => rfl }
@[reducible] noncomputable def f113l0E : List Ex := [⟨.ret, f113l0e0, f113l0e0v⟩, ⟨(.ext 0), f113l0e1, f113l0e1v⟩]
noncomputable def f113l0B (N : Nat) (rc : (Bool × List Int) → Int → Int → Int → Int → Int → Yli → Int → Yls → Ylp → Ylc → Ylg → Yln → Option (Bool × Int × Int × Yli × Int × Yls × Ylp × Ylc × Ylg × Yln)) (go : Yli → Int → Int → Int → Int → Int → Yli → Int → Yls → Ylp → Ylc → Ylg → Yln → Option (((Bool × Int × Int × Yli × Int × Yls × Ylp × Ylc × Ylg × Yln) ⊕ Int × Int × Yli × Int × Yls × Ylp × Ylc × Ylg × Yln))) (x0 : Yli) (x1 : Int) (x2 : Int) (x3 : Int) (x4 : Int) (x5 : Int) (x6 : Yli) (x7 : Int) (x8 : Yls) (x9 : Ylp) (x10 : Ylc) (x11 : Ylg) (x12 : Yln) : Option (((Bool × Int × Int × Yli × Int × Yls × Ylp × Ylc × Ylg × Yln) ⊕ Int × Int × Yli × Int × Yls × Ylp × Ylc × Ylg × Yln)) := (if (decide (x3 < x4)) = true then (andThen (f108 N x0) fun y2 => (if (Nat.ble ((List.length y2) + (List.length ([x3] : List Int))) Go.Al.boundLen) = true then (if (decide ((0 : Int) ≤ x3)) = true then (andThen (rc (false, (y2 ++ ([x3] : List Int))) (Go.IntKind.wrap .i64 (((((BitVec.ofInt (Go.IntKind.bits .i64) x1) ||| (BitVec.ofInt (Go.IntKind.bits .i64) (Go.IntKind.wrap .i64 ((1 : Int) * (2 ^ (min (Int.toNat x3) (Go.IntKind.bits .i64)))))))).toNat : Nat) : Int)) (Go.IntKind.wrap .i64 (x3 + (1 : Int))) (Go.IntKind.wrap .i64 (x2 - (1 : Int))) x4 x5 x6 x7 x8 x9 x10 x11 x12) fun y3 => (if (!y3.1) = true then (some (Sum.inl (false, y3.2.1, y3.2.2.1, y3.2.2.2.1, y3.2.2.2.2.1, y3.2.2.2.2.2.1, y3.2.2.2.2.2.2.1, y3.2.2.2.2.2.2.2.1, y3.2.2.2.2.2.2.2.2.1, y3.2.2.2.2.2.2.2.2.2))) else (go x0 x1 x2 (Go.IntKind.wrap .i64 (x3 + (1 : Int))) y3.2.1 y3.2.2.1 y3.2.2.2.1 y3.2.2.2.2.1 y3.2.2.2.2.2.1 y3.2.2.2.2.2.2.1 y3.2.2.2.2.2.2.2.1 y3.2.2.2.2.2.2.2.2.1 y3.2.2.2.2.2.2.2.2.2))) else none) else none)) else (some (Sum.inr (x4, x5, x6, x7, x8, x9, x10, x11, x12))))
noncomputable def f113l0 (N : Nat) (rc : (Bool × List Int) → Int → Int → Int → Int → Int → Yli → Int → Yls → Ylp → Ylc → Ylg → Yln → Option (Bool × Int × Int × Yli × Int × Yls × Ylp × Ylc × Ylg × Yln)) : Nat → Yli → Int → Int → Int → Int → Int → Yli → Int → Yls → Ylp → Ylc → Ylg → Yln → Option (((Bool × Int × Int × Yli × Int × Yls × Ylp × Ylc × Ylg × Yln) ⊕ Int × Int × Yli × Int × Yls × Ylp × Ylc × Ylg × Yln)) | 0 => fun _ _ _ _ _ _ _ _ _ _ _ _ _ => none | q + 1 => f113l0B N rc (f113l0 N rc q)
noncomputable def f113l0o (N : Nat) (rc : (Bool × List Int) → Int → Int → Int → Int → Int → Yli → Int → Yls → Ylp → Ylc → Ylg → Yln → Option (Bool × Int × Int × Yli × Int × Yls × Ylp × Ylc × Ylg × Yln)) : List (Nat × Orc) := []
theorem f113l0eq (N : Nat) (rc : (Bool × List Int) → Int → Int → Int → Int → Int → Yli → Int → Yls → Ylp → Ylc → Ylg → Yln → Option (Bool × Int × Int × Yli × Int × Yls × Ylp × Ylc × Ylg × Yln)) (go : Yli → Int → Int → Int → Int → Int → Yli → Int → Yls → Ylp → Ylc → Ylg → Yln → Option (((Bool × Int × Int × Yli × Int × Yls × Ylp × Ylc × Ylg × Yln) ⊕ Int × Int × Yli × Int × Yls × Ylp × Ylc × Ylg × Yln))) (x : f113l0tv.Y) : codeK Try.prog hint (callsL (f113calls N rc)) (orcsL (f113l0o N rc)) 41 f113l0c 1 (f113l0tv.enc x) (loopK f113l0tv f113l0E (fun x => go x.1 x.2.1 x.2.2.1 x.2.2.2.1 x.2.2.2.2.1 x.2.2.2.2.2.1 x.2.2.2.2.2.2.1 x.2.2.2.2.2.2.2.1 x.2.2.2.2.2.2.2.2.1 x.2.2.2.2.2.2.2.2.2.1 x.2.2.2.2.2.2.2.2.2.2.1 x.2.2.2.2.2.2.2.2.2.2.2.1 x.2.2.2.2.2.2.2.2.2.2.2.2)) = f113l0B N rc go x.1 x.2.1 x.2.2.1 x.2.2.2.1 x.2.2.2.2.1 x.2.2.2.2.2.1 x.2.2.2.2.2.2.1 x.2.2.2.2.2.2.2.1 x.2.2.2.2.2.2.2.2.1 x.2.2.2.2.2.2.2.2.2.1 x.2.2.2.2.2.2.2.2.2.2.1 x.2.2.2.2.2.2.2.2.2.2.2.1 x.2.2.2.2.2.2.2.2.2.2.2.2 := by kernel_rfl
theorem f113l0oOk (N : Nat) (rc : (Bool × List Int) → Int → Int → Int → Int → Int → Yli → Int → Yls → Ylp → Ylc → Ylg → Yln → Option (Bool × Int × Int × Yli × Int × Yls × Ylp × Ylc × Ylg × Yln)) (hrc : CallOk Try.prog 113 (callOf 41 f113iv f113ov (fun x => rc x.1 x.2.1 x.2.2.1 x.2.2.2.1 x.2.2.2.2.1 x.2.2.2.2.2.1 x.2.2.2.2.2.2.1 x.2.2.2.2.2.2.2.1 x.2.2.2.2.2.2.2.2.1 x.2.2.2.2.2.2.2.2.2.1 x.2.2.2.2.2.2.2.2.2.2.1 x.2.2.2.2.2.2.2.2.2.2.2.1 x.2.2.2.2.2.2.2.2.2.2.2.2))) : OrcsOk Try.prog false 41 f113l0c (orcsL (f113l0o N rc)) := orcsL_nil
theorem f113l0ok (N : Nat) (rc : (Bool × List Int) → Int → Int → Int → Int → Int → Yli → Int → Yls → Ylp → Ylc → Ylg → Yln → Option (Bool × Int × Int × Yli × Int × Yls × Ylp × Ylc × Ylg × Yln)) (hrc : CallOk Try.prog 113 (callOf 41 f113iv f113ov (fun x => rc x.1 x.2.1 x.2.2.1 x.2.2.2.1 x.2.2.2.2.1 x.2.2.2.2.2.1 x.2.2.2.2.2.2.1 x.2.2.2.2.2.2.2.1 x.2.2.2.2.2.2.2.2.1 x.2.2.2.2.2.2.2.2.2.1 x.2.2.2.2.2.2.2.2.2.2.1 x.2.2.2.2.2.2.2.2.2.2.2.1 x.2.2.2.2.2.2.2.2.2.2.2.2))) (M : Nat) : OrcOk Try.prog false 41 (.loop f113l0c) (cutOrc f113l0tv f113l0E (fun x => f113l0 N rc M x.1 x.2.1 x.2.2.1 x.2.2.2.1 x.2.2.2.2.1 x.2.2.2.2.2.1 x.2.2.2.2.2.2.1 x.2.2.2.2.2.2.2.1 x.2.2.2.2.2.2.2.2.1 x.2.2.2.2.2.2.2.2.2.1 x.2.2.2.2.2.2.2.2.2.2.1 x.2.2.2.2.2.2.2.2.2.2.2.1 x.2.2.2.2.2.2.2.2.2.2.2.2)) := loop_ok mixed eqOk (f113callsOk N rc hrc) (f113l0oOk N rc hrc) (fun _ => rfl) (fun q x o h => (f113l0eq N rc (f113l0 N rc q) x).trans h) M
noncomputable def f113B (N : Nat) (rc : (Bool × List Int) → Int → Int → Int → Int → Int → Yli → Int → Yls → Ylp → Ylc → Ylg → Yln → Option (Bool × Int × Int × Yli × Int × Yls × Ylp × Ylc × Ylg × Yln)) (x0 : (Bool × List Int)) (x1 : Int) (x2 : Int) (x3 : Int) (x4 : Int) (x5 : Int) (x6 : Yli) (x7 : Int) (x8 : Yls) (x9 : Ylp) (x10 : Ylc) (x11 : Ylg) (x12 : Yln) : Option (Bool × Int × Int × Yli × Int × Yls × Ylp × Ylc × Ylg × Yln) := (if (x3 == (0 : Int)) = true then (andThen (y0 N (x0.1, x0.2) x1 x5 x6 x7 x8 x9 x10 x11 x12) fun y1 => (some (y1.1, x4, y1.2.1, y1.2.2.1, y1.2.2.2.1, y1.2.2.2.2.1, y1.2.2.2.2.2.1, y1.2.2.2.2.2.2.1, y1.2.2.2.2.2.2.2.1, y1.2.2.2.2.2.2.2.2))) else (andThen (f113l0 N rc N x0.2 x1 x3 x2 x4 x5 x6 x7 x8 x9 x10 x11 x12) fun y4 => (either y4 (fun a5 => (some (a5.1, a5.2.1, a5.2.2.1, a5.2.2.2.1, a5.2.2.2.2.1, a5.2.2.2.2.2.1, a5.2.2.2.2.2.2.1, a5.2.2.2.2.2.2.2.1, a5.2.2.2.2.2.2.2.2.1, a5.2.2.2.2.2.2.2.2.2))) (fun b6 => (some (true, b6.1, b6.2.1, b6.2.2.1, b6.2.2.2.1, b6.2.2.2.2.1, b6.2.2.2.2.2.1, b6.2.2.2.2.2.2.1, b6.2.2.2.2.2.2.2.1, b6.2.2.2.2.2.2.2.2))))))
noncomputable def f113 (N : Nat) : Nat → (Bool × List Int) → Int → Int → Int → Int → Int → Yli → Int → Yls → Ylp → Ylc → Ylg → Yln → Option (Bool × Int × Int × Yli × Int × Yls × Ylp × Ylc × Ylg × Yln) | 0 => fun _ _ _ _ _ _ _ _ _ _ _ _ _ => none | q + 1 => f113B N (f113 N q)
noncomputable def f113orc (N : Nat) (rc : (Bool × List Int) → Int → Int → Int → Int → Int → Yli → Int → Yls → Ylp → Ylc → Ylg → Yln → Option (Bool × Int × Int × Yli × Int × Yls × Ylp × Ylc × Ylg × Yln)) : List (Nat × Orc) := [(58, cutOrc f113l0tv f113l0E (fun x => f113l0 N rc N x.1 x.2.1 x.2.2.1 x.2.2.2.1 x.2.2.2.2.1 x.2.2.2.2.2.1 x.2.2.2.2.2.2.1 x.2.2.2.2.2.2.2.1 x.2.2.2.2.2.2.2.2.1 x.2.2.2.2.2.2.2.2.2.1 x.2.2.2.2.2.2.2.2.2.2.1 x.2.2.2.2.2.2.2.2.2.2.2.1 x.2.2.2.2.2.2.2.2.2.2.2.2))]
theorem f113eq (N : Nat) (rc : (Bool × List Int) → Int → Int → Int → Int → Int → Yli → Int → Yls → Ylp → Ylc → Ylg → Yln → Option (Bool × Int × Int × Yli × Int × Yls × Ylp × Ylc × Ylg × Yln)) (x : f113iv.Y) : codeK Try.prog hint (callsL (f113calls N rc)) (orcsL (f113orc N rc)) 41 f113c 1 (f113iv.enc x) (fnKv Try.prog [.tmp 11] f113ov) = f113B N rc x.1 x.2.1 x.2.2.1 x.2.2.2.1 x.2.2.2.2.1 x.2.2.2.2.2.1 x.2.2.2.2.2.2.1 x.2.2.2.2.2.2.2.1 x.2.2.2.2.2.2.2.2.1 x.2.2.2.2.2.2.2.2.2.1 x.2.2.2.2.2.2.2.2.2.2.1 x.2.2.2.2.2.2.2.2.2.2.2.1 x.2.2.2.2.2.2.2.2.2.2.2.2 := by kernel_rfl
theorem f113orcOk (N : Nat) (rc : (Bool × List Int) → Int → Int → Int → Int → Int → Yli → Int → Yls → Ylp → Ylc → Ylg → Yln → Option (Bool × Int × Int × Yli × Int × Yls × Ylp × Ylc × Ylg × Yln)) (hrc : CallOk Try.prog 113 (callOf 41 f113iv f113ov (fun x => rc x.1 x.2.1 x.2.2.1 x.2.2.2.1 x.2.2.2.2.1 x.2.2.2.2.2.1 x.2.2.2.2.2.2.1 x.2.2.2.2.2.2.2.1 x.2.2.2.2.2.2.2.2.1 x.2.2.2.2.2.2.2.2.2.1 x.2.2.2.2.2.2.2.2.2.2.1 x.2.2.2.2.2.2.2.2.2.2.2.1 x.2.2.2.2.2.2.2.2.2.2.2.2))) : OrcsOk Try.prog false 41 f113c (orcsL (f113orc N rc)) := (orcsL_cons (c := .loop f113l0c) (by kernel_rfl) (f113l0ok N rc hrc N) orcsL_nil)
noncomputable def f113call (N M : Nat) : CallS := callOf 41 f113iv f113ov (fun x => f113 N M x.1 x.2.1 x.2.2.1 x.2.2.2.1 x.2.2.2.2.1 x.2.2.2.2.2.1 x.2.2.2.2.2.2.1 x.2.2.2.2.2.2.2.1 x.2.2.2.2.2.2.2.2.1 x.2.2.2.2.2.2.2.2.2.1 x.2.2.2.2.2.2.2.2.2.2.1 x.2.2.2.2.2.2.2.2.2.2.2.1 x.2.2.2.2.2.2.2.2.2.2.2.2)
theorem f113ok (N M : Nat) : CallOk Try.prog 113 (f113call N M) := by
 induction M with
 | zero => exact call_none (fun _ => rfl)
 | succ M ih => exact fn_ok (g := 113) (fn := Try.f113) (body := f113c) (n := 41) (rs := [.tmp 11]) mixed eqOk (f113callsOk N (f113 N M) ih) (by kernel_rfl) (by kernel_rfl) (by kernel_rfl) (by kernel_rfl) (f113orcOk N (f113 N M) ih) (by kernel_rfl) (Vi := f113iv) (Vo := f113ov) (F := fun x => f113 N (M + 1) x.1 x.2.1 x.2.2.1 x.2.2.2.1 x.2.2.2.2.1 x.2.2.2.2.2.1 x.2.2.2.2.2.2.1 x.2.2.2.2.2.2.2.1 x.2.2.2.2.2.2.2.2.1 x.2.2.2.2.2.2.2.2.2.1 x.2.2.2.2.2.2.2.2.2.2.1 x.2.2.2.2.2.2.2.2.2.2.2.1 x.2.2.2.2.2.2.2.2.2.2.2.2) (fun x y h => (f113eq N (f113 N M) x).trans h)
end Go.Proofs


namespace Go.Proofs
open Go.Al
noncomputable def f112i : Tm := ⟨[0, 1], [(.outer 0), (.outer 1), (.outer 2), (.outer 3), (.outer 4)], [.one (.fn 4294967296 [(.outer 0)]), .one (.ptr (.outer 1) 0 1), .lp 38 [122] [2, 3, 5] [.ptr (.outer 2) 0 1, .ptr (.outer 3) 0 1, .ptr (.outer 4) 0 5], .one (.v (.int .i64)), .one (.v (.list (.int .i64))), .one (.v (.int .i64)), .agg [.v (.list T0), .v T1, .v T3, .v (.list T4), .v (.list T5)]]⟩
noncomputable def f112iv : Vw f112i := { Y := Int × Int × Yli × Int × Yls × Ylp × Ylc × Ylg × Yln, fromT := fun t => (t.2.2.1.1, t.2.2.2.1, t.2.2.2.2.1, t.2.2.2.2.2.1, t.2.2.2.2.2.2.1.1, t.2.2.2.2.2.2.1.2.1, t.2.2.2.2.2.2.1.2.2.1, t.2.2.2.2.2.2.1.2.2.2.1, t.2.2.2.2.2.2.1.2.2.2.2.1), outT := fun y => ((), (), (y.1, (), (), (), ()), y.2.1, y.2.2.1, y.2.2.2.1, (y.2.2.2.2.1, y.2.2.2.2.2.1, y.2.2.2.2.2.2.1, y.2.2.2.2.2.2.2.1, y.2.2.2.2.2.2.2.2, ()), ()), inv := fun _ => rfl }
noncomputable def f112o : Tm := ⟨[], [(.outer 0), (.outer 1), (.outer 2), (.outer 3), (.outer 4)], [.lp 38 [122] [2, 3, 5] [.ptr (.outer 2) 0 1, .ptr (.outer 3) 0 1, .ptr (.outer 4) 0 5], .one (.v (.int .i64)), .one (.v (.list (.int .i64))), .one (.v (.int .i64)), .agg [.v (.list T0), .v T1, .v T3, .v (.list T4), .v (.list T5)]]⟩
noncomputable def f112ov : Vw f112o := { Y := Int × Int × Yli × Int × Yls × Ylp × Ylc × Ylg × Yln, fromT := fun t => (t.1.1, t.2.1, t.2.2.1, t.2.2.2.1, t.2.2.2.2.1.1, t.2.2.2.2.1.2.1, t.2.2.2.2.1.2.2.1, t.2.2.2.2.1.2.2.2.1, t.2.2.2.2.1.2.2.2.2.1), outT := fun y => ((y.1, (), (), (), ()), y.2.1, y.2.2.1, y.2.2.2.1, (y.2.2.2.2.1, y.2.2.2.2.2.1, y.2.2.2.2.2.2.1, y.2.2.2.2.2.2.2.1, y.2.2.2.2.2.2.2.2, ()), ()), inv := fun _ => rfl }
@[reducible] noncomputable def f112c : Code := bodyOf Try.f112
noncomputable def f112calls (N : Nat) : List (Nat × CallS) := [(113, f113call N N)]
theorem f112callsOk (N : Nat) : CallsOk Try.prog (callsL (f112calls N)) := (callsL_cons (fun _ => Enters.of (fn := Try.f113) (by kernel_rfl) (by kernel_rfl) (by kernel_rfl)) (f113ok N N) callsL_nil)
@[reducible] noncomputable def f112l0c : Code := loopOf (codeOf (f112c) 62)
noncomputable def f112l0t : Tm := ⟨[3, 7, 8], [(.box 2), (.box 3), (.outer 0), (.outer 1), (.outer 2), (.outer 3), (.outer 4)], [.one (.ptr (.box 3) 0 1), .one (.v (.int .i64)), .one (.v (.int .i64)), .one (.fn 4294967296 [(.outer 0)]), .one (.fn 113 [(.box 2), (.outer 1), (.box 3)]), .lp 38 [122] [2, 3, 5] [.ptr (.outer 2) 0 1, .ptr (.outer 3) 0 1, .ptr (.outer 4) 0 5], .one (.v (.int .i64)), .one (.v (.list (.int .i64))), .one (.v (.int .i64)), .agg [.v (.list T0), .v T1, .v T3, .v (.list T4), .v (.list T5)]]⟩
noncomputable def f112l0tv : Vw f112l0t := { Y := Int × Int × Int × Int × Yli × Int × Yls × Ylp × Ylc × Ylg × Yln, fromT := fun t => (t.2.1, t.2.2.1, t.2.2.2.2.2.1.1, t.2.2.2.2.2.2.1, t.2.2.2.2.2.2.2.1, t.2.2.2.2.2.2.2.2.1, t.2.2.2.2.2.2.2.2.2.1.1, t.2.2.2.2.2.2.2.2.2.1.2.1, t.2.2.2.2.2.2.2.2.2.1.2.2.1, t.2.2.2.2.2.2.2.2.2.1.2.2.2.1, t.2.2.2.2.2.2.2.2.2.1.2.2.2.2.1), outT := fun y => ((), y.1, y.2.1, (), (), (y.2.2.1, (), (), (), ()), y.2.2.2.1, y.2.2.2.2.1, y.2.2.2.2.2.1, (y.2.2.2.2.2.2.1, y.2.2.2.2.2.2.2.1, y.2.2.2.2.2.2.2.2.1, y.2.2.2.2.2.2.2.2.2.1, y.2.2.2.2.2.2.2.2.2.2, ()), ()), inv := fun _ => rfl }
noncomputable def f112l0e0 : Tm := ⟨[], [(.outer 0), (.outer 1), (.outer 2), (.outer 3), (.outer 4)], [.lp 38 [122] [2, 3, 5] [.ptr (.outer 2) 0 1, .ptr (.outer 3) 0 1, .ptr (.outer 4) 0 5], .one (.v (.int .i64)), .one (.v (.list (.int .i64))), .one (.v (.int .i64)), .agg [.v (.list T0), .v T1, .v T3, .v (.list T4), .v (.list T5)]]⟩
noncomputable def f112l0e0v : Vw f112l0e0 := { Y := Int × Int × Yli × Int × Yls × Ylp × Ylc × Ylg × Yln, fromT := fun t => (t.1.1, t.2.1, t.2.2.1, t.2.2.2.1, t.2.2.2.2.1.1, t.2.2.2.2.1.2.1, t.2.2.2.2.1.2.2.1, t.2.2.2.2.1.2.2.2.1, t.2.2.2.2.1.2.2.2.2.1), outT := fun y => ((y.1, (), (), (), ()), y.2.1, y.2.2.1, y.2.2.2.1, (y.2.2.2.2.1, y.2.2.2.2.2.1, y.2.2.2.2.2.2.1, y.2.2.2.2.2.2.2.1, y.2.2.2.2.2.2.2.2, ()), ()), inv := fun _ => rfl }
noncomputable def f112l0e1 : Tm := ⟨[], [(.outer 0), (.outer 1), (.outer 2), (.outer 3), (.outer 4)], [.lp 38 [122] [2, 3, 5] [.ptr (.outer 2) 0 1, .ptr (.outer 3) 0 1, .ptr (.outer 4) 0 5], .one (.v (.int .i64)), .one (.v (.list (.int .i64))), .one (.v (.int .i64)), .agg [.v (.list T0), .v T1, .v T3, .v (.list T4), .v (.list T5)]]⟩
noncomputable def f112l0e1v : Vw f112l0e1 := { Y := Int × Int × Yli × Int × Yls × Ylp × Ylc × Ylg × Yln, fromT := fun t => (t.1.1, t.2.1, t.2.2.1, t.2.2.2.1, t.2.2.2.2.1.1, t.2.2.2.2.1.2.1, t.2.2.2.2.1.2.2.1, t.2.2.2.2.1.2.2.2.1, t.2.2.2.2.1.2.2.2.2.1), outT := fun y => ((y.1, (), (), (), ()), y.2.1, y.2.2.1, y.2.2.2.1, (y.2.2.2.2.1, y.2.2.2.2.2.1, y.2.2.2.2.2.2.1, y.2.2.2.2.2.2.2.1, y.2.2.2.2.2.2.2.2, ()), ()), inv := fun _ => rfl }
@[reducible] noncomputable def f112l0E : List Ex := [⟨.ret, f112l0e0, f112l0e0v⟩, ⟨(.ext 0), f112l0e1, f112l0e1v⟩]
noncomputable def f112l0B (N : Nat) (go : Int → Int → Int → Int → Yli → Int → Yls → Ylp → Ylc → Ylg → Yln → Option (((Int × Int × Yli × Int × Yls × Ylp × Ylc × Ylg × Yln) ⊕ Int × Int × Yli × Int × Yls × Ylp × Ylc × Ylg × Yln))) (x0 : Int) (x1 : Int) (x2 : Int) (x3 : Int) (x4 : Yli) (x5 : Int) (x6 : Yls) (x7 : Ylp) (x8 : Ylc) (x9 : Ylg) (x10 : Yln) : Option (((Int × Int × Yli × Int × Yls × Ylp × Ylc × Ylg × Yln) ⊕ Int × Int × Yli × Int × Yls × Ylp × Ylc × Ylg × Yln)) := (if (decide (x1 < x0)) = true then (andThen (f113 N N (true, ([] : List Int)) (0 : Int) (0 : Int) x1 x3 x2 x4 x5 x6 x7 x8 x9 x10) fun y1 => (if (!y1.1) = true then (some (Sum.inl (y1.2.2.1, y1.2.1, y1.2.2.2.1, y1.2.2.2.2.1, y1.2.2.2.2.2.1, y1.2.2.2.2.2.2.1, y1.2.2.2.2.2.2.2.1, y1.2.2.2.2.2.2.2.2.1, y1.2.2.2.2.2.2.2.2.2))) else (go x0 (Go.IntKind.wrap .i64 (x1 + (1 : Int))) y1.2.2.1 y1.2.1 y1.2.2.2.1 y1.2.2.2.2.1 y1.2.2.2.2.2.1 y1.2.2.2.2.2.2.1 y1.2.2.2.2.2.2.2.1 y1.2.2.2.2.2.2.2.2.1 y1.2.2.2.2.2.2.2.2.2))) else (some (Sum.inr (x2, x3, x4, x5, x6, x7, x8, x9, x10))))
noncomputable def f112l0 (N : Nat) : Nat → Int → Int → Int → Int → Yli → Int → Yls → Ylp → Ylc → Ylg → Yln → Option (((Int × Int × Yli × Int × Yls × Ylp × Ylc × Ylg × Yln) ⊕ Int × Int × Yli × Int × Yls × Ylp × Ylc × Ylg × Yln)) | 0 => fun _ _ _ _ _ _ _ _ _ _ _ => none | q + 1 => f112l0B N (f112l0 N q)
noncomputable def f112l0o (N : Nat) : List (Nat × Orc) := []
theorem f112l0eq (N : Nat) (go : Int → Int → Int → Int → Yli → Int → Yls → Ylp → Ylc → Ylg → Yln → Option (((Int × Int × Yli × Int × Yls × Ylp × Ylc × Ylg × Yln) ⊕ Int × Int × Yli × Int × Yls × Ylp × Ylc × Ylg × Yln))) (x : f112l0tv.Y) : codeK Try.prog hint (callsL (f112calls N)) (orcsL (f112l0o N)) 16 f112l0c 1 (f112l0tv.enc x) (loopK f112l0tv f112l0E (fun x => go x.1 x.2.1 x.2.2.1 x.2.2.2.1 x.2.2.2.2.1 x.2.2.2.2.2.1 x.2.2.2.2.2.2.1 x.2.2.2.2.2.2.2.1 x.2.2.2.2.2.2.2.2.1 x.2.2.2.2.2.2.2.2.2.1 x.2.2.2.2.2.2.2.2.2.2)) = f112l0B N go x.1 x.2.1 x.2.2.1 x.2.2.2.1 x.2.2.2.2.1 x.2.2.2.2.2.1 x.2.2.2.2.2.2.1 x.2.2.2.2.2.2.2.1 x.2.2.2.2.2.2.2.2.1 x.2.2.2.2.2.2.2.2.2.1 x.2.2.2.2.2.2.2.2.2.2 := by kernel_rfl
theorem f112l0oOk (N : Nat) : OrcsOk Try.prog false 16 f112l0c (orcsL (f112l0o N)) := orcsL_nil
theorem f112l0ok (N : Nat) (M : Nat) : OrcOk Try.prog false 16 (.loop f112l0c) (cutOrc f112l0tv f112l0E (fun x => f112l0 N M x.1 x.2.1 x.2.2.1 x.2.2.2.1 x.2.2.2.2.1 x.2.2.2.2.2.1 x.2.2.2.2.2.2.1 x.2.2.2.2.2.2.2.1 x.2.2.2.2.2.2.2.2.1 x.2.2.2.2.2.2.2.2.2.1 x.2.2.2.2.2.2.2.2.2.2)) := loop_ok mixed eqOk (f112callsOk N) (f112l0oOk N) (fun _ => rfl) (fun q x o h => (f112l0eq N (f112l0 N q) x).trans h) M
noncomputable def f112 (N : Nat) (x0 : Int) (x1 : Int) (x2 : Yli) (x3 : Int) (x4 : Yls) (x5 : Ylp) (x6 : Ylc) (x7 : Ylg) (x8 : Yln) : Option (Int × Int × Yli × Int × Yls × Ylp × Ylc × Ylg × Yln) := (andThen (f112l0 N N (Go.IntKind.wrap .i64 (x1 + (1 : Int))) (0 : Int) x0 x1 x2 x3 x4 x5 x6 x7 x8) fun y2 => (either y2 (fun a3 => (some (a3.1, a3.2.1, a3.2.2.1, a3.2.2.2.1, a3.2.2.2.2.1, a3.2.2.2.2.2.1, a3.2.2.2.2.2.2.1, a3.2.2.2.2.2.2.2.1, a3.2.2.2.2.2.2.2.2))) (fun b4 => (some (b4.1, b4.2.1, b4.2.2.1, b4.2.2.2.1, b4.2.2.2.2.1, b4.2.2.2.2.2.1, b4.2.2.2.2.2.2.1, b4.2.2.2.2.2.2.2.1, b4.2.2.2.2.2.2.2.2)))))
noncomputable def f112orc (N : Nat) : List (Nat × Orc) := [(62, cutOrc f112l0tv f112l0E (fun x => f112l0 N N x.1 x.2.1 x.2.2.1 x.2.2.2.1 x.2.2.2.2.1 x.2.2.2.2.2.1 x.2.2.2.2.2.2.1 x.2.2.2.2.2.2.2.1 x.2.2.2.2.2.2.2.2.1 x.2.2.2.2.2.2.2.2.2.1 x.2.2.2.2.2.2.2.2.2.2))]
theorem f112eq (N : Nat) (x : f112iv.Y) : codeK Try.prog hint (callsL (f112calls N)) (orcsL (f112orc N)) 16 f112c 1 (f112iv.enc x) (fnKv Try.prog [] f112ov) = f112 N x.1 x.2.1 x.2.2.1 x.2.2.2.1 x.2.2.2.2.1 x.2.2.2.2.2.1 x.2.2.2.2.2.2.1 x.2.2.2.2.2.2.2.1 x.2.2.2.2.2.2.2.2 := by kernel_rfl
theorem f112orcOk (N : Nat) : OrcsOk Try.prog false 16 f112c (orcsL (f112orc N)) := (orcsL_cons (c := .loop f112l0c) (by kernel_rfl) (f112l0ok N N) orcsL_nil)
noncomputable def f112call (N : Nat) : CallS := callOf 16 f112iv f112ov (fun x => f112 N x.1 x.2.1 x.2.2.1 x.2.2.2.1 x.2.2.2.2.1 x.2.2.2.2.2.1 x.2.2.2.2.2.2.1 x.2.2.2.2.2.2.2.1 x.2.2.2.2.2.2.2.2)
theorem f112ok (N : Nat) : CallOk Try.prog 112 (f112call N) := fn_ok (g := 112) (fn := Try.f112) (body := f112c) (n := 16) (rs := []) mixed eqOk (f112callsOk N) (by kernel_rfl) (by kernel_rfl) (by kernel_rfl) (by kernel_rfl) (f112orcOk N) (by kernel_rfl) (Vi := f112iv) (Vo := f112ov) (F := fun x => f112 N x.1 x.2.1 x.2.2.1 x.2.2.2.1 x.2.2.2.2.1 x.2.2.2.2.2.1 x.2.2.2.2.2.2.1 x.2.2.2.2.2.2.2.1 x.2.2.2.2.2.2.2.2) (fun x y h => (f112eq N x).trans h)
end Go.Proofs


namespace Go.Proofs
open Go.Al
noncomputable def f38i : Tm := ⟨[0], [], [.agg [.v (.list T0), .v T1, .v T3, .v (.list T4)]]⟩
noncomputable def f38iv : Vw f38i := { Y := Yls × Ylp × Ylc × Ylg, fromT := fun t => (t.1.1, t.1.2.1, t.1.2.2.1, t.1.2.2.2.1), outT := fun y => ((y.1, y.2.1, y.2.2.1, y.2.2.2, ()), ()), inv := fun _ => rfl }
noncomputable def f38o : Tm := ⟨[0, 1], [], [.one (.v (.list (.int .i64))), .one (.v (.int .i64))]⟩
noncomputable def f38ov : Vw f38o := { Y := Yli × Int, fromT := fun t => (t.1, t.2.1), outT := fun y => (y.1, y.2, ()), inv := fun _ => rfl }
@[reducible] noncomputable def f38c : Code := bodyOf Try.f38
noncomputable def f38calls (N : Nat) : List (Nat × CallS) := [(18, f18call N), (90, f90call N), (91, f91call N), (112, f112call N)]
theorem f38callsOk (N : Nat) : CallsOk Try.prog (callsL (f38calls N)) := (callsL_cons (fun _ => Enters.of (fn := Try.f18) (by kernel_rfl) (by kernel_rfl) (by kernel_rfl)) (f18ok N) (callsL_cons (fun _ => Enters.of (fn := Try.f90) (by kernel_rfl) (by kernel_rfl) (by kernel_rfl)) (f90ok N) (callsL_cons (fun _ => Enters.of (fn := Try.f91) (by kernel_rfl) (by kernel_rfl) (by kernel_rfl)) (f91ok N) (callsL_cons (fun _ => Enters.of (fn := Try.f112) (by kernel_rfl) (by kernel_rfl) (by kernel_rfl)) (f112ok N) callsL_nil))))
noncomputable def f38 (N : Nat) (x0 : Yls) (x1 : Ylp) (x2 : Ylc) (x3 : Ylg) : Option (Yli × Int) := (andThen (f18 N x0 x1 x2 x3) fun y1 => (if (y1 != (0 : Int)) = true then (some (([] : List Int), y1)) else (andThen (f90 N x0 x1 x2 x3) fun y2 => (andThen (f91 N ((List.length y2.2.2.2.2 : Nat) : Int)) fun y3 => (andThen (f112 N (0 : Int) y3 ([] : List Int) (0 : Int) y2.1 y2.2.1 y2.2.2.1 y2.2.2.2.1 y2.2.2.2.2) fun y4 => (if (y4.1 == (0 : Int)) = true then (some (([] : List Int), (9 : Int))) else (if (y4.1 == (1 : Int)) = true then (some (y4.2.2.1, y4.2.2.2.1)) else none)))))))
noncomputable def f38orc (N : Nat) : List (Nat × Orc) := [(122, rfOrc (callsL (f38calls N)) (.tmp 20) 38 [122] [2, 3, 5] 4294967296 2097152 [.ret])]
theorem f38eq (N : Nat) (x : f38iv.Y) : codeK Try.prog hint (callsL (f38calls N)) (orcsL (f38orc N)) 35 f38c 1 (f38iv.enc x) (fnKv Try.prog [.cell 2 47, .cell 3 31] f38ov) = f38 N x.1 x.2.1 x.2.2.1 x.2.2.2 := by kernel_rfl
theorem f38orcOk (N : Nat) : OrcsOk Try.prog false 35 f38c (orcsL (f38orc N)) := (orcsL_cons (c := .rangeFunc (.tmp 20) #[21, 22] y0a y0b) (by kernel_rfl) (rf_ok (f38callsOk N) (by kernel_rfl) rfl) orcsL_nil)
noncomputable def f38call (N : Nat) : CallS := callOf 35 f38iv f38ov (fun x => f38 N x.1 x.2.1 x.2.2.1 x.2.2.2)
theorem f38ok (N : Nat) : CallOk Try.prog 38 (f38call N) := fn_ok (g := 38) (fn := Try.f38) (body := f38c) (n := 35) (rs := [.cell 2 47, .cell 3 31]) mixed eqOk (f38callsOk N) (by kernel_rfl) (by kernel_rfl) (by kernel_rfl) (by kernel_rfl) (f38orcOk N) (by kernel_rfl) (Vi := f38iv) (Vo := f38ov) (F := fun x => f38 N x.1 x.2.1 x.2.2.1 x.2.2.2) (fun x y h => (f38eq N x).trans h)
end Go.Proofs


namespace Go.Proofs
open Go.Al
noncomputable def f94i : Tm := ⟨[0], [], [.one (.v (.int .i64))]⟩
noncomputable def f94iv : Vw f94i := { Y := Int, fromT := fun t => t.1, outT := fun y => (y, ()), inv := fun _ => rfl }
noncomputable def f94o : Tm := ⟨[0], [], [.one (.own 4096 (.int .i64))]⟩
noncomputable def f94ov : Vw f94o := { Y := Yli, fromT := fun t => t.1, outT := fun y => (y, ()), inv := fun _ => rfl }
@[reducible] noncomputable def f94c : Code := bodyOf Try.f94
noncomputable def f94calls (N : Nat) : List (Nat × CallS) := []
theorem f94callsOk (N : Nat) : CallsOk Try.prog (callsL (f94calls N)) := callsL_nil
@[reducible] noncomputable def f94l0c : Code := loopOf (codeOf (f94c) 58)
noncomputable def f94l0t : Tm := ⟨[0, 3, 4], [], [.one (.v (.int .i64)), .one (.own 1000000 (.int .i64)), .one (.v (.int .i64))]⟩
noncomputable def f94l0tv : Vw f94l0t := { Y := Int × Yli × Int, fromT := fun t => (t.1, t.2.1, t.2.2.1), outT := fun y => (y.1, y.2.1, y.2.2, ()), inv := fun _ => rfl }
noncomputable def f94l0e0 : Tm := ⟨[3], [], [.one (.own 1000000 (.int .i64))]⟩
noncomputable def f94l0e0v : Vw f94l0e0 := { Y := Yli, fromT := fun t => t.1, outT := fun y => (y, ()), inv := fun _ => rfl }
@[reducible] noncomputable def f94l0E : List Ex := [⟨(.ext 0), f94l0e0, f94l0e0v⟩]
noncomputable def f94l0B (N : Nat) (go : Int → Yli → Int → Option (Yli)) (x0 : Int) (x1 : Yli) (x2 : Int) : Option (Yli) := (if (decide ((0 : Int) ≤ (Go.IntKind.wrap .u64 x2))) = true then (if (decide ((Int.fdiv x0 (2 ^ (min (Int.toNat (Go.IntKind.wrap .u64 x2)) (Go.IntKind.bits .i64)))) > (0 : Int))) = true then (if (decide ((0 : Int) ≤ (Go.IntKind.wrap .u64 x2))) = true then (if ((Go.IntKind.wrap .i64 (((((BitVec.ofInt (Go.IntKind.bits .i64) (Int.fdiv x0 (2 ^ (min (Int.toNat (Go.IntKind.wrap .u64 x2)) (Go.IntKind.bits .i64))))) &&& (BitVec.ofInt (Go.IntKind.bits .i64) (1 : Int)))).toNat : Nat) : Int)) == (1 : Int)) = true then (if (Nat.ble ((List.length x1) + (List.length ([x2] : List Int))) Go.Al.boundLen) = true then (go x0 (x1 ++ ([x2] : List Int)) (Go.IntKind.wrap .i64 (x2 + (1 : Int)))) else none) else (go x0 x1 (Go.IntKind.wrap .i64 (x2 + (1 : Int))))) else none) else (some x1)) else none)
noncomputable def f94l0 (N : Nat) : Nat → Int → Yli → Int → Option (Yli) | 0 => fun _ _ _ => none | q + 1 => f94l0B N (f94l0 N q)
noncomputable def f94l0o (N : Nat) : List (Nat × Orc) := []
theorem f94l0eq (N : Nat) (go : Int → Yli → Int → Option (Yli)) (x : f94l0tv.Y) : codeK Try.prog hint (callsL (f94calls N)) (orcsL (f94l0o N)) 24 f94l0c 1 (f94l0tv.enc x) (loopK f94l0tv f94l0E (fun x => go x.1 x.2.1 x.2.2)) = f94l0B N go x.1 x.2.1 x.2.2 := by kernel_rfl
theorem f94l0oOk (N : Nat) : OrcsOk Try.prog false 24 f94l0c (orcsL (f94l0o N)) := orcsL_nil
theorem f94l0ok (N : Nat) (M : Nat) : OrcOk Try.prog false 24 (.loop f94l0c) (cutOrc f94l0tv f94l0E (fun x => f94l0 N M x.1 x.2.1 x.2.2)) := loop_ok mixed eqOk (f94callsOk N) (f94l0oOk N) (fun _ => rfl) (fun q x o h => (f94l0eq N (f94l0 N q) x).trans h) M
noncomputable def f94 (N : Nat) (x0 : Int) : Option (Yli) := (andThen (f94l0 N N x0 ([] : List Int) (0 : Int)) fun y1 => (some y1))
noncomputable def f94orc (N : Nat) : List (Nat × Orc) := [(58, cutOrc f94l0tv f94l0E (fun x => f94l0 N N x.1 x.2.1 x.2.2))]
theorem f94eq (N : Nat) (x : f94iv.Y) : codeK Try.prog hint (callsL (f94calls N)) (orcsL (f94orc N)) 24 f94c 1 (f94iv.enc x) (fnKv Try.prog [.tmp 2] f94ov) = f94 N x := by kernel_rfl
theorem f94orcOk (N : Nat) : OrcsOk Try.prog false 24 f94c (orcsL (f94orc N)) := (orcsL_cons (c := .loop f94l0c) (by kernel_rfl) (f94l0ok N N) orcsL_nil)
noncomputable def f94call (N : Nat) : CallS := callOf 24 f94iv f94ov (fun x => f94 N x)
theorem f94ok (N : Nat) : CallOk Try.prog 94 (f94call N) := fn_ok (g := 94) (fn := Try.f94) (body := f94c) (n := 24) (rs := [.tmp 2]) mixed eqOk (f94callsOk N) (by kernel_rfl) (by kernel_rfl) (by kernel_rfl) (by kernel_rfl) (f94orcOk N) (by kernel_rfl) (Vi := f94iv) (Vo := f94ov) (F := fun x => f94 N x) (fun x y h => (f94eq N x).trans h)
end Go.Proofs


namespace Go.Proofs
open Go.Al
noncomputable def f95i : Tm := ⟨[0, 1], [], [.one (.v (.list (.int .i64))), .one (.v (.list (.int .i64)))]⟩
noncomputable def f95iv : Vw f95i := { Y := Yli × Yli, fromT := fun t => (t.1, t.2.1), outT := fun y => (y.1, y.2, ()), inv := fun _ => rfl }
noncomputable def f95o : Tm := ⟨[0], [], [.one (.v .bool)]⟩
noncomputable def f95ov : Vw f95o := { Y := Bool, fromT := fun t => t.1, outT := fun y => (y, ()), inv := fun _ => rfl }
@[reducible] noncomputable def f95c : Code := bodyOf Try.f95
noncomputable def f95calls (N : Nat) : List (Nat × CallS) := []
theorem f95callsOk (N : Nat) : CallsOk Try.prog (callsL (f95calls N)) := callsL_nil
@[reducible] noncomputable def f95l0c : Code := loopOf (codeOf (f95c) 58)
noncomputable def f95l0t : Tm := ⟨[0, 1, 5], [], [.one (.v (.list (.int .i64))), .one (.v (.list (.int .i64))), .one (.v (.int .i64))]⟩
noncomputable def f95l0tv : Vw f95l0t := { Y := Yli × Yli × Int, fromT := fun t => (t.1, t.2.1, t.2.2.1), outT := fun y => (y.1, y.2.1, y.2.2, ()), inv := fun _ => rfl }
noncomputable def f95l0e0 : Tm := ⟨[4], [], [.one (.v .bool)]⟩
noncomputable def f95l0e0v : Vw f95l0e0 := { Y := Bool, fromT := fun t => t.1, outT := fun y => (y, ()), inv := fun _ => rfl }
noncomputable def f95l0e1 : Tm := ⟨[], [], []⟩
noncomputable def f95l0e1v : Vw f95l0e1 := { Y := Unit, fromT := fun _ => (), outT := fun _ => (), inv := fun _ => rfl }
@[reducible] noncomputable def f95l0E : List Ex := [⟨.ret, f95l0e0, f95l0e0v⟩, ⟨(.ext 0), f95l0e1, f95l0e1v⟩]
noncomputable def f95l0B (N : Nat) (go : Yli → Yli → Int → Option (((Bool) ⊕ Unit))) (x0 : Yli) (x1 : Yli) (x2 : Int) : Option (((Bool) ⊕ Unit)) := (if (decide (x2 < ((List.length x0 : Nat) : Int))) = true then (if ((decide ((0 : Int) ≤ x2)) && (decide (x2 < ((List.length x0 : Nat) : Int)))) = true then (if ((decide ((0 : Int) ≤ x2)) && (decide (x2 < ((List.length x1 : Nat) : Int)))) = true then (if ((List.getD x0 (Int.toNat x2) (0 : Int)) != (List.getD x1 (Int.toNat x2) (0 : Int))) = true then (if ((decide ((0 : Int) ≤ x2)) && (decide (x2 < ((List.length x0 : Nat) : Int)))) = true then (if ((decide ((0 : Int) ≤ x2)) && (decide (x2 < ((List.length x1 : Nat) : Int)))) = true then (some (Sum.inl (decide ((List.getD x0 (Int.toNat x2) (0 : Int)) < (List.getD x1 (Int.toNat x2) (0 : Int)))))) else none) else none) else (go x0 x1 (Go.IntKind.wrap .i64 (x2 + (1 : Int))))) else none) else none) else (some (Sum.inr ())))
noncomputable def f95l0 (N : Nat) : Nat → Yli → Yli → Int → Option (((Bool) ⊕ Unit)) | 0 => fun _ _ _ => none | q + 1 => f95l0B N (f95l0 N q)
noncomputable def f95l0o (N : Nat) : List (Nat × Orc) := []
theorem f95l0eq (N : Nat) (go : Yli → Yli → Int → Option (((Bool) ⊕ Unit))) (x : f95l0tv.Y) : codeK Try.prog hint (callsL (f95calls N)) (orcsL (f95l0o N)) 40 f95l0c 1 (f95l0tv.enc x) (loopK f95l0tv f95l0E (fun x => go x.1 x.2.1 x.2.2)) = f95l0B N go x.1 x.2.1 x.2.2 := by kernel_rfl
theorem f95l0oOk (N : Nat) : OrcsOk Try.prog false 40 f95l0c (orcsL (f95l0o N)) := orcsL_nil
theorem f95l0ok (N : Nat) (M : Nat) : OrcOk Try.prog false 40 (.loop f95l0c) (cutOrc f95l0tv f95l0E (fun x => f95l0 N M x.1 x.2.1 x.2.2)) := loop_ok mixed eqOk (f95callsOk N) (f95l0oOk N) (fun _ => rfl) (fun q x o h => (f95l0eq N (f95l0 N q) x).trans h) M
noncomputable def f95 (N : Nat) (x0 : Yli) (x1 : Yli) : Option (Bool) := (if (((List.length x0 : Nat) : Int) != ((List.length x1 : Nat) : Int)) = true then (some (decide (((List.length x0 : Nat) : Int) < ((List.length x1 : Nat) : Int)))) else (andThen (f95l0 N N x0 x1 (0 : Int)) fun y1 => (either y1 (fun a2 => (some a2)) (fun b3 => (some false)))))
noncomputable def f95orc (N : Nat) : List (Nat × Orc) := [(58, cutOrc f95l0tv f95l0E (fun x => f95l0 N N x.1 x.2.1 x.2.2))]
theorem f95eq (N : Nat) (x : f95iv.Y) : codeK Try.prog hint (callsL (f95calls N)) (orcsL (f95orc N)) 40 f95c 1 (f95iv.enc x) (fnKv Try.prog [.tmp 4] f95ov) = f95 N x.1 x.2 := by kernel_rfl
theorem f95orcOk (N : Nat) : OrcsOk Try.prog false 40 f95c (orcsL (f95orc N)) := (orcsL_cons (c := .loop f95l0c) (by kernel_rfl) (f95l0ok N N) orcsL_nil)
noncomputable def f95call (N : Nat) : CallS := callOf 40 f95iv f95ov (fun x => f95 N x.1 x.2)
theorem f95ok (N : Nat) : CallOk Try.prog 95 (f95call N) := fn_ok (g := 95) (fn := Try.f95) (body := f95c) (n := 40) (rs := [.tmp 4]) mixed eqOk (f95callsOk N) (by kernel_rfl) (by kernel_rfl) (by kernel_rfl) (by kernel_rfl) (f95orcOk N) (by kernel_rfl) (Vi := f95iv) (Vo := f95ov) (F := fun x => f95 N x.1 x.2) (fun x y h => (f95eq N x).trans h)
end Go.Proofs


namespace Go.Proofs
open Go.Al
noncomputable def f40i : Tm := ⟨[0], [], [.agg [.v (.list T0), .v T1, .v T3, .v (.list T4)]]⟩
noncomputable def f40iv : Vw f40i := { Y := Yls × Ylp × Ylc × Ylg, fromT := fun t => (t.1.1, t.1.2.1, t.1.2.2.1, t.1.2.2.2.1), outT := fun y => ((y.1, y.2.1, y.2.2.1, y.2.2.2, ()), ()), inv := fun _ => rfl }
noncomputable def f40o : Tm := ⟨[0, 1], [], [.one (.own 4096 (.int .i64)), .one (.v .bool)]⟩
noncomputable def f40ov : Vw f40o := { Y := Yli × Bool, fromT := fun t => (t.1, t.2.1), outT := fun y => (y.1, y.2, ()), inv := fun _ => rfl }
@[reducible] noncomputable def f40c : Code := bodyOf Try.f40
noncomputable def f40calls (N : Nat) : List (Nat × CallS) := [(94, f94call N), (95, f95call N), (41, f41call N)]
theorem f40callsOk (N : Nat) : CallsOk Try.prog (callsL (f40calls N)) := (callsL_cons (fun _ => Enters.of (fn := Try.f94) (by kernel_rfl) (by kernel_rfl) (by kernel_rfl)) (f94ok N) (callsL_cons (fun _ => Enters.of (fn := Try.f95) (by kernel_rfl) (by kernel_rfl) (by kernel_rfl)) (f95ok N) (callsL_cons (fun _ => Enters.of (fn := Try.f41) (by kernel_rfl) (by kernel_rfl) (by kernel_rfl)) (f41ok N) callsL_nil)))
@[reducible] noncomputable def f40l0c : Code := loopOf (codeOf (f40c) 58)
noncomputable def f40l0t : Tm := ⟨[1, 4, 5, 6], [(.box 1)], [.one (.ptr (.box 1) 0 4), .one (.own 1000000 (.int .i64)), .one (.v .bool), .one (.v (.int .i64)), .agg [.v (.list T0), .v T1, .v T3, .v (.list T4)]]⟩
noncomputable def f40l0tv : Vw f40l0t := { Y := Yli × Bool × Int × Yls × Ylp × Ylc × Ylg, fromT := fun t => (t.2.1, t.2.2.1, t.2.2.2.1, t.2.2.2.2.1.1, t.2.2.2.2.1.2.1, t.2.2.2.2.1.2.2.1, t.2.2.2.2.1.2.2.2.1), outT := fun y => ((), y.1, y.2.1, y.2.2.1, (y.2.2.2.1, y.2.2.2.2.1, y.2.2.2.2.2.1, y.2.2.2.2.2.2, ()), ()), inv := fun _ => rfl }
noncomputable def f40l0e0 : Tm := ⟨[4, 5], [], [.one (.own 1000000 (.int .i64)), .one (.v .bool)]⟩
noncomputable def f40l0e0v : Vw f40l0e0 := { Y := Yli × Bool, fromT := fun t => (t.1, t.2.1), outT := fun y => (y.1, y.2, ()), inv := fun _ => rfl }
@[reducible] noncomputable def f40l0E : List Ex := [⟨(.ext 0), f40l0e0, f40l0e0v⟩]
noncomputable def f40l0B (N : Nat) (go : Yli → Bool → Int → Yls → Ylp → Ylc → Ylg → Option (Yli × Bool)) (x0 : Yli) (x1 : Bool) (x2 : Int) (x3 : Yls) (x4 : Ylp) (x5 : Ylc) (x6 : Ylg) : Option (Yli × Bool) := (if (decide ((0 : Int) ≤ (Go.IntKind.wrap .u64 (Go.IntKind.wrap .i64 (((List.length x5 : Nat) : Int) + ((List.length x6 : Nat) : Int)))))) = true then (if (decide (x2 < (Go.IntKind.wrap .i64 ((1 : Int) * (2 ^ (min (Int.toNat (Go.IntKind.wrap .u64 (Go.IntKind.wrap .i64 (((List.length x5 : Nat) : Int) + ((List.length x6 : Nat) : Int))))) (Go.IntKind.bits .i64))))))) = true then (andThen (f94 N x2) fun y1 => (if x1 = true then (andThen (f95 N y1 x0) fun y2 => (if (!y2) = true then (go x0 x1 (Go.IntKind.wrap .i64 (x2 + (1 : Int))) x3 x4 x5 x6) else (andThen (f41 N x3 x4 x5 x6 y1) fun y3 => (if y3.2 = true then (go y1 true (Go.IntKind.wrap .i64 (x2 + (1 : Int))) x3 x4 x5 x6) else (go x0 x1 (Go.IntKind.wrap .i64 (x2 + (1 : Int))) x3 x4 x5 x6))))) else (andThen (f41 N x3 x4 x5 x6 y1) fun y4 => (if y4.2 = true then (go y1 true (Go.IntKind.wrap .i64 (x2 + (1 : Int))) x3 x4 x5 x6) else (go x0 x1 (Go.IntKind.wrap .i64 (x2 + (1 : Int))) x3 x4 x5 x6))))) else (some (x0, x1))) else none)
noncomputable def f40l0 (N : Nat) : Nat → Yli → Bool → Int → Yls → Ylp → Ylc → Ylg → Option (Yli × Bool) | 0 => fun _ _ _ _ _ _ _ => none | q + 1 => f40l0B N (f40l0 N q)
noncomputable def f40l0o (N : Nat) : List (Nat × Orc) := []
theorem f40l0eq (N : Nat) (go : Yli → Bool → Int → Yls → Ylp → Ylc → Ylg → Option (Yli × Bool)) (x : f40l0tv.Y) : codeK Try.prog hint (callsL (f40calls N)) (orcsL (f40l0o N)) 43 f40l0c 1 (f40l0tv.enc x) (loopK f40l0tv f40l0E (fun x => go x.1 x.2.1 x.2.2.1 x.2.2.2.1 x.2.2.2.2.1 x.2.2.2.2.2.1 x.2.2.2.2.2.2)) = f40l0B N go x.1 x.2.1 x.2.2.1 x.2.2.2.1 x.2.2.2.2.1 x.2.2.2.2.2.1 x.2.2.2.2.2.2 := by kernel_rfl
theorem f40l0oOk (N : Nat) : OrcsOk Try.prog false 43 f40l0c (orcsL (f40l0o N)) := orcsL_nil
theorem f40l0ok (N : Nat) (M : Nat) : OrcOk Try.prog false 43 (.loop f40l0c) (cutOrc f40l0tv f40l0E (fun x => f40l0 N M x.1 x.2.1 x.2.2.1 x.2.2.2.1 x.2.2.2.2.1 x.2.2.2.2.2.1 x.2.2.2.2.2.2)) := loop_ok mixed eqOk (f40callsOk N) (f40l0oOk N) (fun _ => rfl) (fun q x o h => (f40l0eq N (f40l0 N q) x).trans h) M
noncomputable def f40 (N : Nat) (x0 : Yls) (x1 : Ylp) (x2 : Ylc) (x3 : Ylg) : Option (Yli × Bool) := (andThen (f40l0 N N ([] : List Int) false (0 : Int) x0 x1 x2 x3) fun y5 => (some (y5.1, y5.2)))
noncomputable def f40orc (N : Nat) : List (Nat × Orc) := [(58, cutOrc f40l0tv f40l0E (fun x => f40l0 N N x.1 x.2.1 x.2.2.1 x.2.2.2.1 x.2.2.2.2.1 x.2.2.2.2.2.1 x.2.2.2.2.2.2))]
theorem f40eq (N : Nat) (x : f40iv.Y) : codeK Try.prog hint (callsL (f40calls N)) (orcsL (f40orc N)) 43 f40c 1 (f40iv.enc x) (fnKv Try.prog [.tmp 2, .tmp 3] f40ov) = f40 N x.1 x.2.1 x.2.2.1 x.2.2.2 := by kernel_rfl
theorem f40orcOk (N : Nat) : OrcsOk Try.prog false 43 f40c (orcsL (f40orc N)) := (orcsL_cons (c := .loop f40l0c) (by kernel_rfl) (f40l0ok N N) orcsL_nil)
noncomputable def f40call (N : Nat) : CallS := callOf 43 f40iv f40ov (fun x => f40 N x.1 x.2.1 x.2.2.1 x.2.2.2)
theorem f40ok (N : Nat) : CallOk Try.prog 40 (f40call N) := fn_ok (g := 40) (fn := Try.f40) (body := f40c) (n := 43) (rs := [.tmp 2, .tmp 3]) mixed eqOk (f40callsOk N) (by kernel_rfl) (by kernel_rfl) (by kernel_rfl) (by kernel_rfl) (f40orcOk N) (by kernel_rfl) (Vi := f40iv) (Vo := f40ov) (F := fun x => f40 N x.1 x.2.1 x.2.2.1 x.2.2.2) (fun x y h => (f40eq N x).trans h)
end Go.Proofs


namespace Go.Proofs
open Go.Al
noncomputable def f39i : Tm := ⟨[0], [], [.agg [.v (.list T0), .v T1, .v T3, .v (.list T4)]]⟩
noncomputable def f39iv : Vw f39i := { Y := Yls × Ylp × Ylc × Ylg, fromT := fun t => (t.1.1, t.1.2.1, t.1.2.2.1, t.1.2.2.2.1), outT := fun y => ((y.1, y.2.1, y.2.2.1, y.2.2.2, ()), ()), inv := fun _ => rfl }
noncomputable def f39o : Tm := ⟨[0, 1], [], [.one (.own 4096 (.int .i64)), .one (.v (.int .i64))]⟩
noncomputable def f39ov : Vw f39o := { Y := Yli × Int, fromT := fun t => (t.1, t.2.1), outT := fun y => (y.1, y.2, ()), inv := fun _ => rfl }
@[reducible] noncomputable def f39c : Code := bodyOf Try.f39
noncomputable def f39calls (N : Nat) : List (Nat × CallS) := [(70, f70call N), (92, f92call N), (71, f71call N)]
theorem f39callsOk (N : Nat) : CallsOk Try.prog (callsL (f39calls N)) := (callsL_cons (fun _ => Enters.of (fn := Try.f70) (by kernel_rfl) (by kernel_rfl) (by kernel_rfl)) (f70ok N) (callsL_cons (fun _ => Enters.of (fn := Try.f92) (by kernel_rfl) (by kernel_rfl) (by kernel_rfl)) (f92ok N) (callsL_cons (fun _ => Enters.of (fn := Try.f71) (by kernel_rfl) (by kernel_rfl) (by kernel_rfl)) (f71ok N) callsL_nil)))
@[reducible] noncomputable def f39l0c : Code := loopOf (codeOf (f39c) 122)
noncomputable def f39l0t : Tm := ⟨[2, 4, 5, 20, 21], [(.box 4), (.box 5)], [.one (.own 1000000 (.int .i64)), .one (.ptr (.box 4) 0 5), .one (.ptr (.box 5) 0 36), .one (.v (.int .i64)), .one (.v (.int .i64)), .agg [.v (.list T0), .v T1, .v T3, .v (.list T4), .own 1000001 T5], .arr (.int .i64) 36]⟩
noncomputable def f39l0tv : Vw f39l0t := { Y := Yli × Int × Int × Yls × Ylp × Ylc × Ylg × Yln × List Int, fromT := fun t => (t.1, t.2.2.2.1, t.2.2.2.2.1, t.2.2.2.2.2.1.1, t.2.2.2.2.2.1.2.1, t.2.2.2.2.2.1.2.2.1, t.2.2.2.2.2.1.2.2.2.1, t.2.2.2.2.2.1.2.2.2.2.1, t.2.2.2.2.2.2.1), outT := fun y => (y.1, (), (), y.2.1, y.2.2.1, (y.2.2.2.1, y.2.2.2.2.1, y.2.2.2.2.2.1, y.2.2.2.2.2.2.1, y.2.2.2.2.2.2.2.1, ()), y.2.2.2.2.2.2.2.2, ()), inv := fun _ => rfl }
noncomputable def f39l0e0 : Tm := ⟨[2], [], [.one (.own 1000000 (.int .i64))]⟩
noncomputable def f39l0e0v : Vw f39l0e0 := { Y := Yli, fromT := fun t => t.1, outT := fun y => (y, ()), inv := fun _ => rfl }
@[reducible] noncomputable def f39l0E : List Ex := [⟨(.ext 0), f39l0e0, f39l0e0v⟩]
noncomputable def f39l0B (N : Nat) (go : Yli → Int → Int → Yls → Ylp → Ylc → Ylg → Yln → List Int → Option (Yli)) (x0 : Yli) (x1 : Int) (x2 : Int) (x3 : Yls) (x4 : Ylp) (x5 : Ylc) (x6 : Ylg) (x7 : Yln) (x8 : List Int) : Option (Yli) := (if (decide (x2 < x1)) = true then (if (decide ((0 : Int) ≤ x2)) = true then (andThen (f92 N x3 x4 x5 x6 x7 (Go.IntKind.wrap .i64 ((1 : Int) * (2 ^ (min (Int.toNat x2) (Go.IntKind.bits .i64))))) ([] : List ((Int × (Int × Bool)) ⊕ (Int × ((Int × Int) × Int))))) fun y2 => (andThen (f71 N x3 x4 x5 x6 x7 y2.1) fun y3 => (andThen (f71 N x3 x4 x5 x6 x7 x8) fun y4 => (if (y3 == y4) = true then (if (Nat.ble ((List.length x0) + (List.length ([x2] : List Int))) Go.Al.boundLen) = true then (go (x0 ++ ([x2] : List Int)) x1 (Go.IntKind.wrap .i64 (x2 + (1 : Int))) x3 x4 x5 x6 x7 x8) else none) else (go x0 x1 (Go.IntKind.wrap .i64 (x2 + (1 : Int))) x3 x4 x5 x6 x7 x8))))) else none) else (some x0))
noncomputable def f39l0 (N : Nat) : Nat → Yli → Int → Int → Yls → Ylp → Ylc → Ylg → Yln → List Int → Option (Yli) | 0 => fun _ _ _ _ _ _ _ _ _ => none | q + 1 => f39l0B N (f39l0 N q)
noncomputable def f39l0o (N : Nat) : List (Nat × Orc) := []
theorem f39l0eq (N : Nat) (go : Yli → Int → Int → Yls → Ylp → Ylc → Ylg → Yln → List Int → Option (Yli)) (x : f39l0tv.Y) : codeK Try.prog hint (callsL (f39calls N)) (orcsL (f39l0o N)) 44 f39l0c 1 (f39l0tv.enc x) (loopK f39l0tv f39l0E (fun x => go x.1 x.2.1 x.2.2.1 x.2.2.2.1 x.2.2.2.2.1 x.2.2.2.2.2.1 x.2.2.2.2.2.2.1 x.2.2.2.2.2.2.2.1 x.2.2.2.2.2.2.2.2)) = f39l0B N go x.1 x.2.1 x.2.2.1 x.2.2.2.1 x.2.2.2.2.1 x.2.2.2.2.2.1 x.2.2.2.2.2.2.1 x.2.2.2.2.2.2.2.1 x.2.2.2.2.2.2.2.2 := by kernel_rfl
theorem f39l0oOk (N : Nat) : OrcsOk Try.prog false 44 f39l0c (orcsL (f39l0o N)) := orcsL_nil
theorem f39l0ok (N : Nat) (M : Nat) : OrcOk Try.prog false 44 (.loop f39l0c) (cutOrc f39l0tv f39l0E (fun x => f39l0 N M x.1 x.2.1 x.2.2.1 x.2.2.2.1 x.2.2.2.2.1 x.2.2.2.2.2.1 x.2.2.2.2.2.2.1 x.2.2.2.2.2.2.2.1 x.2.2.2.2.2.2.2.2)) := loop_ok mixed eqOk (f39callsOk N) (f39l0oOk N) (fun _ => rfl) (fun q x o h => (f39l0eq N (f39l0 N q) x).trans h) M
noncomputable def f39 (N : Nat) (x0 : Yls) (x1 : Ylp) (x2 : Ylc) (x3 : Ylg) : Option (Yli × Int) := (andThen (f70 N x0 x1 x2 x3) fun y1 => (if (y1.2.2.2.2.2.2 != (0 : Int)) = true then (some (([] : List Int), y1.2.2.2.2.2.2)) else (andThen (f39l0 N N ([] : List Int) ((List.length y1.2.2.2.2.1 : Nat) : Int) (0 : Int) y1.1 y1.2.1 y1.2.2.1 y1.2.2.2.1 y1.2.2.2.2.1 y1.2.2.2.2.2.1) fun y5 => (some (y5, (0 : Int))))))
noncomputable def f39orc (N : Nat) : List (Nat × Orc) := [(122, cutOrc f39l0tv f39l0E (fun x => f39l0 N N x.1 x.2.1 x.2.2.1 x.2.2.2.1 x.2.2.2.2.1 x.2.2.2.2.2.1 x.2.2.2.2.2.2.1 x.2.2.2.2.2.2.2.1 x.2.2.2.2.2.2.2.2))]
theorem f39eq (N : Nat) (x : f39iv.Y) : codeK Try.prog hint (callsL (f39calls N)) (orcsL (f39orc N)) 44 f39c 1 (f39iv.enc x) (fnKv Try.prog [.tmp 2, .tmp 3] f39ov) = f39 N x.1 x.2.1 x.2.2.1 x.2.2.2 := by kernel_rfl
theorem f39orcOk (N : Nat) : OrcsOk Try.prog false 44 f39c (orcsL (f39orc N)) := (orcsL_cons (c := .loop f39l0c) (by kernel_rfl) (f39l0ok N N) orcsL_nil)
noncomputable def f39call (N : Nat) : CallS := callOf 44 f39iv f39ov (fun x => f39 N x.1 x.2.1 x.2.2.1 x.2.2.2)
theorem f39ok (N : Nat) : CallOk Try.prog 39 (f39call N) := fn_ok (g := 39) (fn := Try.f39) (body := f39c) (n := 44) (rs := [.tmp 2, .tmp 3]) mixed eqOk (f39callsOk N) (by kernel_rfl) (by kernel_rfl) (by kernel_rfl) (by kernel_rfl) (f39orcOk N) (by kernel_rfl) (Vi := f39iv) (Vo := f39ov) (F := fun x => f39 N x.1 x.2.1 x.2.2.1 x.2.2.2) (fun x y h => (f39eq N x).trans h)
end Go.Proofs


namespace Go.Proofs
open Go.Al
noncomputable def f58i : Tm := ⟨[0], [], [.one (.v T3)]⟩
noncomputable def f58iv : Vw f58i := { Y := Ylc, fromT := fun t => t.1, outT := fun y => (y, ()), inv := fun _ => rfl }
noncomputable def f58o : Tm := ⟨[0], [], [.agg [.own 4096 T0, .own 4097 (.pair (.int .i64) T0), .own 4098 (.pair (.int .i64) T2), .own 4099 T4]]⟩
noncomputable def f58ov : Vw f58o := { Y := Yls × Ylp × Ylc × Ylg, fromT := fun t => (t.1.1, t.1.2.1, t.1.2.2.1, t.1.2.2.2.1), outT := fun y => ((y.1, y.2.1, y.2.2.1, y.2.2.2, ()), ()), inv := fun _ => rfl }
@[reducible] noncomputable def f58c : Code := bodyOf Try.f58
noncomputable def f58calls (N : Nat) : List (Nat × CallS) := [(26, f26call N), (52, f52call N)]
theorem f58callsOk (N : Nat) : CallsOk Try.prog (callsL (f58calls N)) := (callsL_cons (fun _ => Enters.of (fn := Try.f26) (by kernel_rfl) (by kernel_rfl) (by kernel_rfl)) (f26ok N) (callsL_cons (fun _ => Enters.of (fn := Try.f52) (by kernel_rfl) (by kernel_rfl) (by kernel_rfl)) (f52ok N) callsL_nil))
noncomputable def f58 (N : Nat) (x0 : Ylc) : Option (Yls × Ylp × Ylc × Ylg) := (andThen (f26 N (700 : Int) (800 : Int)) fun y1 => (andThen (f26 N (720 : Int) (820 : Int)) fun y2 => (andThen (f26 N (650 : Int) (900 : Int)) fun y3 => (if (Nat.ble ((List.length ([((0 : Int), ((760 : Int), true)), ((2 : Int), ((790 : Int), false))] : List (Int × (Int × Bool)))) + (List.length x0)) Go.Al.boundLen) = true then (andThen (f52 N (700 : Int) (800 : Int)) fun y4 => (some (([(y1.1, y1.2), (y2.1, y2.2), (y3.1, y3.2)] : List (Int × Int)), ([((0 : Int), ((1 : Int), (30 : Int))), ((1 : Int), ((2 : Int), (20 : Int)))] : List (Int × (Int × Int))), (([((0 : Int), ((760 : Int), true)), ((2 : Int), ((790 : Int), false))] : List (Int × (Int × Bool))) ++ x0), ([((1 : Int), ((y4.1, y4.2), (2 : Int)))] : List (Int × ((Int × Int) × Int)))))) else none))))
noncomputable def f58orc (N : Nat) : List (Nat × Orc) := []
theorem f58eq (N : Nat) (x : f58iv.Y) : codeK Try.prog hint (callsL (f58calls N)) (orcsL (f58orc N)) 19 f58c 1 (f58iv.enc x) (fnKv Try.prog [.cell 2 27] f58ov) = f58 N x := by kernel_rfl
theorem f58orcOk (N : Nat) : OrcsOk Try.prog false 19 f58c (orcsL (f58orc N)) := orcsL_nil
noncomputable def f58call (N : Nat) : CallS := callOf 19 f58iv f58ov (fun x => f58 N x)
theorem f58ok (N : Nat) : CallOk Try.prog 58 (f58call N) := fn_ok (g := 58) (fn := Try.f58) (body := f58c) (n := 19) (rs := [.cell 2 27]) mixed eqOk (f58callsOk N) (by kernel_rfl) (by kernel_rfl) (by kernel_rfl) (by kernel_rfl) (f58orcOk N) (by kernel_rfl) (Vi := f58iv) (Vo := f58ov) (F := fun x => f58 N x) (fun x y h => (f58eq N x).trans h)
end Go.Proofs


namespace Go.Proofs
open Go.Al
noncomputable def f77i : Tm := ⟨[0, 1, 2], [(.outer 0), (.outer 1)], [.one (.v (.int .i64)), .one (.ptr (.outer 0) 0 36), .one (.ptr (.outer 1) 0 5), .arr (.int .i64) 36, .agg [.v (.list T0), .v T1, .v T3, .v (.list T4), .v (.list T5)]]⟩
noncomputable def f77iv : Vw f77i := { Y := Int × List Int × Yls × Ylp × Ylc × Ylg × Yln, fromT := fun t => (t.1, t.2.2.2.1, t.2.2.2.2.1.1, t.2.2.2.2.1.2.1, t.2.2.2.2.1.2.2.1, t.2.2.2.2.1.2.2.2.1, t.2.2.2.2.1.2.2.2.2.1), outT := fun y => (y.1, (), (), y.2.1, (y.2.2.1, y.2.2.2.1, y.2.2.2.2.1, y.2.2.2.2.2.1, y.2.2.2.2.2.2, ()), ()), inv := fun _ => rfl }
noncomputable def f77o : Tm := ⟨[0, 1], [(.outer 0), (.outer 1)], [.one (.v .bool), .one (.v .bool), .arr (.int .i64) 36, .agg [.v (.list T0), .v T1, .v T3, .v (.list T4), .v (.list T5)]]⟩
noncomputable def f77ov : Vw f77o := { Y := Bool × Bool × List Int × Yls × Ylp × Ylc × Ylg × Yln, fromT := fun t => (t.1, t.2.1, t.2.2.1, t.2.2.2.1.1, t.2.2.2.1.2.1, t.2.2.2.1.2.2.1, t.2.2.2.1.2.2.2.1, t.2.2.2.1.2.2.2.2.1), outT := fun y => (y.1, y.2.1, y.2.2.1, (y.2.2.2.1, y.2.2.2.2.1, y.2.2.2.2.2.1, y.2.2.2.2.2.2.1, y.2.2.2.2.2.2.2, ()), ()), inv := fun _ => rfl }
@[reducible] noncomputable def f77c : Code := bodyOf Try.f77
noncomputable def f77calls (N : Nat) : List (Nat × CallS) := [(78, f78call N), (79, f79call N)]
theorem f77callsOk (N : Nat) : CallsOk Try.prog (callsL (f77calls N)) := (callsL_cons (fun _ => Enters.of (fn := Try.f78) (by kernel_rfl) (by kernel_rfl) (by kernel_rfl)) (f78ok N) (callsL_cons (fun _ => Enters.of (fn := Try.f79) (by kernel_rfl) (by kernel_rfl) (by kernel_rfl)) (f79ok N) callsL_nil))
@[reducible] noncomputable def f77l0c : Code := loopOf (codeOf (f77c) 122)
noncomputable def f77l0t : Tm := ⟨[0, 1, 4, 6, 12, 13], [(.box 6), (.outer 0), (.outer 1)], [.one (.v (.int .i64)), .one (.ptr (.outer 0) 0 36), .one (.v .bool), .one (.ptr (.box 6) 0 36), .one (.v (.int .i64)), .one (.v (.int .i64)), .arr (.int .i64) 36, .arr (.int .i64) 36, .agg [.v (.list T0), .v T1, .v T3, .v (.list T4), .v (.list T5)]]⟩
noncomputable def f77l0tv : Vw f77l0t := { Y := Int × Bool × Int × Int × List Int × List Int × Yls × Ylp × Ylc × Ylg × Yln, fromT := fun t => (t.1, t.2.2.1, t.2.2.2.2.1, t.2.2.2.2.2.1, t.2.2.2.2.2.2.1, t.2.2.2.2.2.2.2.1, t.2.2.2.2.2.2.2.2.1.1, t.2.2.2.2.2.2.2.2.1.2.1, t.2.2.2.2.2.2.2.2.1.2.2.1, t.2.2.2.2.2.2.2.2.1.2.2.2.1, t.2.2.2.2.2.2.2.2.1.2.2.2.2.1), outT := fun y => (y.1, (), y.2.1, (), y.2.2.1, y.2.2.2.1, y.2.2.2.2.1, y.2.2.2.2.2.1, (y.2.2.2.2.2.2.1, y.2.2.2.2.2.2.2.1, y.2.2.2.2.2.2.2.2.1, y.2.2.2.2.2.2.2.2.2.1, y.2.2.2.2.2.2.2.2.2.2, ()), ()), inv := fun _ => rfl }
noncomputable def f77l0e0 : Tm := ⟨[4, 6], [(.box 6), (.outer 0), (.outer 1)], [.one (.v .bool), .one (.ptr (.box 6) 0 36), .arr (.int .i64) 36, .arr (.int .i64) 36, .agg [.v (.list T0), .v T1, .v T3, .v (.list T4), .v (.list T5)]]⟩
noncomputable def f77l0e0v : Vw f77l0e0 := { Y := Bool × List Int × List Int × Yls × Ylp × Ylc × Ylg × Yln, fromT := fun t => (t.1, t.2.2.1, t.2.2.2.1, t.2.2.2.2.1.1, t.2.2.2.2.1.2.1, t.2.2.2.2.1.2.2.1, t.2.2.2.2.1.2.2.2.1, t.2.2.2.2.1.2.2.2.2.1), outT := fun y => (y.1, (), y.2.1, y.2.2.1, (y.2.2.2.1, y.2.2.2.2.1, y.2.2.2.2.2.1, y.2.2.2.2.2.2.1, y.2.2.2.2.2.2.2, ()), ()), inv := fun _ => rfl }
@[reducible] noncomputable def f77l0E : List Ex := [⟨(.ext 0), f77l0e0, f77l0e0v⟩]
noncomputable def f77l0B (N : Nat) (go : Int → Bool → Int → Int → List Int → List Int → Yls → Ylp → Ylc → Ylg → Yln → Option (Bool × List Int × List Int × Yls × Ylp × Ylc × Ylg × Yln)) (x0 : Int) (x1 : Bool) (x2 : Int) (x3 : Int) (x4 : List Int) (x5 : List Int) (x6 : Yls) (x7 : Ylp) (x8 : Ylc) (x9 : Ylg) (x10 : Yln) : Option (Bool × List Int × List Int × Yls × Ylp × Ylc × Ylg × Yln) := (if (decide (x3 < x2)) = true then (if x1 = true then (if ((decide ((0 : Int) ≤ x0)) && (decide (x0 < (6 : Int)))) = true then (if ((decide ((0 : Int) ≤ x3)) && (decide (x3 < (6 : Int)))) = true then (andThen (f78 N x0 x3 (0 : Int) x4) fun y1 => (go x0 (decide ((List.getD x5 ((0 + ((Int.toNat x0) * 6)) + ((Int.toNat x3) * 1)) (0 : Int)) ≤ (0 : Int))) x2 (Go.IntKind.wrap .i64 (x3 + (1 : Int))) y1 x5 x6 x7 x8 x9 x10)) else none) else none) else (andThen (f78 N x0 x3 (0 : Int) x4) fun y2 => (go x0 false x2 (Go.IntKind.wrap .i64 (x3 + (1 : Int))) y2 x5 x6 x7 x8 x9 x10))) else (some (x1, x4, x5, x6, x7, x8, x9, x10)))
noncomputable def f77l0 (N : Nat) : Nat → Int → Bool → Int → Int → List Int → List Int → Yls → Ylp → Ylc → Ylg → Yln → Option (Bool × List Int × List Int × Yls × Ylp × Ylc × Ylg × Yln) | 0 => fun _ _ _ _ _ _ _ _ _ _ _ => none | q + 1 => f77l0B N (f77l0 N q)
noncomputable def f77l0o (N : Nat) : List (Nat × Orc) := []
theorem f77l0eq (N : Nat) (go : Int → Bool → Int → Int → List Int → List Int → Yls → Ylp → Ylc → Ylg → Yln → Option (Bool × List Int × List Int × Yls × Ylp × Ylc × Ylg × Yln)) (x : f77l0tv.Y) : codeK Try.prog hint (callsL (f77calls N)) (orcsL (f77l0o N)) 31 f77l0c 1 (f77l0tv.enc x) (loopK f77l0tv f77l0E (fun x => go x.1 x.2.1 x.2.2.1 x.2.2.2.1 x.2.2.2.2.1 x.2.2.2.2.2.1 x.2.2.2.2.2.2.1 x.2.2.2.2.2.2.2.1 x.2.2.2.2.2.2.2.2.1 x.2.2.2.2.2.2.2.2.2.1 x.2.2.2.2.2.2.2.2.2.2)) = f77l0B N go x.1 x.2.1 x.2.2.1 x.2.2.2.1 x.2.2.2.2.1 x.2.2.2.2.2.1 x.2.2.2.2.2.2.1 x.2.2.2.2.2.2.2.1 x.2.2.2.2.2.2.2.2.1 x.2.2.2.2.2.2.2.2.2.1 x.2.2.2.2.2.2.2.2.2.2 := by kernel_rfl
theorem f77l0oOk (N : Nat) : OrcsOk Try.prog false 31 f77l0c (orcsL (f77l0o N)) := orcsL_nil
theorem f77l0ok (N : Nat) (M : Nat) : OrcOk Try.prog false 31 (.loop f77l0c) (cutOrc f77l0tv f77l0E (fun x => f77l0 N M x.1 x.2.1 x.2.2.1 x.2.2.2.1 x.2.2.2.2.1 x.2.2.2.2.2.1 x.2.2.2.2.2.2.1 x.2.2.2.2.2.2.2.1 x.2.2.2.2.2.2.2.2.1 x.2.2.2.2.2.2.2.2.2.1 x.2.2.2.2.2.2.2.2.2.2)) := loop_ok mixed eqOk (f77callsOk N) (f77l0oOk N) (fun _ => rfl) (fun q x o h => (f77l0eq N (f77l0 N q) x).trans h) M
noncomputable def f77 (N : Nat) (x0 : Int) (x1 : List Int) (x2 : Yls) (x3 : Ylp) (x4 : Ylc) (x5 : Ylg) (x6 : Yln) : Option (Bool × Bool × List Int × Yls × Ylp × Ylc × Ylg × Yln) := (andThen (f77l0 N N x0 true ((List.length x2 : Nat) : Int) (0 : Int) x1 x1 x2 x3 x4 x5 x6) fun y3 => (andThen (f79 N y3.2.1) fun y4 => (some (y3.1, y4.1, y3.2.2.1, y3.2.2.2.1, y3.2.2.2.2.1, y3.2.2.2.2.2.1, y3.2.2.2.2.2.2.1, y3.2.2.2.2.2.2.2))))
noncomputable def f77orc (N : Nat) : List (Nat × Orc) := [(122, cutOrc f77l0tv f77l0E (fun x => f77l0 N N x.1 x.2.1 x.2.2.1 x.2.2.2.1 x.2.2.2.2.1 x.2.2.2.2.2.1 x.2.2.2.2.2.2.1 x.2.2.2.2.2.2.2.1 x.2.2.2.2.2.2.2.2.1 x.2.2.2.2.2.2.2.2.2.1 x.2.2.2.2.2.2.2.2.2.2))]
theorem f77eq (N : Nat) (x : f77iv.Y) : codeK Try.prog hint (callsL (f77calls N)) (orcsL (f77orc N)) 31 f77c 1 (f77iv.enc x) (fnKv Try.prog [.tmp 4, .tmp 5] f77ov) = f77 N x.1 x.2.1 x.2.2.1 x.2.2.2.1 x.2.2.2.2.1 x.2.2.2.2.2.1 x.2.2.2.2.2.2 := by kernel_rfl
theorem f77orcOk (N : Nat) : OrcsOk Try.prog false 31 f77c (orcsL (f77orc N)) := (orcsL_cons (c := .loop f77l0c) (by kernel_rfl) (f77l0ok N N) orcsL_nil)
noncomputable def f77call (N : Nat) : CallS := callOf 31 f77iv f77ov (fun x => f77 N x.1 x.2.1 x.2.2.1 x.2.2.2.1 x.2.2.2.2.1 x.2.2.2.2.2.1 x.2.2.2.2.2.2)
theorem f77ok (N : Nat) : CallOk Try.prog 77 (f77call N) := fn_ok (g := 77) (fn := Try.f77) (body := f77c) (n := 31) (rs := [.tmp 4, .tmp 5]) mixed eqOk (f77callsOk N) (by kernel_rfl) (by kernel_rfl) (by kernel_rfl) (by kernel_rfl) (f77orcOk N) (by kernel_rfl) (Vi := f77iv) (Vo := f77ov) (F := fun x => f77 N x.1 x.2.1 x.2.2.1 x.2.2.2.1 x.2.2.2.2.1 x.2.2.2.2.2.1 x.2.2.2.2.2.2) (fun x y h => (f77eq N x).trans h)
end Go.Proofs


namespace Go.Proofs
open Go.Al
noncomputable def f74ai : Tm := ⟨[0, 1], [(.outer 0), (.outer 1)], [.agg [.v (.list T0), .v T1, .v T3, .v (.list T4), .v (.list T5)], .one (.fn 77 [(.outer 0), (.outer 1)]), .arr (.int .i64) 36, .agg [.v (.list T0), .v T1, .v T3, .v (.list T4), .v (.list T5)]]⟩
noncomputable def f74aiv : Vw f74ai := { Y := Yls × Ylp × Ylc × Ylg × Yln × List Int × Yls × Ylp × Ylc × Ylg × Yln, fromT := fun t => (t.1.1, t.1.2.1, t.1.2.2.1, t.1.2.2.2.1, t.1.2.2.2.2.1, t.2.2.1, t.2.2.2.1.1, t.2.2.2.1.2.1, t.2.2.2.1.2.2.1, t.2.2.2.1.2.2.2.1, t.2.2.2.1.2.2.2.2.1), outT := fun y => ((y.1, y.2.1, y.2.2.1, y.2.2.2.1, y.2.2.2.2.1, ()), (), y.2.2.2.2.2.1, (y.2.2.2.2.2.2.1, y.2.2.2.2.2.2.2.1, y.2.2.2.2.2.2.2.2.1, y.2.2.2.2.2.2.2.2.2.1, y.2.2.2.2.2.2.2.2.2.2, ()), ()), inv := fun _ => rfl }
noncomputable def f74ao : Tm := ⟨[0, 1], [(.outer 0), (.outer 1)], [.one (.own 4096 (.int .i64)), .one (.own 4097 (.int .i64)), .arr (.int .i64) 36, .agg [.v (.list T0), .v T1, .v T3, .v (.list T4), .v (.list T5)]]⟩
noncomputable def f74aov : Vw f74ao := { Y := Yli × Yli × List Int × Yls × Ylp × Ylc × Ylg × Yln, fromT := fun t => (t.1, t.2.1, t.2.2.1, t.2.2.2.1.1, t.2.2.2.1.2.1, t.2.2.2.1.2.2.1, t.2.2.2.1.2.2.2.1, t.2.2.2.1.2.2.2.2.1), outT := fun y => (y.1, y.2.1, y.2.2.1, (y.2.2.2.1, y.2.2.2.2.1, y.2.2.2.2.2.1, y.2.2.2.2.2.2.1, y.2.2.2.2.2.2.2, ()), ()), inv := fun _ => rfl }
@[reducible] noncomputable def f74ac : Code := bodyOf Try.f74
noncomputable def f74acalls (N : Nat) : List (Nat × CallS) := [(77, f77call N)]
theorem f74acallsOk (N : Nat) : CallsOk Try.prog (callsL (f74acalls N)) := (callsL_cons (fun _ => Enters.of (fn := Try.f77) (by kernel_rfl) (by kernel_rfl) (by kernel_rfl)) (f77ok N) callsL_nil)
@[reducible] noncomputable def f74al0c : Code := loopOf (codeOf (f74ac) 26)
noncomputable def f74al0t : Tm := ⟨[1, 4, 5, 12, 13], [(.outer 0), (.outer 1)], [.one (.fn 77 [(.outer 0), (.outer 1)]), .one (.own 1000000 (.int .i64)), .one (.own 1000001 (.int .i64)), .one (.v (.int .i64)), .one (.v (.int .i64)), .arr (.int .i64) 36, .agg [.v (.list T0), .v T1, .v T3, .v (.list T4), .v (.list T5)]]⟩
noncomputable def f74al0tv : Vw f74al0t := { Y := Yli × Yli × Int × Int × List Int × Yls × Ylp × Ylc × Ylg × Yln, fromT := fun t => (t.2.1, t.2.2.1, t.2.2.2.1, t.2.2.2.2.1, t.2.2.2.2.2.1, t.2.2.2.2.2.2.1.1, t.2.2.2.2.2.2.1.2.1, t.2.2.2.2.2.2.1.2.2.1, t.2.2.2.2.2.2.1.2.2.2.1, t.2.2.2.2.2.2.1.2.2.2.2.1), outT := fun y => ((), y.1, y.2.1, y.2.2.1, y.2.2.2.1, y.2.2.2.2.1, (y.2.2.2.2.2.1, y.2.2.2.2.2.2.1, y.2.2.2.2.2.2.2.1, y.2.2.2.2.2.2.2.2.1, y.2.2.2.2.2.2.2.2.2, ()), ()), inv := fun _ => rfl }
noncomputable def f74al0e0 : Tm := ⟨[4, 5], [(.outer 0), (.outer 1)], [.one (.own 1000000 (.int .i64)), .one (.own 1000001 (.int .i64)), .arr (.int .i64) 36, .agg [.v (.list T0), .v T1, .v T3, .v (.list T4), .v (.list T5)]]⟩
noncomputable def f74al0e0v : Vw f74al0e0 := { Y := Yli × Yli × List Int × Yls × Ylp × Ylc × Ylg × Yln, fromT := fun t => (t.1, t.2.1, t.2.2.1, t.2.2.2.1.1, t.2.2.2.1.2.1, t.2.2.2.1.2.2.1, t.2.2.2.1.2.2.2.1, t.2.2.2.1.2.2.2.2.1), outT := fun y => (y.1, y.2.1, y.2.2.1, (y.2.2.2.1, y.2.2.2.2.1, y.2.2.2.2.2.1, y.2.2.2.2.2.2.1, y.2.2.2.2.2.2.2, ()), ()), inv := fun _ => rfl }
@[reducible] noncomputable def f74al0E : List Ex := [⟨(.ext 0), f74al0e0, f74al0e0v⟩]
noncomputable def f74al0B (N : Nat) (go : Yli → Yli → Int → Int → List Int → Yls → Ylp → Ylc → Ylg → Yln → Option (Yli × Yli × List Int × Yls × Ylp × Ylc × Ylg × Yln)) (x0 : Yli) (x1 : Yli) (x2 : Int) (x3 : Int) (x4 : List Int) (x5 : Yls) (x6 : Ylp) (x7 : Ylc) (x8 : Ylg) (x9 : Yln) : Option (Yli × Yli × List Int × Yls × Ylp × Ylc × Ylg × Yln) := (if (decide (x3 < x2)) = true then (andThen (f77 N x3 x4 x5 x6 x7 x8 x9) fun y1 => (if y1.1 = true then (if (Nat.ble ((List.length x0) + (List.length ([x3] : List Int))) Go.Al.boundLen) = true then (if y1.2.1 = true then (if (Nat.ble ((List.length x1) + (List.length ([x3] : List Int))) Go.Al.boundLen) = true then (go (x0 ++ ([x3] : List Int)) (x1 ++ ([x3] : List Int)) x2 (Go.IntKind.wrap .i64 (x3 + (1 : Int))) y1.2.2.1 y1.2.2.2.1 y1.2.2.2.2.1 y1.2.2.2.2.2.1 y1.2.2.2.2.2.2.1 y1.2.2.2.2.2.2.2) else none) else (go (x0 ++ ([x3] : List Int)) x1 x2 (Go.IntKind.wrap .i64 (x3 + (1 : Int))) y1.2.2.1 y1.2.2.2.1 y1.2.2.2.2.1 y1.2.2.2.2.2.1 y1.2.2.2.2.2.2.1 y1.2.2.2.2.2.2.2)) else none) else (if y1.2.1 = true then (if (Nat.ble ((List.length x1) + (List.length ([x3] : List Int))) Go.Al.boundLen) = true then (go x0 (x1 ++ ([x3] : List Int)) x2 (Go.IntKind.wrap .i64 (x3 + (1 : Int))) y1.2.2.1 y1.2.2.2.1 y1.2.2.2.2.1 y1.2.2.2.2.2.1 y1.2.2.2.2.2.2.1 y1.2.2.2.2.2.2.2) else none) else (go x0 x1 x2 (Go.IntKind.wrap .i64 (x3 + (1 : Int))) y1.2.2.1 y1.2.2.2.1 y1.2.2.2.2.1 y1.2.2.2.2.2.1 y1.2.2.2.2.2.2.1 y1.2.2.2.2.2.2.2)))) else (some (x0, x1, x4, x5, x6, x7, x8, x9)))
noncomputable def f74al0 (N : Nat) : Nat → Yli → Yli → Int → Int → List Int → Yls → Ylp → Ylc → Ylg → Yln → Option (Yli × Yli × List Int × Yls × Ylp × Ylc × Ylg × Yln) | 0 => fun _ _ _ _ _ _ _ _ _ _ => none | q + 1 => f74al0B N (f74al0 N q)
noncomputable def f74al0o (N : Nat) : List (Nat × Orc) := []
theorem f74al0eq (N : Nat) (go : Yli → Yli → Int → Int → List Int → Yls → Ylp → Ylc → Ylg → Yln → Option (Yli × Yli × List Int × Yls × Ylp × Ylc × Ylg × Yln)) (x : f74al0tv.Y) : codeK Try.prog hint (callsL (f74acalls N)) (orcsL (f74al0o N)) 35 f74al0c 1 (f74al0tv.enc x) (loopK f74al0tv f74al0E (fun x => go x.1 x.2.1 x.2.2.1 x.2.2.2.1 x.2.2.2.2.1 x.2.2.2.2.2.1 x.2.2.2.2.2.2.1 x.2.2.2.2.2.2.2.1 x.2.2.2.2.2.2.2.2.1 x.2.2.2.2.2.2.2.2.2)) = f74al0B N go x.1 x.2.1 x.2.2.1 x.2.2.2.1 x.2.2.2.2.1 x.2.2.2.2.2.1 x.2.2.2.2.2.2.1 x.2.2.2.2.2.2.2.1 x.2.2.2.2.2.2.2.2.1 x.2.2.2.2.2.2.2.2.2 := by kernel_rfl
theorem f74al0oOk (N : Nat) : OrcsOk Try.prog false 35 f74al0c (orcsL (f74al0o N)) := orcsL_nil
theorem f74al0ok (N : Nat) (M : Nat) : OrcOk Try.prog false 35 (.loop f74al0c) (cutOrc f74al0tv f74al0E (fun x => f74al0 N M x.1 x.2.1 x.2.2.1 x.2.2.2.1 x.2.2.2.2.1 x.2.2.2.2.2.1 x.2.2.2.2.2.2.1 x.2.2.2.2.2.2.2.1 x.2.2.2.2.2.2.2.2.1 x.2.2.2.2.2.2.2.2.2)) := loop_ok mixed eqOk (f74acallsOk N) (f74al0oOk N) (fun _ => rfl) (fun q x o h => (f74al0eq N (f74al0 N q) x).trans h) M
noncomputable def f74a (N : Nat) (x0 : Yls) (x1 : Ylp) (x2 : Ylc) (x3 : Ylg) (x4 : Yln) (x5 : List Int) (x6 : Yls) (x7 : Ylp) (x8 : Ylc) (x9 : Ylg) (x10 : Yln) : Option (Yli × Yli × List Int × Yls × Ylp × Ylc × Ylg × Yln) := (andThen (f74al0 N N ([] : List Int) ([] : List Int) ((List.length x0 : Nat) : Int) (0 : Int) x5 x6 x7 x8 x9 x10) fun y2 => (some (y2.1, y2.2.1, y2.2.2.1, y2.2.2.2.1, y2.2.2.2.2.1, y2.2.2.2.2.2.1, y2.2.2.2.2.2.2.1, y2.2.2.2.2.2.2.2)))
noncomputable def f74aorc (N : Nat) : List (Nat × Orc) := [(26, cutOrc f74al0tv f74al0E (fun x => f74al0 N N x.1 x.2.1 x.2.2.1 x.2.2.2.1 x.2.2.2.2.1 x.2.2.2.2.2.1 x.2.2.2.2.2.2.1 x.2.2.2.2.2.2.2.1 x.2.2.2.2.2.2.2.2.1 x.2.2.2.2.2.2.2.2.2))]
theorem f74aeq (N : Nat) (x : f74aiv.Y) : codeK Try.prog hint (callsL (f74acalls N)) (orcsL (f74aorc N)) 35 f74ac 1 (f74aiv.enc x) (fnKv Try.prog [.tmp 4, .tmp 5] f74aov) = f74a N x.1 x.2.1 x.2.2.1 x.2.2.2.1 x.2.2.2.2.1 x.2.2.2.2.2.1 x.2.2.2.2.2.2.1 x.2.2.2.2.2.2.2.1 x.2.2.2.2.2.2.2.2.1 x.2.2.2.2.2.2.2.2.2.1 x.2.2.2.2.2.2.2.2.2.2 := by kernel_rfl
theorem f74aorcOk (N : Nat) : OrcsOk Try.prog false 35 f74ac (orcsL (f74aorc N)) := (orcsL_cons (c := .loop f74al0c) (by kernel_rfl) (f74al0ok N N) orcsL_nil)
noncomputable def f74acall (N : Nat) : CallS := callOf 35 f74aiv f74aov (fun x => f74a N x.1 x.2.1 x.2.2.1 x.2.2.2.1 x.2.2.2.2.1 x.2.2.2.2.2.1 x.2.2.2.2.2.2.1 x.2.2.2.2.2.2.2.1 x.2.2.2.2.2.2.2.2.1 x.2.2.2.2.2.2.2.2.2.1 x.2.2.2.2.2.2.2.2.2.2)
theorem f74aok (N : Nat) : CallOk Try.prog 74 (f74acall N) := fn_ok (g := 74) (fn := Try.f74) (body := f74ac) (n := 35) (rs := [.tmp 4, .tmp 5]) mixed eqOk (f74acallsOk N) (by kernel_rfl) (by kernel_rfl) (by kernel_rfl) (by kernel_rfl) (f74aorcOk N) (by kernel_rfl) (Vi := f74aiv) (Vo := f74aov) (F := fun x => f74a N x.1 x.2.1 x.2.2.1 x.2.2.2.1 x.2.2.2.2.1 x.2.2.2.2.2.1 x.2.2.2.2.2.2.1 x.2.2.2.2.2.2.2.1 x.2.2.2.2.2.2.2.2.1 x.2.2.2.2.2.2.2.2.2.1 x.2.2.2.2.2.2.2.2.2.2) (fun x y h => (f74aeq N x).trans h)
end Go.Proofs


namespace Go.Proofs
open Go.Al
noncomputable def f32i : Tm := ⟨[0], [], [.agg [.v (.list T0), .v T1, .v T3, .v (.list T4)]]⟩
noncomputable def f32iv : Vw f32i := { Y := Yls × Ylp × Ylc × Ylg, fromT := fun t => (t.1.1, t.1.2.1, t.1.2.2.1, t.1.2.2.2.1), outT := fun y => ((y.1, y.2.1, y.2.2.1, y.2.2.2, ()), ()), inv := fun _ => rfl }
noncomputable def f32o : Tm := ⟨[0, 1, 2], [], [.one (.own 4096 (.int .i64)), .one (.own 4097 (.int .i64)), .one (.v (.int .i64))]⟩
noncomputable def f32ov : Vw f32o := { Y := Yli × Yli × Int, fromT := fun t => (t.1, t.2.1, t.2.2.1), outT := fun y => (y.1, y.2.1, y.2.2, ()), inv := fun _ => rfl }
@[reducible] noncomputable def f32c : Code := bodyOf Try.f32
noncomputable def f32calls (N : Nat) : List (Nat × CallS) := [(70, f70call N), (74, f74acall N)]
theorem f32callsOk (N : Nat) : CallsOk Try.prog (callsL (f32calls N)) := (callsL_cons (fun _ => Enters.of (fn := Try.f70) (by kernel_rfl) (by kernel_rfl) (by kernel_rfl)) (f70ok N) (callsL_cons (fun _ => Enters.of (fn := Try.f74) (by kernel_rfl) (by kernel_rfl) (by kernel_rfl)) (f74aok N) callsL_nil))
noncomputable def f32 (N : Nat) (x0 : Yls) (x1 : Ylp) (x2 : Ylc) (x3 : Ylg) : Option (Yli × Yli × Int) := (andThen (f70 N x0 x1 x2 x3) fun y1 => (if (y1.2.2.2.2.2.2 != (0 : Int)) = true then (some (([] : List Int), ([] : List Int), y1.2.2.2.2.2.2)) else (andThen (f74a N y1.1 y1.2.1 y1.2.2.1 y1.2.2.2.1 y1.2.2.2.2.1 y1.2.2.2.2.2.1 y1.1 y1.2.1 y1.2.2.1 y1.2.2.2.1 y1.2.2.2.2.1) fun y2 => (some (y2.1, y2.2.1, (0 : Int))))))
noncomputable def f32orc (N : Nat) : List (Nat × Orc) := []
theorem f32eq (N : Nat) (x : f32iv.Y) : codeK Try.prog hint (callsL (f32calls N)) (orcsL (f32orc N)) 24 f32c 1 (f32iv.enc x) (fnKv Try.prog [.tmp 2, .tmp 3, .tmp 4] f32ov) = f32 N x.1 x.2.1 x.2.2.1 x.2.2.2 := by kernel_rfl
theorem f32orcOk (N : Nat) : OrcsOk Try.prog false 24 f32c (orcsL (f32orc N)) := orcsL_nil
noncomputable def f32call (N : Nat) : CallS := callOf 24 f32iv f32ov (fun x => f32 N x.1 x.2.1 x.2.2.1 x.2.2.2)
theorem f32ok (N : Nat) : CallOk Try.prog 32 (f32call N) := fn_ok (g := 32) (fn := Try.f32) (body := f32c) (n := 24) (rs := [.tmp 2, .tmp 3, .tmp 4]) mixed eqOk (f32callsOk N) (by kernel_rfl) (by kernel_rfl) (by kernel_rfl) (by kernel_rfl) (f32orcOk N) (by kernel_rfl) (Vi := f32iv) (Vo := f32ov) (F := fun x => f32 N x.1 x.2.1 x.2.2.1 x.2.2.2) (fun x y h => (f32eq N x).trans h)
end Go.Proofs


namespace Go.Proofs
open Go.Al
noncomputable def f88i : Tm := ⟨[0, 1], [(.outer 0)], [.agg [.v (.int .i64), .v (.int .i64), .v (.int .i64)], .one (.ptr (.outer 0) 0 5), .agg [.v (.list T0), .v T1, .v T3, .v (.list T4), .v (.list T5)]]⟩
noncomputable def f88iv : Vw f88i := { Y := Int × Int × Int × Yls × Ylp × Ylc × Ylg × Yln, fromT := fun t => (t.1.1, t.1.2.1, t.1.2.2.1, t.2.2.1.1, t.2.2.1.2.1, t.2.2.1.2.2.1, t.2.2.1.2.2.2.1, t.2.2.1.2.2.2.2.1), outT := fun y => ((y.1, y.2.1, y.2.2.1, ()), (), (y.2.2.2.1, y.2.2.2.2.1, y.2.2.2.2.2.1, y.2.2.2.2.2.2.1, y.2.2.2.2.2.2.2, ()), ()), inv := fun _ => rfl }
noncomputable def f88o : Tm := ⟨[0], [(.outer 0)], [.one (.v .bool), .agg [.v (.list T0), .v T1, .v T3, .v (.list T4), .v (.list T5)]]⟩
noncomputable def f88ov : Vw f88o := { Y := Bool × Yls × Ylp × Ylc × Ylg × Yln, fromT := fun t => (t.1, t.2.1.1, t.2.1.2.1, t.2.1.2.2.1, t.2.1.2.2.2.1, t.2.1.2.2.2.2.1), outT := fun y => (y.1, (y.2.1, y.2.2.1, y.2.2.2.1, y.2.2.2.2.1, y.2.2.2.2.2, ()), ()), inv := fun _ => rfl }
@[reducible] noncomputable def f88c : Code := bodyOf Try.f88
noncomputable def f88calls (N : Nat) : List (Nat × CallS) := [(60, f60call N), (65, f65call N)]
theorem f88callsOk (N : Nat) : CallsOk Try.prog (callsL (f88calls N)) := (callsL_cons (fun _ => Enters.of (fn := Try.f60) (by kernel_rfl) (by kernel_rfl) (by kernel_rfl)) (f60ok N) (callsL_cons (fun _ => Enters.of (fn := Try.f65) (by kernel_rfl) (by kernel_rfl) (by kernel_rfl)) (f65ok N) callsL_nil))
noncomputable def f88 (N : Nat) (x0 : Int) (x1 : Int) (x2 : Int) (x3 : Yls) (x4 : Ylp) (x5 : Ylc) (x6 : Ylg) (x7 : Yln) : Option (Bool × Yls × Ylp × Ylc × Ylg × Yln) := (andThen (f60 N (0 : Int) (Go.IntKind.wrap .i64 (((List.length x3 : Nat) : Int) - (1 : Int))) ([x0] : List Int)) fun y1 => (if (!y1) = false then (andThen (f65 N x1 x2) fun y2 => (some ((!y2), x3, x4, x5, x6, x7))) else (some (true, x3, x4, x5, x6, x7))))
noncomputable def f88orc (N : Nat) : List (Nat × Orc) := []
theorem f88eq (N : Nat) (x : f88iv.Y) : codeK Try.prog hint (callsL (f88calls N)) (orcsL (f88orc N)) 20 f88c 1 (f88iv.enc x) (fnKv Try.prog [.tmp 3] f88ov) = f88 N x.1 x.2.1 x.2.2.1 x.2.2.2.1 x.2.2.2.2.1 x.2.2.2.2.2.1 x.2.2.2.2.2.2.1 x.2.2.2.2.2.2.2 := by kernel_rfl
theorem f88orcOk (N : Nat) : OrcsOk Try.prog false 20 f88c (orcsL (f88orc N)) := orcsL_nil
noncomputable def f88call (N : Nat) : CallS := callOf 20 f88iv f88ov (fun x => f88 N x.1 x.2.1 x.2.2.1 x.2.2.2.1 x.2.2.2.2.1 x.2.2.2.2.2.1 x.2.2.2.2.2.2.1 x.2.2.2.2.2.2.2)
theorem f88ok (N : Nat) : CallOk Try.prog 88 (f88call N) := fn_ok (g := 88) (fn := Try.f88) (body := f88c) (n := 20) (rs := [.tmp 3]) mixed eqOk (f88callsOk N) (by kernel_rfl) (by kernel_rfl) (by kernel_rfl) (by kernel_rfl) (f88orcOk N) (by kernel_rfl) (Vi := f88iv) (Vo := f88ov) (F := fun x => f88 N x.1 x.2.1 x.2.2.1 x.2.2.2.1 x.2.2.2.2.1 x.2.2.2.2.2.1 x.2.2.2.2.2.2.1 x.2.2.2.2.2.2.2) (fun x y h => (f88eq N x).trans h)
end Go.Proofs


namespace Go.Proofs
open Go.Al
noncomputable def f111i : Tm := ⟨[0, 1], [(.outer 0)], [.one (.v T1), .one (.fn 88 [(.outer 0)]), .agg [.v (.list T0), .v T1, .v T3, .v (.list T4), .v (.list T5)]]⟩
noncomputable def f111iv : Vw f111i := { Y := Ylp × Yls × Ylp × Ylc × Ylg × Yln, fromT := fun t => (t.1, t.2.2.1.1, t.2.2.1.2.1, t.2.2.1.2.2.1, t.2.2.1.2.2.2.1, t.2.2.1.2.2.2.2.1), outT := fun y => (y.1, (), (y.2.1, y.2.2.1, y.2.2.2.1, y.2.2.2.2.1, y.2.2.2.2.2, ()), ()), inv := fun _ => rfl }
noncomputable def f111o : Tm := ⟨[0], [(.outer 0)], [.one (.v (.int .i64)), .agg [.v (.list T0), .v T1, .v T3, .v (.list T4), .v (.list T5)]]⟩
noncomputable def f111ov : Vw f111o := { Y := Int × Yls × Ylp × Ylc × Ylg × Yln, fromT := fun t => (t.1, t.2.1.1, t.2.1.2.1, t.2.1.2.2.1, t.2.1.2.2.2.1, t.2.1.2.2.2.2.1), outT := fun y => (y.1, (y.2.1, y.2.2.1, y.2.2.2.1, y.2.2.2.2.1, y.2.2.2.2.2, ()), ()), inv := fun _ => rfl }
@[reducible] noncomputable def f111c : Code := bodyOf Try.f111
noncomputable def f111calls (N : Nat) : List (Nat × CallS) := [(88, f88call N)]
theorem f111callsOk (N : Nat) : CallsOk Try.prog (callsL (f111calls N)) := (callsL_cons (fun _ => Enters.of (fn := Try.f88) (by kernel_rfl) (by kernel_rfl) (by kernel_rfl)) (f88ok N) callsL_nil)
@[reducible] noncomputable def f111l0c : Code := loopOf (codeOf (f111c) 26)
noncomputable def f111l0t : Tm := ⟨[0, 1, 7, 8], [(.outer 0)], [.one (.v T1), .one (.fn 88 [(.outer 0)]), .one (.v (.int .i64)), .one (.v (.int .i64)), .agg [.v (.list T0), .v T1, .v T3, .v (.list T4), .v (.list T5)]]⟩
noncomputable def f111l0tv : Vw f111l0t := { Y := Ylp × Int × Int × Yls × Ylp × Ylc × Ylg × Yln, fromT := fun t => (t.1, t.2.2.1, t.2.2.2.1, t.2.2.2.2.1.1, t.2.2.2.2.1.2.1, t.2.2.2.2.1.2.2.1, t.2.2.2.2.1.2.2.2.1, t.2.2.2.2.1.2.2.2.2.1), outT := fun y => (y.1, (), y.2.1, y.2.2.1, (y.2.2.2.1, y.2.2.2.2.1, y.2.2.2.2.2.1, y.2.2.2.2.2.2.1, y.2.2.2.2.2.2.2, ()), ()), inv := fun _ => rfl }
noncomputable def f111l0e0 : Tm := ⟨[4], [(.outer 0)], [.one (.v (.int .i64)), .agg [.v (.list T0), .v T1, .v T3, .v (.list T4), .v (.list T5)]]⟩
noncomputable def f111l0e0v : Vw f111l0e0 := { Y := Int × Yls × Ylp × Ylc × Ylg × Yln, fromT := fun t => (t.1, t.2.1.1, t.2.1.2.1, t.2.1.2.2.1, t.2.1.2.2.2.1, t.2.1.2.2.2.2.1), outT := fun y => (y.1, (y.2.1, y.2.2.1, y.2.2.2.1, y.2.2.2.2.1, y.2.2.2.2.2, ()), ()), inv := fun _ => rfl }
noncomputable def f111l0e1 : Tm := ⟨[], [(.outer 0)], [.agg [.v (.list T0), .v T1, .v T3, .v (.list T4), .v (.list T5)]]⟩
noncomputable def f111l0e1v : Vw f111l0e1 := { Y := Yls × Ylp × Ylc × Ylg × Yln, fromT := fun t => (t.1.1, t.1.2.1, t.1.2.2.1, t.1.2.2.2.1, t.1.2.2.2.2.1), outT := fun y => ((y.1, y.2.1, y.2.2.1, y.2.2.2.1, y.2.2.2.2, ()), ()), inv := fun _ => rfl }
@[reducible] noncomputable def f111l0E : List Ex := [⟨.ret, f111l0e0, f111l0e0v⟩, ⟨(.ext 0), f111l0e1, f111l0e1v⟩]
noncomputable def f111l0B (N : Nat) (go : Ylp → Int → Int → Yls → Ylp → Ylc → Ylg → Yln → Option (((Int × Yls × Ylp × Ylc × Ylg × Yln) ⊕ Yls × Ylp × Ylc × Ylg × Yln))) (x0 : Ylp) (x1 : Int) (x2 : Int) (x3 : Yls) (x4 : Ylp) (x5 : Ylc) (x6 : Ylg) (x7 : Yln) : Option (((Int × Yls × Ylp × Ylc × Ylg × Yln) ⊕ Yls × Ylp × Ylc × Ylg × Yln)) := (if (decide (x2 < x1)) = true then (if ((decide ((0 : Int) ≤ x2)) && (decide (x2 < ((List.length x0 : Nat) : Int)))) = true then (andThen (f88 N (List.getD x0 (Int.toNat x2) ((0 : Int), ((0 : Int), (0 : Int)))).1 (List.getD x0 (Int.toNat x2) ((0 : Int), ((0 : Int), (0 : Int)))).2.1 (List.getD x0 (Int.toNat x2) ((0 : Int), ((0 : Int), (0 : Int)))).2.2 x3 x4 x5 x6 x7) fun y1 => (if y1.1 = true then (some (Sum.inl (x2, y1.2.1, y1.2.2.1, y1.2.2.2.1, y1.2.2.2.2.1, y1.2.2.2.2.2))) else (go x0 x1 (Go.IntKind.wrap .i64 (x2 + (1 : Int))) y1.2.1 y1.2.2.1 y1.2.2.2.1 y1.2.2.2.2.1 y1.2.2.2.2.2))) else none) else (some (Sum.inr (x3, x4, x5, x6, x7))))
noncomputable def f111l0 (N : Nat) : Nat → Ylp → Int → Int → Yls → Ylp → Ylc → Ylg → Yln → Option (((Int × Yls × Ylp × Ylc × Ylg × Yln) ⊕ Yls × Ylp × Ylc × Ylg × Yln)) | 0 => fun _ _ _ _ _ _ _ _ => none | q + 1 => f111l0B N (f111l0 N q)
noncomputable def f111l0o (N : Nat) : List (Nat × Orc) := []
theorem f111l0eq (N : Nat) (go : Ylp → Int → Int → Yls → Ylp → Ylc → Ylg → Yln → Option (((Int × Yls × Ylp × Ylc × Ylg × Yln) ⊕ Yls × Ylp × Ylc × Ylg × Yln))) (x : f111l0tv.Y) : codeK Try.prog hint (callsL (f111calls N)) (orcsL (f111l0o N)) 19 f111l0c 1 (f111l0tv.enc x) (loopK f111l0tv f111l0E (fun x => go x.1 x.2.1 x.2.2.1 x.2.2.2.1 x.2.2.2.2.1 x.2.2.2.2.2.1 x.2.2.2.2.2.2.1 x.2.2.2.2.2.2.2)) = f111l0B N go x.1 x.2.1 x.2.2.1 x.2.2.2.1 x.2.2.2.2.1 x.2.2.2.2.2.1 x.2.2.2.2.2.2.1 x.2.2.2.2.2.2.2 := by kernel_rfl
theorem f111l0oOk (N : Nat) : OrcsOk Try.prog false 19 f111l0c (orcsL (f111l0o N)) := orcsL_nil
theorem f111l0ok (N : Nat) (M : Nat) : OrcOk Try.prog false 19 (.loop f111l0c) (cutOrc f111l0tv f111l0E (fun x => f111l0 N M x.1 x.2.1 x.2.2.1 x.2.2.2.1 x.2.2.2.2.1 x.2.2.2.2.2.1 x.2.2.2.2.2.2.1 x.2.2.2.2.2.2.2)) := loop_ok mixed eqOk (f111callsOk N) (f111l0oOk N) (fun _ => rfl) (fun q x o h => (f111l0eq N (f111l0 N q) x).trans h) M
noncomputable def f111 (N : Nat) (x0 : Ylp) (x1 : Yls) (x2 : Ylp) (x3 : Ylc) (x4 : Ylg) (x5 : Yln) : Option (Int × Yls × Ylp × Ylc × Ylg × Yln) := (andThen (f111l0 N N x0 ((List.length x0 : Nat) : Int) (0 : Int) x1 x2 x3 x4 x5) fun y2 => (either y2 (fun a3 => (some (a3.1, a3.2.1, a3.2.2.1, a3.2.2.2.1, a3.2.2.2.2.1, a3.2.2.2.2.2))) (fun b4 => (some ((-1 : Int), b4.1, b4.2.1, b4.2.2.1, b4.2.2.2.1, b4.2.2.2.2)))))
noncomputable def f111orc (N : Nat) : List (Nat × Orc) := [(26, cutOrc f111l0tv f111l0E (fun x => f111l0 N N x.1 x.2.1 x.2.2.1 x.2.2.2.1 x.2.2.2.2.1 x.2.2.2.2.2.1 x.2.2.2.2.2.2.1 x.2.2.2.2.2.2.2))]
theorem f111eq (N : Nat) (x : f111iv.Y) : codeK Try.prog hint (callsL (f111calls N)) (orcsL (f111orc N)) 19 f111c 1 (f111iv.enc x) (fnKv Try.prog [.tmp 4] f111ov) = f111 N x.1 x.2.1 x.2.2.1 x.2.2.2.1 x.2.2.2.2.1 x.2.2.2.2.2 := by kernel_rfl
theorem f111orcOk (N : Nat) : OrcsOk Try.prog false 19 f111c (orcsL (f111orc N)) := (orcsL_cons (c := .loop f111l0c) (by kernel_rfl) (f111l0ok N N) orcsL_nil)
noncomputable def f111call (N : Nat) : CallS := callOf 19 f111iv f111ov (fun x => f111 N x.1 x.2.1 x.2.2.1 x.2.2.2.1 x.2.2.2.2.1 x.2.2.2.2.2)
theorem f111ok (N : Nat) : CallOk Try.prog 111 (f111call N) := fn_ok (g := 111) (fn := Try.f111) (body := f111c) (n := 19) (rs := [.tmp 4]) mixed eqOk (f111callsOk N) (by kernel_rfl) (by kernel_rfl) (by kernel_rfl) (by kernel_rfl) (f111orcOk N) (by kernel_rfl) (Vi := f111iv) (Vo := f111ov) (F := fun x => f111 N x.1 x.2.1 x.2.2.1 x.2.2.2.1 x.2.2.2.2.1 x.2.2.2.2.2) (fun x y h => (f111eq N x).trans h)
end Go.Proofs


namespace Go.Proofs
open Go.Al
noncomputable def f89i : Tm := ⟨[0, 1], [(.outer 0)], [.one (.v T1), .one (.fn 88 [(.outer 0)]), .agg [.v (.list T0), .v T1, .v T3, .v (.list T4), .v (.list T5)]]⟩
noncomputable def f89iv : Vw f89i := { Y := Ylp × Yls × Ylp × Ylc × Ylg × Yln, fromT := fun t => (t.1, t.2.2.1.1, t.2.2.1.2.1, t.2.2.1.2.2.1, t.2.2.1.2.2.2.1, t.2.2.1.2.2.2.2.1), outT := fun y => (y.1, (), (y.2.1, y.2.2.1, y.2.2.2.1, y.2.2.2.2.1, y.2.2.2.2.2, ()), ()), inv := fun _ => rfl }
noncomputable def f89o : Tm := ⟨[0], [(.outer 0)], [.one (.v .bool), .agg [.v (.list T0), .v T1, .v T3, .v (.list T4), .v (.list T5)]]⟩
noncomputable def f89ov : Vw f89o := { Y := Bool × Yls × Ylp × Ylc × Ylg × Yln, fromT := fun t => (t.1, t.2.1.1, t.2.1.2.1, t.2.1.2.2.1, t.2.1.2.2.2.1, t.2.1.2.2.2.2.1), outT := fun y => (y.1, (y.2.1, y.2.2.1, y.2.2.2.1, y.2.2.2.2.1, y.2.2.2.2.2, ()), ()), inv := fun _ => rfl }
@[reducible] noncomputable def f89c : Code := bodyOf Try.f89
noncomputable def f89calls (N : Nat) : List (Nat × CallS) := [(111, f111call N)]
theorem f89callsOk (N : Nat) : CallsOk Try.prog (callsL (f89calls N)) := (callsL_cons (fun _ => Enters.of (fn := Try.f111) (by kernel_rfl) (by kernel_rfl) (by kernel_rfl)) (f111ok N) callsL_nil)
noncomputable def f89 (N : Nat) (x0 : Ylp) (x1 : Yls) (x2 : Ylp) (x3 : Ylc) (x4 : Ylg) (x5 : Yln) : Option (Bool × Yls × Ylp × Ylc × Ylg × Yln) := (andThen (f111 N x0 x1 x2 x3 x4 x5) fun y1 => (some ((decide (y1.1 ≥ (0 : Int))), y1.2.1, y1.2.2.1, y1.2.2.2.1, y1.2.2.2.2.1, y1.2.2.2.2.2)))
noncomputable def f89orc (N : Nat) : List (Nat × Orc) := []
theorem f89eq (N : Nat) (x : f89iv.Y) : codeK Try.prog hint (callsL (f89calls N)) (orcsL (f89orc N)) 9 f89c 1 (f89iv.enc x) (fnKv Try.prog [.tmp 4] f89ov) = f89 N x.1 x.2.1 x.2.2.1 x.2.2.2.1 x.2.2.2.2.1 x.2.2.2.2.2 := by kernel_rfl
theorem f89orcOk (N : Nat) : OrcsOk Try.prog false 9 f89c (orcsL (f89orc N)) := orcsL_nil
noncomputable def f89call (N : Nat) : CallS := callOf 9 f89iv f89ov (fun x => f89 N x.1 x.2.1 x.2.2.1 x.2.2.2.1 x.2.2.2.2.1 x.2.2.2.2.2)
theorem f89ok (N : Nat) : CallOk Try.prog 89 (f89call N) := fn_ok (g := 89) (fn := Try.f89) (body := f89c) (n := 9) (rs := [.tmp 4]) mixed eqOk (f89callsOk N) (by kernel_rfl) (by kernel_rfl) (by kernel_rfl) (by kernel_rfl) (f89orcOk N) (by kernel_rfl) (Vi := f89iv) (Vo := f89ov) (F := fun x => f89 N x.1 x.2.1 x.2.2.1 x.2.2.2.1 x.2.2.2.2.1 x.2.2.2.2.2) (fun x y h => (f89eq N x).trans h)
end Go.Proofs

