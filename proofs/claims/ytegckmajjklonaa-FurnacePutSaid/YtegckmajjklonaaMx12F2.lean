/- The functions that the statement reaches, as plain functions, and that the code computes them. -/
import Derived.Test.YtegckmajjklonaaMx12F1
set_option linter.unusedVariables false
set_option linter.unusedSimpArgs false
namespace Go.Proofs
open Go.Al
/-! 80 smalto/smaltoref02.Meet -/
noncomputable def f80i : Tm := ⟨[0, 1], [], [.agg [.v (.int .i64), .v (.int .i64)], .agg [.v (.int .i64), .v (.int .i64)]]⟩
noncomputable def f80iv : Vw f80i := { Y := Int × Int × Int × Int, fromT := fun t => (t.1.1, t.1.2.1, t.2.1.1, t.2.1.2.1), outT := fun y => ((y.1, y.2.1, ()), (y.2.2.1, y.2.2.2, ()), ()), inv := fun _ => rfl }
noncomputable def f80o : Tm := ⟨[0], [], [.agg [.v (.int .i64), .v (.int .i64)]]⟩
noncomputable def f80ov : Vw f80o := { Y := Int × Int, fromT := fun t => (t.1.1, t.1.2.1), outT := fun y => ((y.1, y.2, ()), ()), inv := fun _ => rfl }
@[reducible] noncomputable def f80c : Code := bodyOf Try.f80
noncomputable def f80calls (N : Nat) : List (Nat × CallS) := []
theorem f80callsOk (N : Nat) : CallsOk Try.prog (callsL (f80calls N)) := callsL_nil
noncomputable def f80 (N : Nat) (x0 : Int) (x1 : Int) (x2 : Int) (x3 : Int) : Option (Int × Int) := (some ((if (x2 > x0) then x2 else x0), (if (x3 < x1) then x3 else x1)))
noncomputable def f80orc (N : Nat) : List (Nat × Orc) := []
theorem f80eq (N : Nat) (x : f80iv.Y) : codeK Try.prog hint (callsL (f80calls N)) (orcsL (f80orc N)) 16 f80c 1 (f80iv.enc x) (fnKv Try.prog [.cell 4 36] f80ov) = f80 N x.1 x.2.1 x.2.2.1 x.2.2.2 := by kernel_rfl
theorem f80orcOk (N : Nat) : OrcsOk Try.prog false 16 f80c (orcsL (f80orc N)) := orcsL_nil
noncomputable def f80call (N : Nat) : CallS := callOf 16 f80iv f80ov (fun x => f80 N x.1 x.2.1 x.2.2.1 x.2.2.2)
theorem f80ok (N : Nat) : CallOk Try.prog 80 (f80call N) := fn_ok (g := 80) (fn := Try.f80) (body := f80c) (n := 16) (rs := [.cell 4 36]) mixed eqOk (f80callsOk N) (by kernel_rfl) (by kernel_rfl) (by kernel_rfl) (by kernel_rfl) (f80orcOk N) (by kernel_rfl) (Vi := f80iv) (Vo := f80ov) (F := fun x => f80 N x.1 x.2.1 x.2.2.1 x.2.2.2) (fun x y h => (f80eq N x).trans h)
end Go.Proofs

namespace Go.Proofs
open Go.Al
/-! 81 smalto/smaltoref02.Narrow -/
noncomputable def f81i : Tm := ⟨[0, 1], [], [.one (.v T1), .one (.v (.list T0))]⟩
noncomputable def f81iv : Vw f81i := { Y := Ylp × Yls, fromT := fun t => (t.1, t.2.1), outT := fun y => (y.1, y.2, ()), inv := fun _ => rfl }
noncomputable def f81o : Tm := ⟨[0, 1], [], [.one (.own 4096 T0), .one (.v .bool)]⟩
noncomputable def f81ov : Vw f81o := { Y := Yls × Bool, fromT := fun t => (t.1, t.2.1), outT := fun y => (y.1, y.2, ()), inv := fun _ => rfl }
@[reducible] noncomputable def f81c : Code := bodyOf Try.f81
noncomputable def f81calls (N : Nat) : List (Nat × CallS) := [(80, f80call N)]
theorem f81callsOk (N : Nat) : CallsOk Try.prog (callsL (f81calls N)) := (callsL_cons (fun _ => Enters.of (fn := Try.f80) (by kernel_rfl) (by kernel_rfl) (by kernel_rfl)) (f80ok N) callsL_nil)
@[reducible] noncomputable def f81l0c : Code := loopOf (codeOf (f81c) 58)
@[reducible] noncomputable def f81l1c : Code := loopOf (codeOf (f81l0c) 106)
noncomputable def f81l1t : Tm := ⟨[0, 6, 7, 8], [], [.one (.v T1), .one (.own 1000000 T0), .one (.v .bool), .one (.v (.int .i64))]⟩
noncomputable def f81l1tv : Vw f81l1t := { Y := Ylp × Yls × Bool × Int, fromT := fun t => (t.1, t.2.1, t.2.2.1, t.2.2.2.1), outT := fun y => (y.1, y.2.1, y.2.2.1, y.2.2.2, ()), inv := fun _ => rfl }
noncomputable def f81l1e0 : Tm := ⟨[4, 5], [], [.one (.own 1000000 T0), .one (.v .bool)]⟩
noncomputable def f81l1e0v : Vw f81l1e0 := { Y := Yls × Bool, fromT := fun t => (t.1, t.2.1), outT := fun y => (y.1, y.2, ()), inv := fun _ => rfl }
noncomputable def f81l1e1 : Tm := ⟨[0, 6, 7], [], [.one (.v T1), .one (.own 1000000 T0), .one (.v .bool)]⟩
noncomputable def f81l1e1v : Vw f81l1e1 := { Y := Ylp × Yls × Bool, fromT := fun t => (t.1, t.2.1, t.2.2.1), outT := fun y => (y.1, y.2.1, y.2.2, ()), inv := fun _ => rfl }
@[reducible] noncomputable def f81l1E : List Ex := [⟨.ret, f81l1e0, f81l1e0v⟩, ⟨(.ext 2), f81l1e1, f81l1e1v⟩]
noncomputable def f81l1B (N : Nat) (go : Ylp → Yls → Bool → Int → Option (((Yls × Bool) ⊕ Ylp × Yls × Bool))) (x0 : Ylp) (x1 : Yls) (x2 : Bool) (x3 : Int) : Option (((Yls × Bool) ⊕ Ylp × Yls × Bool)) := (if (decide (x3 < ((List.length x1 : Nat) : Int))) = true then (if ((decide ((0 : Int) ≤ x3)) && (decide (x3 < ((List.length x1 : Nat) : Int)))) = true then (if ((decide ((0 : Int) ≤ x3)) && (decide (x3 < ((List.length x1 : Nat) : Int)))) = true then (if (decide ((List.getD x1 (Int.toNat x3) ((0 : Int), (0 : Int))).1 > (List.getD x1 (Int.toNat x3) ((0 : Int), (0 : Int))).2)) = true then (some (Sum.inl (x1, false))) else (go x0 x1 x2 (Go.IntKind.wrap .i64 (x3 + (1 : Int))))) else none) else none) else (some (Sum.inr (x0, x1, x2))))
noncomputable def f81l1 (N : Nat) : Nat → Ylp → Yls → Bool → Int → Option (((Yls × Bool) ⊕ Ylp × Yls × Bool)) | 0 => fun _ _ _ _ => none | q + 1 => f81l1B N (f81l1 N q)
noncomputable def f81l1o (N : Nat) : List (Nat × Orc) := []
theorem f81l1eq (N : Nat) (go : Ylp → Yls → Bool → Int → Option (((Yls × Bool) ⊕ Ylp × Yls × Bool))) (x : f81l1tv.Y) : codeK Try.prog hint (callsL (f81calls N)) (orcsL (f81l1o N)) 109 f81l1c 1 (f81l1tv.enc x) (loopK f81l1tv f81l1E (fun x => go x.1 x.2.1 x.2.2.1 x.2.2.2)) = f81l1B N go x.1 x.2.1 x.2.2.1 x.2.2.2 := by kernel_rfl
theorem f81l1oOk (N : Nat) : OrcsOk Try.prog false 109 f81l1c (orcsL (f81l1o N)) := orcsL_nil
theorem f81l1ok (N : Nat) (M : Nat) : OrcOk Try.prog false 109 (.loop f81l1c) (cutOrc f81l1tv f81l1E (fun x => f81l1 N M x.1 x.2.1 x.2.2.1 x.2.2.2)) := loop_ok mixed eqOk (f81callsOk N) (f81l1oOk N) (fun _ => rfl) (fun q x o h => (f81l1eq N (f81l1 N q) x).trans h) M
@[reducible] noncomputable def f81l2c : Code := loopOf (codeOf (f81l0c) 110)
noncomputable def f81l2t : Tm := ⟨[0, 6, 7, 9], [], [.one (.v T1), .one (.own 1000000 T0), .one (.v .bool), .one (.v (.int .i64))]⟩
noncomputable def f81l2tv : Vw f81l2t := { Y := Ylp × Yls × Bool × Int, fromT := fun t => (t.1, t.2.1, t.2.2.1, t.2.2.2.1), outT := fun y => (y.1, y.2.1, y.2.2.1, y.2.2.2, ()), inv := fun _ => rfl }
noncomputable def f81l2e0 : Tm := ⟨[0, 6, 7], [], [.one (.v T1), .one (.own 1000000 T0), .one (.v .bool)]⟩
noncomputable def f81l2e0v : Vw f81l2e0 := { Y := Ylp × Yls × Bool, fromT := fun t => (t.1, t.2.1, t.2.2.1), outT := fun y => (y.1, y.2.1, y.2.2, ()), inv := fun _ => rfl }
@[reducible] noncomputable def f81l2E : List Ex := [⟨(.ext 4), f81l2e0, f81l2e0v⟩]
noncomputable def f81l2B (N : Nat) (go : Ylp → Yls → Bool → Int → Option (Ylp × Yls × Bool)) (x0 : Ylp) (x1 : Yls) (x2 : Bool) (x3 : Int) : Option (Ylp × Yls × Bool) := (if (decide (x3 < ((List.length x0 : Nat) : Int))) = true then (if ((decide ((0 : Int) ≤ x3)) && (decide (x3 < ((List.length x0 : Nat) : Int)))) = true then (if ((decide ((0 : Int) ≤ (List.getD x0 (Int.toNat x3) ((0 : Int), ((0 : Int), (0 : Int)))).1)) && (decide ((List.getD x0 (Int.toNat x3) ((0 : Int), ((0 : Int), (0 : Int)))).1 < ((List.length x1 : Nat) : Int)))) = true then (if ((decide ((0 : Int) ≤ (List.getD x0 (Int.toNat x3) ((0 : Int), ((0 : Int), (0 : Int)))).2.1)) && (decide ((List.getD x0 (Int.toNat x3) ((0 : Int), ((0 : Int), (0 : Int)))).2.1 < ((List.length x1 : Nat) : Int)))) = true then (andThen (f80 N (List.getD x1 (Int.toNat (List.getD x0 (Int.toNat x3) ((0 : Int), ((0 : Int), (0 : Int)))).1) ((0 : Int), (0 : Int))).1 (List.getD x1 (Int.toNat (List.getD x0 (Int.toNat x3) ((0 : Int), ((0 : Int), (0 : Int)))).1) ((0 : Int), (0 : Int))).2 (Go.IntKind.wrap .i64 ((List.getD x1 (Int.toNat (List.getD x0 (Int.toNat x3) ((0 : Int), ((0 : Int), (0 : Int)))).2.1) ((0 : Int), (0 : Int))).1 - (List.getD x0 (Int.toNat x3) ((0 : Int), ((0 : Int), (0 : Int)))).2.2)) (Go.IntKind.wrap .i64 ((List.getD x1 (Int.toNat (List.getD x0 (Int.toNat x3) ((0 : Int), ((0 : Int), (0 : Int)))).2.1) ((0 : Int), (0 : Int))).2 + (List.getD x0 (Int.toNat x3) ((0 : Int), ((0 : Int), (0 : Int)))).2.2))) fun y4 => (if ((decide ((0 : Int) ≤ (List.getD x0 (Int.toNat x3) ((0 : Int), ((0 : Int), (0 : Int)))).1)) && (decide ((List.getD x0 (Int.toNat x3) ((0 : Int), ((0 : Int), (0 : Int)))).1 < ((List.length x1 : Nat) : Int)))) = true then (andThen (f80 N (List.getD x1 (Int.toNat (List.getD x0 (Int.toNat x3) ((0 : Int), ((0 : Int), (0 : Int)))).2.1) ((0 : Int), (0 : Int))).1 (List.getD x1 (Int.toNat (List.getD x0 (Int.toNat x3) ((0 : Int), ((0 : Int), (0 : Int)))).2.1) ((0 : Int), (0 : Int))).2 (Go.IntKind.wrap .i64 ((List.getD x1 (Int.toNat (List.getD x0 (Int.toNat x3) ((0 : Int), ((0 : Int), (0 : Int)))).1) ((0 : Int), (0 : Int))).1 - (List.getD x0 (Int.toNat x3) ((0 : Int), ((0 : Int), (0 : Int)))).2.2)) (Go.IntKind.wrap .i64 ((List.getD x1 (Int.toNat (List.getD x0 (Int.toNat x3) ((0 : Int), ((0 : Int), (0 : Int)))).1) ((0 : Int), (0 : Int))).2 + (List.getD x0 (Int.toNat x3) ((0 : Int), ((0 : Int), (0 : Int)))).2.2))) fun y5 => (if ((decide ((0 : Int) ≤ (List.getD x0 (Int.toNat x3) ((0 : Int), ((0 : Int), (0 : Int)))).2.1)) && (decide ((List.getD x0 (Int.toNat x3) ((0 : Int), ((0 : Int), (0 : Int)))).2.1 < ((List.length (List.set x1 (Int.toNat (List.getD x0 (Int.toNat x3) ((0 : Int), ((0 : Int), (0 : Int)))).1) (y4.1, y4.2)) : Nat) : Int)))) = true then (if x2 = false then (if ((decide ((0 : Int) ≤ (List.getD x0 (Int.toNat x3) ((0 : Int), ((0 : Int), (0 : Int)))).1)) && (decide ((List.getD x0 (Int.toNat x3) ((0 : Int), ((0 : Int), (0 : Int)))).1 < ((List.length (List.set (List.set x1 (Int.toNat (List.getD x0 (Int.toNat x3) ((0 : Int), ((0 : Int), (0 : Int)))).1) (y4.1, y4.2)) (Int.toNat (List.getD x0 (Int.toNat x3) ((0 : Int), ((0 : Int), (0 : Int)))).2.1) (y5.1, y5.2)) : Nat) : Int)))) = true then (if (!(((List.getD (List.set (List.set x1 (Int.toNat (List.getD x0 (Int.toNat x3) ((0 : Int), ((0 : Int), (0 : Int)))).1) (y4.1, y4.2)) (Int.toNat (List.getD x0 (Int.toNat x3) ((0 : Int), ((0 : Int), (0 : Int)))).2.1) (y5.1, y5.2)) (Int.toNat (List.getD x0 (Int.toNat x3) ((0 : Int), ((0 : Int), (0 : Int)))).1) ((0 : Int), (0 : Int))).1 == (List.getD x1 (Int.toNat (List.getD x0 (Int.toNat x3) ((0 : Int), ((0 : Int), (0 : Int)))).1) ((0 : Int), (0 : Int))).1) && (((List.getD (List.set (List.set x1 (Int.toNat (List.getD x0 (Int.toNat x3) ((0 : Int), ((0 : Int), (0 : Int)))).1) (y4.1, y4.2)) (Int.toNat (List.getD x0 (Int.toNat x3) ((0 : Int), ((0 : Int), (0 : Int)))).2.1) (y5.1, y5.2)) (Int.toNat (List.getD x0 (Int.toNat x3) ((0 : Int), ((0 : Int), (0 : Int)))).1) ((0 : Int), (0 : Int))).2 == (List.getD x1 (Int.toNat (List.getD x0 (Int.toNat x3) ((0 : Int), ((0 : Int), (0 : Int)))).1) ((0 : Int), (0 : Int))).2) && true))) = false then (if ((decide ((0 : Int) ≤ (List.getD x0 (Int.toNat x3) ((0 : Int), ((0 : Int), (0 : Int)))).2.1)) && (decide ((List.getD x0 (Int.toNat x3) ((0 : Int), ((0 : Int), (0 : Int)))).2.1 < ((List.length (List.set (List.set x1 (Int.toNat (List.getD x0 (Int.toNat x3) ((0 : Int), ((0 : Int), (0 : Int)))).1) (y4.1, y4.2)) (Int.toNat (List.getD x0 (Int.toNat x3) ((0 : Int), ((0 : Int), (0 : Int)))).2.1) (y5.1, y5.2)) : Nat) : Int)))) = true then (go x0 (List.set (List.set x1 (Int.toNat (List.getD x0 (Int.toNat x3) ((0 : Int), ((0 : Int), (0 : Int)))).1) (y4.1, y4.2)) (Int.toNat (List.getD x0 (Int.toNat x3) ((0 : Int), ((0 : Int), (0 : Int)))).2.1) (y5.1, y5.2)) (!(((List.getD (List.set (List.set x1 (Int.toNat (List.getD x0 (Int.toNat x3) ((0 : Int), ((0 : Int), (0 : Int)))).1) (y4.1, y4.2)) (Int.toNat (List.getD x0 (Int.toNat x3) ((0 : Int), ((0 : Int), (0 : Int)))).2.1) (y5.1, y5.2)) (Int.toNat (List.getD x0 (Int.toNat x3) ((0 : Int), ((0 : Int), (0 : Int)))).2.1) ((0 : Int), (0 : Int))).1 == (List.getD x1 (Int.toNat (List.getD x0 (Int.toNat x3) ((0 : Int), ((0 : Int), (0 : Int)))).2.1) ((0 : Int), (0 : Int))).1) && (((List.getD (List.set (List.set x1 (Int.toNat (List.getD x0 (Int.toNat x3) ((0 : Int), ((0 : Int), (0 : Int)))).1) (y4.1, y4.2)) (Int.toNat (List.getD x0 (Int.toNat x3) ((0 : Int), ((0 : Int), (0 : Int)))).2.1) (y5.1, y5.2)) (Int.toNat (List.getD x0 (Int.toNat x3) ((0 : Int), ((0 : Int), (0 : Int)))).2.1) ((0 : Int), (0 : Int))).2 == (List.getD x1 (Int.toNat (List.getD x0 (Int.toNat x3) ((0 : Int), ((0 : Int), (0 : Int)))).2.1) ((0 : Int), (0 : Int))).2) && true))) (Go.IntKind.wrap .i64 (x3 + (1 : Int)))) else none) else (go x0 (List.set (List.set x1 (Int.toNat (List.getD x0 (Int.toNat x3) ((0 : Int), ((0 : Int), (0 : Int)))).1) (y4.1, y4.2)) (Int.toNat (List.getD x0 (Int.toNat x3) ((0 : Int), ((0 : Int), (0 : Int)))).2.1) (y5.1, y5.2)) true (Go.IntKind.wrap .i64 (x3 + (1 : Int))))) else none) else (go x0 (List.set (List.set x1 (Int.toNat (List.getD x0 (Int.toNat x3) ((0 : Int), ((0 : Int), (0 : Int)))).1) (y4.1, y4.2)) (Int.toNat (List.getD x0 (Int.toNat x3) ((0 : Int), ((0 : Int), (0 : Int)))).2.1) (y5.1, y5.2)) true (Go.IntKind.wrap .i64 (x3 + (1 : Int))))) else none)) else none)) else none) else none) else none) else (some (x0, x1, x2)))
noncomputable def f81l2 (N : Nat) : Nat → Ylp → Yls → Bool → Int → Option (Ylp × Yls × Bool) | 0 => fun _ _ _ _ => none | q + 1 => f81l2B N (f81l2 N q)
noncomputable def f81l2o (N : Nat) : List (Nat × Orc) := []
theorem f81l2eq (N : Nat) (go : Ylp → Yls → Bool → Int → Option (Ylp × Yls × Bool)) (x : f81l2tv.Y) : codeK Try.prog hint (callsL (f81calls N)) (orcsL (f81l2o N)) 109 f81l2c 1 (f81l2tv.enc x) (loopK f81l2tv f81l2E (fun x => go x.1 x.2.1 x.2.2.1 x.2.2.2)) = f81l2B N go x.1 x.2.1 x.2.2.1 x.2.2.2 := by kernel_rfl
theorem f81l2oOk (N : Nat) : OrcsOk Try.prog false 109 f81l2c (orcsL (f81l2o N)) := orcsL_nil
theorem f81l2ok (N : Nat) (M : Nat) : OrcOk Try.prog false 109 (.loop f81l2c) (cutOrc f81l2tv f81l2E (fun x => f81l2 N M x.1 x.2.1 x.2.2.1 x.2.2.2)) := loop_ok mixed eqOk (f81callsOk N) (f81l2oOk N) (fun _ => rfl) (fun q x o h => (f81l2eq N (f81l2 N q) x).trans h) M
noncomputable def f81l0t : Tm := ⟨[0, 6, 7], [], [.one (.v T1), .one (.own 1000000 T0), .one (.v .bool)]⟩
noncomputable def f81l0tv : Vw f81l0t := { Y := Ylp × Yls × Bool, fromT := fun t => (t.1, t.2.1, t.2.2.1), outT := fun y => (y.1, y.2.1, y.2.2, ()), inv := fun _ => rfl }
noncomputable def f81l0e0 : Tm := ⟨[4, 5], [], [.one (.own 1000000 T0), .one (.v .bool)]⟩
noncomputable def f81l0e0v : Vw f81l0e0 := { Y := Yls × Bool, fromT := fun t => (t.1, t.2.1), outT := fun y => (y.1, y.2, ()), inv := fun _ => rfl }
noncomputable def f81l0e1 : Tm := ⟨[6], [], [.one (.own 1000000 T0)]⟩
noncomputable def f81l0e1v : Vw f81l0e1 := { Y := Yls, fromT := fun t => t.1, outT := fun y => (y, ()), inv := fun _ => rfl }
@[reducible] noncomputable def f81l0E : List Ex := [⟨.ret, f81l0e0, f81l0e0v⟩, ⟨(.ext 0), f81l0e1, f81l0e1v⟩]
noncomputable def f81l0B (N : Nat) (go : Ylp → Yls → Bool → Option (((Yls × Bool) ⊕ Yls))) (x0 : Ylp) (x1 : Yls) (x2 : Bool) : Option (((Yls × Bool) ⊕ Yls)) := (if x2 = true then (andThen (f81l1 N N x0 x1 false (0 : Int)) fun y1 => (either y1 (fun a2 => (some (Sum.inl (a2.1, a2.2)))) (fun b3 => (andThen (f81l2 N N b3.1 b3.2.1 b3.2.2 (0 : Int)) fun y6 => (go y6.1 y6.2.1 y6.2.2))))) else (some (Sum.inr x1)))
noncomputable def f81l0 (N : Nat) : Nat → Ylp → Yls → Bool → Option (((Yls × Bool) ⊕ Yls)) | 0 => fun _ _ _ => none | q + 1 => f81l0B N (f81l0 N q)
noncomputable def f81l0o (N : Nat) : List (Nat × Orc) := [(106, cutOrc f81l1tv f81l1E (fun x => f81l1 N N x.1 x.2.1 x.2.2.1 x.2.2.2)), (110, cutOrc f81l2tv f81l2E (fun x => f81l2 N N x.1 x.2.1 x.2.2.1 x.2.2.2))]
theorem f81l0eq (N : Nat) (go : Ylp → Yls → Bool → Option (((Yls × Bool) ⊕ Yls))) (x : f81l0tv.Y) : codeK Try.prog hint (callsL (f81calls N)) (orcsL (f81l0o N)) 109 f81l0c 1 (f81l0tv.enc x) (loopK f81l0tv f81l0E (fun x => go x.1 x.2.1 x.2.2)) = f81l0B N go x.1 x.2.1 x.2.2 := by kernel_rfl
theorem f81l0oOk (N : Nat) : OrcsOk Try.prog false 109 f81l0c (orcsL (f81l0o N)) := (orcsL_cons (c := .loop f81l1c) (by kernel_rfl) (f81l1ok N N) (orcsL_cons (c := .loop f81l2c) (by kernel_rfl) (f81l2ok N N) orcsL_nil))
theorem f81l0ok (N : Nat) (M : Nat) : OrcOk Try.prog false 109 (.loop f81l0c) (cutOrc f81l0tv f81l0E (fun x => f81l0 N M x.1 x.2.1 x.2.2)) := loop_ok mixed eqOk (f81callsOk N) (f81l0oOk N) (fun _ => rfl) (fun q x o h => (f81l0eq N (f81l0 N q) x).trans h) M
noncomputable def f81 (N : Nat) (x0 : Ylp) (x1 : Yls) : Option (Yls × Bool) := (if (Nat.ble ((List.length ([] : List (Int × Int))) + (List.length x1)) Go.Al.boundLen) = true then (andThen (f81l0 N N x0 (([] : List (Int × Int)) ++ x1) true) fun y7 => (either y7 (fun a8 => (some (a8.1, a8.2))) (fun b9 => (some (b9, true))))) else none)
noncomputable def f81orc (N : Nat) : List (Nat × Orc) := [(58, cutOrc f81l0tv f81l0E (fun x => f81l0 N N x.1 x.2.1 x.2.2))]
theorem f81eq (N : Nat) (x : f81iv.Y) : codeK Try.prog hint (callsL (f81calls N)) (orcsL (f81orc N)) 109 f81c 1 (f81iv.enc x) (fnKv Try.prog [.tmp 4, .tmp 5] f81ov) = f81 N x.1 x.2 := by kernel_rfl
theorem f81orcOk (N : Nat) : OrcsOk Try.prog false 109 f81c (orcsL (f81orc N)) := (orcsL_cons (c := .loop f81l0c) (by kernel_rfl) (f81l0ok N N) orcsL_nil)
noncomputable def f81call (N : Nat) : CallS := callOf 109 f81iv f81ov (fun x => f81 N x.1 x.2)
theorem f81ok (N : Nat) : CallOk Try.prog 81 (f81call N) := fn_ok (g := 81) (fn := Try.f81) (body := f81c) (n := 109) (rs := [.tmp 4, .tmp 5]) mixed eqOk (f81callsOk N) (by kernel_rfl) (by kernel_rfl) (by kernel_rfl) (by kernel_rfl) (f81orcOk N) (by kernel_rfl) (Vi := f81iv) (Vo := f81ov) (F := fun x => f81 N x.1 x.2) (fun x y h => (f81eq N x).trans h)
end Go.Proofs

namespace Go.Proofs
open Go.Al
/-! 110 smalto/smaltoref02.Has -/
noncomputable def f110i : Tm := ⟨[0, 1], [], [.one (.v (.list (.int .i64))), .one (.v (.int .i64))]⟩
noncomputable def f110iv : Vw f110i := { Y := (List Int) × Int, fromT := fun t => (t.1, t.2.1), outT := fun y => (y.1, y.2, ()), inv := fun _ => rfl }
noncomputable def f110o : Tm := ⟨[0], [], [.one (.v .bool)]⟩
noncomputable def f110ov : Vw f110o := { Y := Bool, fromT := fun t => t.1, outT := fun y => (y, ()), inv := fun _ => rfl }
@[reducible] noncomputable def f110c : Code := bodyOf Try.f110
noncomputable def f110calls (N : Nat) : List (Nat × CallS) := []
theorem f110callsOk (N : Nat) : CallsOk Try.prog (callsL (f110calls N)) := callsL_nil
@[reducible] noncomputable def f110l0c : Code := loopOf (codeOf (f110c) 26)
noncomputable def f110l0t : Tm := ⟨[0, 1, 5], [], [.one (.v (.list (.int .i64))), .one (.v (.int .i64)), .one (.v (.int .i64))]⟩
noncomputable def f110l0tv : Vw f110l0t := { Y := (List Int) × Int × Int, fromT := fun t => (t.1, t.2.1, t.2.2.1), outT := fun y => (y.1, y.2.1, y.2.2, ()), inv := fun _ => rfl }
noncomputable def f110l0e0 : Tm := ⟨[4], [], [.one (.v .bool)]⟩
noncomputable def f110l0e0v : Vw f110l0e0 := { Y := Bool, fromT := fun t => t.1, outT := fun y => (y, ()), inv := fun _ => rfl }
noncomputable def f110l0e1 : Tm := ⟨[], [], []⟩
noncomputable def f110l0e1v : Vw f110l0e1 := { Y := Unit, fromT := fun _ => (), outT := fun _ => (), inv := fun _ => rfl }
@[reducible] noncomputable def f110l0E : List Ex := [⟨.ret, f110l0e0, f110l0e0v⟩, ⟨(.ext 0), f110l0e1, f110l0e1v⟩]
noncomputable def f110l0B (N : Nat) (go : (List Int) → Int → Int → Option (((Bool) ⊕ Unit))) (x0 : (List Int)) (x1 : Int) (x2 : Int) : Option (((Bool) ⊕ Unit)) := (if (decide (x2 < ((List.length x0 : Nat) : Int))) = true then (if ((decide ((0 : Int) ≤ x2)) && (decide (x2 < ((List.length x0 : Nat) : Int)))) = true then (if ((List.getD x0 (Int.toNat x2) (0 : Int)) == x1) = true then (some (Sum.inl true)) else (go x0 x1 (Go.IntKind.wrap .i64 (x2 + (1 : Int))))) else none) else (some (Sum.inr ())))
noncomputable def f110l0 (N : Nat) : Nat → (List Int) → Int → Int → Option (((Bool) ⊕ Unit)) | 0 => fun _ _ _ => none | q + 1 => f110l0B N (f110l0 N q)
noncomputable def f110l0o (N : Nat) : List (Nat × Orc) := []
theorem f110l0eq (N : Nat) (go : (List Int) → Int → Int → Option (((Bool) ⊕ Unit))) (x : f110l0tv.Y) : codeK Try.prog hint (callsL (f110calls N)) (orcsL (f110l0o N)) 18 f110l0c 1 (f110l0tv.enc x) (loopK f110l0tv f110l0E (fun x => go x.1 x.2.1 x.2.2)) = f110l0B N go x.1 x.2.1 x.2.2 := by kernel_rfl
theorem f110l0oOk (N : Nat) : OrcsOk Try.prog false 18 f110l0c (orcsL (f110l0o N)) := orcsL_nil
theorem f110l0ok (N : Nat) (M : Nat) : OrcOk Try.prog false 18 (.loop f110l0c) (cutOrc f110l0tv f110l0E (fun x => f110l0 N M x.1 x.2.1 x.2.2)) := loop_ok mixed eqOk (f110callsOk N) (f110l0oOk N) (fun _ => rfl) (fun q x o h => (f110l0eq N (f110l0 N q) x).trans h) M
noncomputable def f110 (N : Nat) (x0 : (List Int)) (x1 : Int) : Option (Bool) := (andThen (f110l0 N N x0 x1 (0 : Int)) fun y1 => (either y1 (fun a2 => (some a2)) (fun b3 => (some false))))
noncomputable def f110orc (N : Nat) : List (Nat × Orc) := [(26, cutOrc f110l0tv f110l0E (fun x => f110l0 N N x.1 x.2.1 x.2.2))]
theorem f110eq (N : Nat) (x : f110iv.Y) : codeK Try.prog hint (callsL (f110calls N)) (orcsL (f110orc N)) 18 f110c 1 (f110iv.enc x) (fnKv Try.prog [.tmp 4] f110ov) = f110 N x.1 x.2 := by kernel_rfl
theorem f110orcOk (N : Nat) : OrcsOk Try.prog false 18 f110c (orcsL (f110orc N)) := (orcsL_cons (c := .loop f110l0c) (by kernel_rfl) (f110l0ok N N) orcsL_nil)
noncomputable def f110call (N : Nat) : CallS := callOf 18 f110iv f110ov (fun x => f110 N x.1 x.2)
theorem f110ok (N : Nat) : CallOk Try.prog 110 (f110call N) := fn_ok (g := 110) (fn := Try.f110) (body := f110c) (n := 18) (rs := [.tmp 4]) mixed eqOk (f110callsOk N) (by kernel_rfl) (by kernel_rfl) (by kernel_rfl) (by kernel_rfl) (f110orcOk N) (by kernel_rfl) (Vi := f110iv) (Vo := f110ov) (F := fun x => f110 N x.1 x.2) (fun x y h => (f110eq N x).trans h)
end Go.Proofs

namespace Go.Proofs
open Go.Al
/-! 116 smalto/smaltoref02.OfCone -/
noncomputable def f116i : Tm := ⟨[0], [], [.agg [.v (.int .i64), .v (.int .i64), .v .bool]]⟩
noncomputable def f116iv : Vw f116i := { Y := Int × Int × Bool, fromT := fun t => (t.1.1, t.1.2.1, t.1.2.2.1), outT := fun y => ((y.1, y.2.1, y.2.2, ()), ()), inv := fun _ => rfl }
noncomputable def f116o : Tm := ⟨[0], [], [.agg [.v (.int .i64), .v (.int .i64)]]⟩
noncomputable def f116ov : Vw f116o := { Y := Int × Int, fromT := fun t => (t.1.1, t.1.2.1), outT := fun y => ((y.1, y.2, ()), ()), inv := fun _ => rfl }
@[reducible] noncomputable def f116c : Code := bodyOf Try.f116
noncomputable def f116calls (N : Nat) : List (Nat × CallS) := []
theorem f116callsOk (N : Nat) : CallsOk Try.prog (callsL (f116calls N)) := callsL_nil
noncomputable def f116 (N : Nat) (x0 : Int) (x1 : Int) (x2 : Bool) : Option (Int × Int) := (if x2 = true then (some (x1, (1000 : Int))) else (some ((0 : Int), (Go.IntKind.wrap .i64 (x1 - (1 : Int))))))
noncomputable def f116orc (N : Nat) : List (Nat × Orc) := []
theorem f116eq (N : Nat) (x : f116iv.Y) : codeK Try.prog hint (callsL (f116calls N)) (orcsL (f116orc N)) 12 f116c 1 (f116iv.enc x) (fnKv Try.prog [.cell 2 36] f116ov) = f116 N x.1 x.2.1 x.2.2 := by kernel_rfl
theorem f116orcOk (N : Nat) : OrcsOk Try.prog false 12 f116c (orcsL (f116orc N)) := orcsL_nil
noncomputable def f116call (N : Nat) : CallS := callOf 12 f116iv f116ov (fun x => f116 N x.1 x.2.1 x.2.2)
theorem f116ok (N : Nat) : CallOk Try.prog 116 (f116call N) := fn_ok (g := 116) (fn := Try.f116) (body := f116c) (n := 12) (rs := [.cell 2 36]) mixed eqOk (f116callsOk N) (by kernel_rfl) (by kernel_rfl) (by kernel_rfl) (by kernel_rfl) (f116orcOk N) (by kernel_rfl) (Vi := f116iv) (Vo := f116ov) (F := fun x => f116 N x.1 x.2.1 x.2.2) (fun x y h => (f116eq N x).trans h)
end Go.Proofs

namespace Go.Proofs
open Go.Al
/-! 117 smalto/smaltoref02.OfSign -/
noncomputable def f117i : Tm := ⟨[0], [], [.agg [.v (.int .i64), .v (.int .i64), .v (.int .i64), .v (.int .i64)]]⟩
noncomputable def f117iv : Vw f117i := { Y := Int × Int × Int × Int, fromT := fun t => (t.1.1, t.1.2.1, t.1.2.2.1, t.1.2.2.2.1), outT := fun y => ((y.1, y.2.1, y.2.2.1, y.2.2.2, ()), ()), inv := fun _ => rfl }
noncomputable def f117o : Tm := ⟨[0], [], [.agg [.v (.int .i64), .v (.int .i64)]]⟩
noncomputable def f117ov : Vw f117o := { Y := Int × Int, fromT := fun t => (t.1.1, t.1.2.1), outT := fun y => ((y.1, y.2, ()), ()), inv := fun _ => rfl }
@[reducible] noncomputable def f117c : Code := bodyOf Try.f117
noncomputable def f117calls (N : Nat) : List (Nat × CallS) := []
theorem f117callsOk (N : Nat) : CallsOk Try.prog (callsL (f117calls N)) := callsL_nil
noncomputable def f117 (N : Nat) (x0 : Int) (x1 : Int) (x2 : Int) (x3 : Int) : Option (Int × Int) := (if (x3 == (1 : Int)) = true then (some ((0 : Int), (Go.IntKind.wrap .i64 (x1 - (1 : Int))))) else (if (x3 == (2 : Int)) = true then (some (x1, (Go.IntKind.wrap .i64 (x2 - (1 : Int))))) else (some (x2, (1000 : Int)))))
noncomputable def f117orc (N : Nat) : List (Nat × Orc) := []
theorem f117eq (N : Nat) (x : f117iv.Y) : codeK Try.prog hint (callsL (f117calls N)) (orcsL (f117orc N)) 26 f117c 1 (f117iv.enc x) (fnKv Try.prog [.cell 2 36] f117ov) = f117 N x.1 x.2.1 x.2.2.1 x.2.2.2 := by kernel_rfl
theorem f117orcOk (N : Nat) : OrcsOk Try.prog false 26 f117c (orcsL (f117orc N)) := orcsL_nil
noncomputable def f117call (N : Nat) : CallS := callOf 26 f117iv f117ov (fun x => f117 N x.1 x.2.1 x.2.2.1 x.2.2.2)
theorem f117ok (N : Nat) : CallOk Try.prog 117 (f117call N) := fn_ok (g := 117) (fn := Try.f117) (body := f117c) (n := 26) (rs := [.cell 2 36]) mixed eqOk (f117callsOk N) (by kernel_rfl) (by kernel_rfl) (by kernel_rfl) (by kernel_rfl) (f117orcOk N) (by kernel_rfl) (Vi := f117iv) (Vo := f117ov) (F := fun x => f117 N x.1 x.2.1 x.2.2.1 x.2.2.2) (fun x y h => (f117eq N x).trans h)
end Go.Proofs

namespace Go.Proofs
open Go.Al
/-! 96 smalto/smaltoref02.Spans -/
noncomputable def f96i : Tm := ⟨[0, 1], [], [.agg [.v (.list T0), .v T1, .v T3, .v (.list T4)], .one (.v (.list (.int .i64)))]⟩
noncomputable def f96iv : Vw f96i := { Y := Yls × Ylp × Ylc × Ylg × (List Int), fromT := fun t => (t.1.1, t.1.2.1, t.1.2.2.1, t.1.2.2.2.1, t.2.1), outT := fun y => ((y.1, y.2.1, y.2.2.1, y.2.2.2.1, ()), y.2.2.2.2, ()), inv := fun _ => rfl }
noncomputable def f96o : Tm := ⟨[0], [], [.one (.own 4096 T0)]⟩
noncomputable def f96ov : Vw f96o := { Y := Yls, fromT := fun t => t.1, outT := fun y => (y, ()), inv := fun _ => rfl }
@[reducible] noncomputable def f96c : Code := bodyOf Try.f96
noncomputable def f96calls (N : Nat) : List (Nat × CallS) := [(110, f110call N), (116, f116call N), (80, f80call N), (117, f117call N)]
theorem f96callsOk (N : Nat) : CallsOk Try.prog (callsL (f96calls N)) := (callsL_cons (fun _ => Enters.of (fn := Try.f110) (by kernel_rfl) (by kernel_rfl) (by kernel_rfl)) (f110ok N) (callsL_cons (fun _ => Enters.of (fn := Try.f116) (by kernel_rfl) (by kernel_rfl) (by kernel_rfl)) (f116ok N) (callsL_cons (fun _ => Enters.of (fn := Try.f80) (by kernel_rfl) (by kernel_rfl) (by kernel_rfl)) (f80ok N) (callsL_cons (fun _ => Enters.of (fn := Try.f117) (by kernel_rfl) (by kernel_rfl) (by kernel_rfl)) (f117ok N) callsL_nil))))
@[reducible] noncomputable def f96l0c : Code := loopOf (codeOf (f96c) 58)
noncomputable def f96l0t : Tm := ⟨[1, 2, 5, 6], [(.box 2)], [.one (.v (.list (.int .i64))), .one (.ptr (.box 2) 0 4), .one (.own 1000000 T0), .one (.v (.int .i64)), .agg [.v (.list T0), .v T1, .v T3, .v (.list T4)]]⟩
noncomputable def f96l0tv : Vw f96l0t := { Y := (List Int) × Yls × Int × Yls × Ylp × Ylc × Ylg, fromT := fun t => (t.1, t.2.2.1, t.2.2.2.1, t.2.2.2.2.1.1, t.2.2.2.2.1.2.1, t.2.2.2.2.1.2.2.1, t.2.2.2.2.1.2.2.2.1), outT := fun y => (y.1, (), y.2.1, y.2.2.1, (y.2.2.2.1, y.2.2.2.2.1, y.2.2.2.2.2.1, y.2.2.2.2.2.2, ()), ()), inv := fun _ => rfl }
noncomputable def f96l0e0 : Tm := ⟨[1, 2, 5], [(.box 2)], [.one (.v (.list (.int .i64))), .one (.ptr (.box 2) 0 4), .one (.own 1000000 T0), .agg [.v (.list T0), .v T1, .v T3, .v (.list T4)]]⟩
noncomputable def f96l0e0v : Vw f96l0e0 := { Y := (List Int) × Yls × Yls × Ylp × Ylc × Ylg, fromT := fun t => (t.1, t.2.2.1, t.2.2.2.1.1, t.2.2.2.1.2.1, t.2.2.2.1.2.2.1, t.2.2.2.1.2.2.2.1), outT := fun y => (y.1, (), y.2.1, (y.2.2.1, y.2.2.2.1, y.2.2.2.2.1, y.2.2.2.2.2, ()), ()), inv := fun _ => rfl }
@[reducible] noncomputable def f96l0E : List Ex := [⟨(.ext 0), f96l0e0, f96l0e0v⟩]
noncomputable def f96l0B (N : Nat) (go : (List Int) → Yls → Int → Yls → Ylp → Ylc → Ylg → Option ((List Int) × Yls × Yls × Ylp × Ylc × Ylg)) (x0 : (List Int)) (x1 : Yls) (x2 : Int) (x3 : Yls) (x4 : Ylp) (x5 : Ylc) (x6 : Ylg) : Option ((List Int) × Yls × Yls × Ylp × Ylc × Ylg) := (if (decide (x2 < ((List.length x5 : Nat) : Int))) = true then (andThen (f110 N x0 x2) fun y1 => (if (!y1) = true then (if ((decide ((0 : Int) ≤ x2)) && (decide (x2 < ((List.length x5 : Nat) : Int)))) = true then (if ((decide ((0 : Int) ≤ (List.getD x5 (Int.toNat x2) ((0 : Int), ((0 : Int), false))).1)) && (decide ((List.getD x5 (Int.toNat x2) ((0 : Int), ((0 : Int), false))).1 < ((List.length x1 : Nat) : Int)))) = true then (if ((decide ((0 : Int) ≤ x2)) && (decide (x2 < ((List.length x5 : Nat) : Int)))) = true then (andThen (f116 N (List.getD x5 (Int.toNat x2) ((0 : Int), ((0 : Int), false))).1 (List.getD x5 (Int.toNat x2) ((0 : Int), ((0 : Int), false))).2.1 (List.getD x5 (Int.toNat x2) ((0 : Int), ((0 : Int), false))).2.2) fun y2 => (andThen (f80 N (List.getD x1 (Int.toNat (List.getD x5 (Int.toNat x2) ((0 : Int), ((0 : Int), false))).1) ((0 : Int), (0 : Int))).1 (List.getD x1 (Int.toNat (List.getD x5 (Int.toNat x2) ((0 : Int), ((0 : Int), false))).1) ((0 : Int), (0 : Int))).2 y2.1 y2.2) fun y3 => (if ((decide ((0 : Int) ≤ (List.getD x5 (Int.toNat x2) ((0 : Int), ((0 : Int), false))).1)) && (decide ((List.getD x5 (Int.toNat x2) ((0 : Int), ((0 : Int), false))).1 < ((List.length x1 : Nat) : Int)))) = true then (go x0 (List.set x1 (Int.toNat (List.getD x5 (Int.toNat x2) ((0 : Int), ((0 : Int), false))).1) (y3.1, y3.2)) (Go.IntKind.wrap .i64 (x2 + (1 : Int))) x3 x4 x5 x6) else none))) else none) else none) else none) else (go x0 x1 (Go.IntKind.wrap .i64 (x2 + (1 : Int))) x3 x4 x5 x6))) else (some (x0, x1, x3, x4, x5, x6)))
noncomputable def f96l0 (N : Nat) : Nat → (List Int) → Yls → Int → Yls → Ylp → Ylc → Ylg → Option ((List Int) × Yls × Yls × Ylp × Ylc × Ylg) | 0 => fun _ _ _ _ _ _ _ => none | q + 1 => f96l0B N (f96l0 N q)
noncomputable def f96l0o (N : Nat) : List (Nat × Orc) := []
theorem f96l0eq (N : Nat) (go : (List Int) → Yls → Int → Yls → Ylp → Ylc → Ylg → Option ((List Int) × Yls × Yls × Ylp × Ylc × Ylg)) (x : f96l0tv.Y) : codeK Try.prog hint (callsL (f96calls N)) (orcsL (f96l0o N)) 81 f96l0c 1 (f96l0tv.enc x) (loopK f96l0tv f96l0E (fun x => go x.1 x.2.1 x.2.2.1 x.2.2.2.1 x.2.2.2.2.1 x.2.2.2.2.2.1 x.2.2.2.2.2.2)) = f96l0B N go x.1 x.2.1 x.2.2.1 x.2.2.2.1 x.2.2.2.2.1 x.2.2.2.2.2.1 x.2.2.2.2.2.2 := by kernel_rfl
theorem f96l0oOk (N : Nat) : OrcsOk Try.prog false 81 f96l0c (orcsL (f96l0o N)) := orcsL_nil
theorem f96l0ok (N : Nat) (M : Nat) : OrcOk Try.prog false 81 (.loop f96l0c) (cutOrc f96l0tv f96l0E (fun x => f96l0 N M x.1 x.2.1 x.2.2.1 x.2.2.2.1 x.2.2.2.2.1 x.2.2.2.2.2.1 x.2.2.2.2.2.2)) := loop_ok mixed eqOk (f96callsOk N) (f96l0oOk N) (fun _ => rfl) (fun q x o h => (f96l0eq N (f96l0 N q) x).trans h) M
@[reducible] noncomputable def f96l1c : Code := loopOf (codeOf (f96c) 122)
noncomputable def f96l1t : Tm := ⟨[1, 2, 5, 8], [(.box 2)], [.one (.v (.list (.int .i64))), .one (.ptr (.box 2) 0 4), .one (.own 1000000 T0), .one (.v (.int .i64)), .agg [.v (.list T0), .v T1, .v T3, .v (.list T4)]]⟩
noncomputable def f96l1tv : Vw f96l1t := { Y := (List Int) × Yls × Int × Yls × Ylp × Ylc × Ylg, fromT := fun t => (t.1, t.2.2.1, t.2.2.2.1, t.2.2.2.2.1.1, t.2.2.2.2.1.2.1, t.2.2.2.2.1.2.2.1, t.2.2.2.2.1.2.2.2.1), outT := fun y => (y.1, (), y.2.1, y.2.2.1, (y.2.2.2.1, y.2.2.2.2.1, y.2.2.2.2.2.1, y.2.2.2.2.2.2, ()), ()), inv := fun _ => rfl }
noncomputable def f96l1e0 : Tm := ⟨[5], [], [.one (.own 1000000 T0)]⟩
noncomputable def f96l1e0v : Vw f96l1e0 := { Y := Yls, fromT := fun t => t.1, outT := fun y => (y, ()), inv := fun _ => rfl }
@[reducible] noncomputable def f96l1E : List Ex := [⟨(.ext 2), f96l1e0, f96l1e0v⟩]
noncomputable def f96l1B (N : Nat) (go : (List Int) → Yls → Int → Yls → Ylp → Ylc → Ylg → Option (Yls)) (x0 : (List Int)) (x1 : Yls) (x2 : Int) (x3 : Yls) (x4 : Ylp) (x5 : Ylc) (x6 : Ylg) : Option (Yls) := (if (decide (x2 < ((List.length x6 : Nat) : Int))) = true then (andThen (f110 N x0 (Go.IntKind.wrap .i64 (((List.length x5 : Nat) : Int) + x2))) fun y5 => (if (!y5) = true then (if ((decide ((0 : Int) ≤ x2)) && (decide (x2 < ((List.length x6 : Nat) : Int)))) = true then (if ((decide ((0 : Int) ≤ (List.getD x6 (Int.toNat x2) ((0 : Int), (((0 : Int), (0 : Int)), (0 : Int)))).1)) && (decide ((List.getD x6 (Int.toNat x2) ((0 : Int), (((0 : Int), (0 : Int)), (0 : Int)))).1 < ((List.length x1 : Nat) : Int)))) = true then (if ((decide ((0 : Int) ≤ x2)) && (decide (x2 < ((List.length x6 : Nat) : Int)))) = true then (andThen (f117 N (List.getD x6 (Int.toNat x2) ((0 : Int), (((0 : Int), (0 : Int)), (0 : Int)))).1 (List.getD x6 (Int.toNat x2) ((0 : Int), (((0 : Int), (0 : Int)), (0 : Int)))).2.1.1 (List.getD x6 (Int.toNat x2) ((0 : Int), (((0 : Int), (0 : Int)), (0 : Int)))).2.1.2 (List.getD x6 (Int.toNat x2) ((0 : Int), (((0 : Int), (0 : Int)), (0 : Int)))).2.2) fun y6 => (andThen (f80 N (List.getD x1 (Int.toNat (List.getD x6 (Int.toNat x2) ((0 : Int), (((0 : Int), (0 : Int)), (0 : Int)))).1) ((0 : Int), (0 : Int))).1 (List.getD x1 (Int.toNat (List.getD x6 (Int.toNat x2) ((0 : Int), (((0 : Int), (0 : Int)), (0 : Int)))).1) ((0 : Int), (0 : Int))).2 y6.1 y6.2) fun y7 => (if ((decide ((0 : Int) ≤ (List.getD x6 (Int.toNat x2) ((0 : Int), (((0 : Int), (0 : Int)), (0 : Int)))).1)) && (decide ((List.getD x6 (Int.toNat x2) ((0 : Int), (((0 : Int), (0 : Int)), (0 : Int)))).1 < ((List.length x1 : Nat) : Int)))) = true then (go x0 (List.set x1 (Int.toNat (List.getD x6 (Int.toNat x2) ((0 : Int), (((0 : Int), (0 : Int)), (0 : Int)))).1) (y7.1, y7.2)) (Go.IntKind.wrap .i64 (x2 + (1 : Int))) x3 x4 x5 x6) else none))) else none) else none) else none) else (go x0 x1 (Go.IntKind.wrap .i64 (x2 + (1 : Int))) x3 x4 x5 x6))) else (some x1))
noncomputable def f96l1 (N : Nat) : Nat → (List Int) → Yls → Int → Yls → Ylp → Ylc → Ylg → Option (Yls) | 0 => fun _ _ _ _ _ _ _ => none | q + 1 => f96l1B N (f96l1 N q)
noncomputable def f96l1o (N : Nat) : List (Nat × Orc) := []
theorem f96l1eq (N : Nat) (go : (List Int) → Yls → Int → Yls → Ylp → Ylc → Ylg → Option (Yls)) (x : f96l1tv.Y) : codeK Try.prog hint (callsL (f96calls N)) (orcsL (f96l1o N)) 81 f96l1c 1 (f96l1tv.enc x) (loopK f96l1tv f96l1E (fun x => go x.1 x.2.1 x.2.2.1 x.2.2.2.1 x.2.2.2.2.1 x.2.2.2.2.2.1 x.2.2.2.2.2.2)) = f96l1B N go x.1 x.2.1 x.2.2.1 x.2.2.2.1 x.2.2.2.2.1 x.2.2.2.2.2.1 x.2.2.2.2.2.2 := by kernel_rfl
theorem f96l1oOk (N : Nat) : OrcsOk Try.prog false 81 f96l1c (orcsL (f96l1o N)) := orcsL_nil
theorem f96l1ok (N : Nat) (M : Nat) : OrcOk Try.prog false 81 (.loop f96l1c) (cutOrc f96l1tv f96l1E (fun x => f96l1 N M x.1 x.2.1 x.2.2.1 x.2.2.2.1 x.2.2.2.2.1 x.2.2.2.2.2.1 x.2.2.2.2.2.2)) := loop_ok mixed eqOk (f96callsOk N) (f96l1oOk N) (fun _ => rfl) (fun q x o h => (f96l1eq N (f96l1 N q) x).trans h) M
noncomputable def f96 (N : Nat) (x0 : Yls) (x1 : Ylp) (x2 : Ylc) (x3 : Ylg) (x4 : (List Int)) : Option (Yls) := (if (Nat.ble ((List.length ([] : List (Int × Int))) + (List.length x0)) Go.Al.boundLen) = true then (andThen (f96l0 N N x4 (([] : List (Int × Int)) ++ x0) (0 : Int) x0 x1 x2 x3) fun y4 => (andThen (f96l1 N N y4.1 y4.2.1 (0 : Int) y4.2.2.1 y4.2.2.2.1 y4.2.2.2.2.1 y4.2.2.2.2.2) fun y8 => (some y8))) else none)
noncomputable def f96orc (N : Nat) : List (Nat × Orc) := [(58, cutOrc f96l0tv f96l0E (fun x => f96l0 N N x.1 x.2.1 x.2.2.1 x.2.2.2.1 x.2.2.2.2.1 x.2.2.2.2.2.1 x.2.2.2.2.2.2)), (122, cutOrc f96l1tv f96l1E (fun x => f96l1 N N x.1 x.2.1 x.2.2.1 x.2.2.2.1 x.2.2.2.2.1 x.2.2.2.2.2.1 x.2.2.2.2.2.2))]
theorem f96eq (N : Nat) (x : f96iv.Y) : codeK Try.prog hint (callsL (f96calls N)) (orcsL (f96orc N)) 81 f96c 1 (f96iv.enc x) (fnKv Try.prog [.tmp 4] f96ov) = f96 N x.1 x.2.1 x.2.2.1 x.2.2.2.1 x.2.2.2.2 := by kernel_rfl
theorem f96orcOk (N : Nat) : OrcsOk Try.prog false 81 f96c (orcsL (f96orc N)) := (orcsL_cons (c := .loop f96l0c) (by kernel_rfl) (f96l0ok N N) (orcsL_cons (c := .loop f96l1c) (by kernel_rfl) (f96l1ok N N) orcsL_nil))
noncomputable def f96call (N : Nat) : CallS := callOf 81 f96iv f96ov (fun x => f96 N x.1 x.2.1 x.2.2.1 x.2.2.2.1 x.2.2.2.2)
theorem f96ok (N : Nat) : CallOk Try.prog 96 (f96call N) := fn_ok (g := 96) (fn := Try.f96) (body := f96c) (n := 81) (rs := [.tmp 4]) mixed eqOk (f96callsOk N) (by kernel_rfl) (by kernel_rfl) (by kernel_rfl) (by kernel_rfl) (f96orcOk N) (by kernel_rfl) (Vi := f96iv) (Vo := f96ov) (F := fun x => f96 N x.1 x.2.1 x.2.2.1 x.2.2.2.1 x.2.2.2.2) (fun x y h => (f96eq N x).trans h)
end Go.Proofs

namespace Go.Proofs
open Go.Al
/-! 41 smalto/smaltoref02.Heats -/
noncomputable def f41i : Tm := ⟨[0, 1], [], [.agg [.v (.list T0), .v T1, .v T3, .v (.list T4)], .one (.v (.list (.int .i64)))]⟩
noncomputable def f41iv : Vw f41i := { Y := Yls × Ylp × Ylc × Ylg × (List Int), fromT := fun t => (t.1.1, t.1.2.1, t.1.2.2.1, t.1.2.2.2.1, t.2.1), outT := fun y => ((y.1, y.2.1, y.2.2.1, y.2.2.2.1, ()), y.2.2.2.2, ()), inv := fun _ => rfl }
noncomputable def f41o : Tm := ⟨[0, 1], [], [.one (.own 4096 T0), .one (.v .bool)]⟩
noncomputable def f41ov : Vw f41o := { Y := Yls × Bool, fromT := fun t => (t.1, t.2.1), outT := fun y => (y.1, y.2, ()), inv := fun _ => rfl }
@[reducible] noncomputable def f41c : Code := bodyOf Try.f41
noncomputable def f41calls (N : Nat) : List (Nat × CallS) := [(96, f96call N), (81, f81call N)]
theorem f41callsOk (N : Nat) : CallsOk Try.prog (callsL (f41calls N)) := (callsL_cons (fun _ => Enters.of (fn := Try.f96) (by kernel_rfl) (by kernel_rfl) (by kernel_rfl)) (f96ok N) (callsL_cons (fun _ => Enters.of (fn := Try.f81) (by kernel_rfl) (by kernel_rfl) (by kernel_rfl)) (f81ok N) callsL_nil))
noncomputable def f41 (N : Nat) (x0 : Yls) (x1 : Ylp) (x2 : Ylc) (x3 : Ylg) (x4 : (List Int)) : Option (Yls × Bool) := (andThen (f96 N x0 x1 x2 x3 x4) fun y1 => (andThen (f81 N x1 y1) fun y2 => (some (y2.1, y2.2))))
noncomputable def f41orc (N : Nat) : List (Nat × Orc) := []
theorem f41eq (N : Nat) (x : f41iv.Y) : codeK Try.prog hint (callsL (f41calls N)) (orcsL (f41orc N)) 14 f41c 1 (f41iv.enc x) (fnKv Try.prog [.tmp 4, .tmp 5] f41ov) = f41 N x.1 x.2.1 x.2.2.1 x.2.2.2.1 x.2.2.2.2 := by kernel_rfl
theorem f41orcOk (N : Nat) : OrcsOk Try.prog false 14 f41c (orcsL (f41orc N)) := orcsL_nil
noncomputable def f41call (N : Nat) : CallS := callOf 14 f41iv f41ov (fun x => f41 N x.1 x.2.1 x.2.2.1 x.2.2.2.1 x.2.2.2.2)
theorem f41ok (N : Nat) : CallOk Try.prog 41 (f41call N) := fn_ok (g := 41) (fn := Try.f41) (body := f41c) (n := 14) (rs := [.tmp 4, .tmp 5]) mixed eqOk (f41callsOk N) (by kernel_rfl) (by kernel_rfl) (by kernel_rfl) (by kernel_rfl) (f41orcOk N) (by kernel_rfl) (Vi := f41iv) (Vo := f41ov) (F := fun x => f41 N x.1 x.2.1 x.2.2.1 x.2.2.2.1 x.2.2.2.2) (fun x y h => (f41eq N x).trans h)
end Go.Proofs

namespace Go.Proofs
open Go.Al
/-! 23 smalto/smaltoref02.Open -/
noncomputable def f23i : Tm := ⟨[0], [], [.agg [.v (.list T0), .v T1, .v T3, .v (.list T4)]]⟩
noncomputable def f23iv : Vw f23i := { Y := Yls × Ylp × Ylc × Ylg, fromT := fun t => (t.1.1, t.1.2.1, t.1.2.2.1, t.1.2.2.2.1), outT := fun y => ((y.1, y.2.1, y.2.2.1, y.2.2.2, ()), ()), inv := fun _ => rfl }
noncomputable def f23o : Tm := ⟨[0, 1], [], [.one (.own 4096 T0), .one (.v (.int .i64))]⟩
noncomputable def f23ov : Vw f23o := { Y := Yls × Int, fromT := fun t => (t.1, t.2.1), outT := fun y => (y.1, y.2, ()), inv := fun _ => rfl }
@[reducible] noncomputable def f23c : Code := bodyOf Try.f23
noncomputable def f23calls (N : Nat) : List (Nat × CallS) := [(22, f22call N), (41, f41call N)]
theorem f23callsOk (N : Nat) : CallsOk Try.prog (callsL (f23calls N)) := (callsL_cons (fun _ => Enters.of (fn := Try.f22) (by kernel_rfl) (by kernel_rfl) (by kernel_rfl)) (f22ok N) (callsL_cons (fun _ => Enters.of (fn := Try.f41) (by kernel_rfl) (by kernel_rfl) (by kernel_rfl)) (f41ok N) callsL_nil))
noncomputable def f23 (N : Nat) (x0 : Yls) (x1 : Ylp) (x2 : Ylc) (x3 : Ylg) : Option (Yls × Int) := (andThen (f22 N x0 x1 x2 x3) fun y1 => (if (y1 != (0 : Int)) = true then (some (([] : List (Int × Int)), y1)) else (andThen (f41 N x0 x1 x2 x3 ([] : List Int)) fun y2 => (if (!y2.2) = true then (some (([] : List (Int × Int)), (9 : Int))) else (some (y2.1, (0 : Int)))))))
noncomputable def f23orc (N : Nat) : List (Nat × Orc) := []
theorem f23eq (N : Nat) (x : f23iv.Y) : codeK Try.prog hint (callsL (f23calls N)) (orcsL (f23orc N)) 20 f23c 1 (f23iv.enc x) (fnKv Try.prog [.tmp 2, .tmp 3] f23ov) = f23 N x.1 x.2.1 x.2.2.1 x.2.2.2 := by kernel_rfl
theorem f23orcOk (N : Nat) : OrcsOk Try.prog false 20 f23c (orcsL (f23orc N)) := orcsL_nil
noncomputable def f23call (N : Nat) : CallS := callOf 20 f23iv f23ov (fun x => f23 N x.1 x.2.1 x.2.2.1 x.2.2.2)
theorem f23ok (N : Nat) : CallOk Try.prog 23 (f23call N) := fn_ok (g := 23) (fn := Try.f23) (body := f23c) (n := 20) (rs := [.tmp 2, .tmp 3]) mixed eqOk (f23callsOk N) (by kernel_rfl) (by kernel_rfl) (by kernel_rfl) (by kernel_rfl) (f23orcOk N) (by kernel_rfl) (Vi := f23iv) (Vo := f23ov) (F := fun x => f23 N x.1 x.2.1 x.2.2.1 x.2.2.2) (fun x y h => (f23eq N x).trans h)
end Go.Proofs

namespace Go.Proofs
open Go.Al
/-! 73 smalto/smaltoref02.At -/
noncomputable def f73i : Tm := ⟨[0, 1, 2, 3], [], [.agg [.v (.list T0), .v T1, .v T3, .v (.list T4)], .one (.v (.list T0)), .one (.v (.int .i64)), .one (.v (.int .i64))]⟩
noncomputable def f73iv : Vw f73i := { Y := Yls × Ylp × Ylc × Ylg × Yls × Int × Int, fromT := fun t => (t.1.1, t.1.2.1, t.1.2.2.1, t.1.2.2.2.1, t.2.1, t.2.2.1, t.2.2.2.1), outT := fun y => ((y.1, y.2.1, y.2.2.1, y.2.2.2.1, ()), y.2.2.2.2.1, y.2.2.2.2.2.1, y.2.2.2.2.2.2, ()), inv := fun _ => rfl }
noncomputable def f73o : Tm := ⟨[0], [], [.one (.own 4096 T0)]⟩
noncomputable def f73ov : Vw f73o := { Y := Yls, fromT := fun t => t.1, outT := fun y => (y, ()), inv := fun _ => rfl }
@[reducible] noncomputable def f73c : Code := bodyOf Try.f73
noncomputable def f73calls (N : Nat) : List (Nat × CallS) := [(81, f81call N)]
theorem f73callsOk (N : Nat) : CallsOk Try.prog (callsL (f73calls N)) := (callsL_cons (fun _ => Enters.of (fn := Try.f81) (by kernel_rfl) (by kernel_rfl) (by kernel_rfl)) (f81ok N) callsL_nil)
noncomputable def f73 (N : Nat) (x0 : Yls) (x1 : Ylp) (x2 : Ylc) (x3 : Ylg) (x4 : Yls) (x5 : Int) (x6 : Int) : Option (Yls) := (if (Nat.ble ((List.length ([] : List (Int × Int))) + (List.length x4)) Go.Al.boundLen) = true then (if ((decide ((0 : Int) ≤ x5)) && (decide (x5 < ((List.length (([] : List (Int × Int)) ++ x4) : Nat) : Int)))) = true then (andThen (f81 N x1 (List.set (([] : List (Int × Int)) ++ x4) (Int.toNat x5) (x6, x6))) fun y1 => (some y1.1)) else none) else none)
noncomputable def f73orc (N : Nat) : List (Nat × Orc) := []
theorem f73eq (N : Nat) (x : f73iv.Y) : codeK Try.prog hint (callsL (f73calls N)) (orcsL (f73orc N)) 29 f73c 1 (f73iv.enc x) (fnKv Try.prog [.tmp 8] f73ov) = f73 N x.1 x.2.1 x.2.2.1 x.2.2.2.1 x.2.2.2.2.1 x.2.2.2.2.2.1 x.2.2.2.2.2.2 := by kernel_rfl
theorem f73orcOk (N : Nat) : OrcsOk Try.prog false 29 f73c (orcsL (f73orc N)) := orcsL_nil
noncomputable def f73call (N : Nat) : CallS := callOf 29 f73iv f73ov (fun x => f73 N x.1 x.2.1 x.2.2.1 x.2.2.2.1 x.2.2.2.2.1 x.2.2.2.2.2.1 x.2.2.2.2.2.2)
theorem f73ok (N : Nat) : CallOk Try.prog 73 (f73call N) := fn_ok (g := 73) (fn := Try.f73) (body := f73c) (n := 29) (rs := [.tmp 8]) mixed eqOk (f73callsOk N) (by kernel_rfl) (by kernel_rfl) (by kernel_rfl) (by kernel_rfl) (f73orcOk N) (by kernel_rfl) (Vi := f73iv) (Vo := f73ov) (F := fun x => f73 N x.1 x.2.1 x.2.2.1 x.2.2.2.1 x.2.2.2.2.1 x.2.2.2.2.2.1 x.2.2.2.2.2.2) (fun x y h => (f73eq N x).trans h)
end Go.Proofs

namespace Go.Proofs
open Go.Al
/-! 27 smalto/smaltoref02.Apart -/
noncomputable def f27i : Tm := ⟨[0, 1, 2, 3], [], [.agg [.v (.list T0), .v T1, .v T3, .v (.list T4)], .one (.v (.list T0)), .one (.v (.int .i64)), .one (.v (.int .i64))]⟩
noncomputable def f27iv : Vw f27i := { Y := Yls × Ylp × Ylc × Ylg × Yls × Int × Int, fromT := fun t => (t.1.1, t.1.2.1, t.1.2.2.1, t.1.2.2.2.1, t.2.1, t.2.2.1, t.2.2.2.1), outT := fun y => ((y.1, y.2.1, y.2.2.1, y.2.2.2.1, ()), y.2.2.2.2.1, y.2.2.2.2.2.1, y.2.2.2.2.2.2, ()), inv := fun _ => rfl }
noncomputable def f27o : Tm := ⟨[0], [], [.agg [.v (.int .i64), .v (.int .i64)]]⟩
noncomputable def f27ov : Vw f27o := { Y := Int × Int, fromT := fun t => (t.1.1, t.1.2.1), outT := fun y => ((y.1, y.2, ()), ()), inv := fun _ => rfl }
@[reducible] noncomputable def f27c : Code := bodyOf Try.f27
noncomputable def f27calls (N : Nat) : List (Nat × CallS) := [(73, f73call N)]
theorem f27callsOk (N : Nat) : CallsOk Try.prog (callsL (f27calls N)) := (callsL_cons (fun _ => Enters.of (fn := Try.f73) (by kernel_rfl) (by kernel_rfl) (by kernel_rfl)) (f73ok N) callsL_nil)
@[reducible] noncomputable def f27l0c : Code := loopOf (codeOf (f27c) 122)
noncomputable def f27l0t : Tm := ⟨[1, 2, 3, 4, 8, 9, 10], [(.box 4), (.box 8), (.box 9)], [.one (.v (.list T0)), .one (.v (.int .i64)), .one (.v (.int .i64)), .one (.ptr (.box 4) 0 4), .one (.ptr (.box 8) 0 2), .one (.ptr (.box 9) 0 2), .one (.v (.int .i64)), .agg [.v (.list T0), .v T1, .v T3, .v (.list T4)], .agg [.v (.int .i64), .v (.int .i64)], .agg [.v (.int .i64), .v (.int .i64)]]⟩
noncomputable def f27l0tv : Vw f27l0t := { Y := Yls × Int × Int × Int × Yls × Ylp × Ylc × Ylg × Int × Int × Int × Int, fromT := fun t => (t.1, t.2.1, t.2.2.1, t.2.2.2.2.2.2.1, t.2.2.2.2.2.2.2.1.1, t.2.2.2.2.2.2.2.1.2.1, t.2.2.2.2.2.2.2.1.2.2.1, t.2.2.2.2.2.2.2.1.2.2.2.1, t.2.2.2.2.2.2.2.2.1.1, t.2.2.2.2.2.2.2.2.1.2.1, t.2.2.2.2.2.2.2.2.2.1.1, t.2.2.2.2.2.2.2.2.2.1.2.1), outT := fun y => (y.1, y.2.1, y.2.2.1, (), (), (), y.2.2.2.1, (y.2.2.2.2.1, y.2.2.2.2.2.1, y.2.2.2.2.2.2.1, y.2.2.2.2.2.2.2.1, ()), (y.2.2.2.2.2.2.2.2.1, y.2.2.2.2.2.2.2.2.2.1, ()), (y.2.2.2.2.2.2.2.2.2.2.1, y.2.2.2.2.2.2.2.2.2.2.2, ()), ()), inv := fun _ => rfl }
noncomputable def f27l0e0 : Tm := ⟨[8, 9], [(.box 8), (.box 9)], [.one (.ptr (.box 8) 0 2), .one (.ptr (.box 9) 0 2), .agg [.v (.int .i64), .v (.int .i64)], .agg [.v (.int .i64), .v (.int .i64)]]⟩
noncomputable def f27l0e0v : Vw f27l0e0 := { Y := Int × Int × Int × Int, fromT := fun t => (t.2.2.1.1, t.2.2.1.2.1, t.2.2.2.1.1, t.2.2.2.1.2.1), outT := fun y => ((), (), (y.1, y.2.1, ()), (y.2.2.1, y.2.2.2, ()), ()), inv := fun _ => rfl }
@[reducible] noncomputable def f27l0E : List Ex := [⟨(.ext 0), f27l0e0, f27l0e0v⟩]
noncomputable def f27l0B (N : Nat) (go : Yls → Int → Int → Int → Yls → Ylp → Ylc → Ylg → Int → Int → Int → Int → Option (Int × Int × Int × Int)) (x0 : Yls) (x1 : Int) (x2 : Int) (x3 : Int) (x4 : Yls) (x5 : Ylp) (x6 : Ylc) (x7 : Ylg) (x8 : Int) (x9 : Int) (x10 : Int) (x11 : Int) : Option (Int × Int × Int × Int) := (if ((decide ((0 : Int) ≤ x1)) && (decide (x1 < ((List.length x0 : Nat) : Int)))) = true then (if (decide (x3 ≤ (List.getD x0 (Int.toNat x1) ((0 : Int), (0 : Int))).2)) = true then (andThen (f73 N x4 x5 x6 x7 x0 x1 x3) fun y1 => (if ((decide ((0 : Int) ≤ x2)) && (decide (x2 < ((List.length y1 : Nat) : Int)))) = true then (go x0 x1 x2 (Go.IntKind.wrap .i64 (x3 + (1 : Int))) x4 x5 x6 x7 x8 x9 (if ((Go.IntKind.wrap .i64 (x3 - (List.getD y1 (Int.toNat x2) ((0 : Int), (0 : Int))).2)) < x10) then (Go.IntKind.wrap .i64 (x3 - (List.getD y1 (Int.toNat x2) ((0 : Int), (0 : Int))).2)) else x10) (if ((Go.IntKind.wrap .i64 (x3 - (List.getD y1 (Int.toNat x2) ((0 : Int), (0 : Int))).1)) > x11) then (Go.IntKind.wrap .i64 (x3 - (List.getD y1 (Int.toNat x2) ((0 : Int), (0 : Int))).1)) else x11)) else none)) else (some (x8, x9, x10, x11))) else none)
noncomputable def f27l0 (N : Nat) : Nat → Yls → Int → Int → Int → Yls → Ylp → Ylc → Ylg → Int → Int → Int → Int → Option (Int × Int × Int × Int) | 0 => fun _ _ _ _ _ _ _ _ _ _ _ _ => none | q + 1 => f27l0B N (f27l0 N q)
noncomputable def f27l0o (N : Nat) : List (Nat × Orc) := []
theorem f27l0eq (N : Nat) (go : Yls → Int → Int → Int → Yls → Ylp → Ylc → Ylg → Int → Int → Int → Int → Option (Int × Int × Int × Int)) (x : f27l0tv.Y) : codeK Try.prog hint (callsL (f27calls N)) (orcsL (f27l0o N)) 55 f27l0c 1 (f27l0tv.enc x) (loopK f27l0tv f27l0E (fun x => go x.1 x.2.1 x.2.2.1 x.2.2.2.1 x.2.2.2.2.1 x.2.2.2.2.2.1 x.2.2.2.2.2.2.1 x.2.2.2.2.2.2.2.1 x.2.2.2.2.2.2.2.2.1 x.2.2.2.2.2.2.2.2.2.1 x.2.2.2.2.2.2.2.2.2.2.1 x.2.2.2.2.2.2.2.2.2.2.2)) = f27l0B N go x.1 x.2.1 x.2.2.1 x.2.2.2.1 x.2.2.2.2.1 x.2.2.2.2.2.1 x.2.2.2.2.2.2.1 x.2.2.2.2.2.2.2.1 x.2.2.2.2.2.2.2.2.1 x.2.2.2.2.2.2.2.2.2.1 x.2.2.2.2.2.2.2.2.2.2.1 x.2.2.2.2.2.2.2.2.2.2.2 := by kernel_rfl
theorem f27l0oOk (N : Nat) : OrcsOk Try.prog false 55 f27l0c (orcsL (f27l0o N)) := orcsL_nil
theorem f27l0ok (N : Nat) (M : Nat) : OrcOk Try.prog false 55 (.loop f27l0c) (cutOrc f27l0tv f27l0E (fun x => f27l0 N M x.1 x.2.1 x.2.2.1 x.2.2.2.1 x.2.2.2.2.1 x.2.2.2.2.2.1 x.2.2.2.2.2.2.1 x.2.2.2.2.2.2.2.1 x.2.2.2.2.2.2.2.2.1 x.2.2.2.2.2.2.2.2.2.1 x.2.2.2.2.2.2.2.2.2.2.1 x.2.2.2.2.2.2.2.2.2.2.2)) := loop_ok mixed eqOk (f27callsOk N) (f27l0oOk N) (fun _ => rfl) (fun q x o h => (f27l0eq N (f27l0 N q) x).trans h) M
noncomputable def f27 (N : Nat) (x0 : Yls) (x1 : Ylp) (x2 : Ylc) (x3 : Ylg) (x4 : Yls) (x5 : Int) (x6 : Int) : Option (Int × Int) := (if (x5 == x6) = true then (some ((0 : Int), (0 : Int))) else (if ((decide ((0 : Int) ≤ x5)) && (decide (x5 < ((List.length x4 : Nat) : Int)))) = true then (andThen (f27l0 N N x4 x5 x6 (List.getD x4 (Int.toNat x5) ((0 : Int), (0 : Int))).1 x0 x1 x2 x3 (0 : Int) (0 : Int) (5000 : Int) (-5000 : Int)) fun y2 => (some (y2.2.2.1, y2.2.2.2))) else none))
noncomputable def f27orc (N : Nat) : List (Nat × Orc) := [(122, cutOrc f27l0tv f27l0E (fun x => f27l0 N N x.1 x.2.1 x.2.2.1 x.2.2.2.1 x.2.2.2.2.1 x.2.2.2.2.2.1 x.2.2.2.2.2.2.1 x.2.2.2.2.2.2.2.1 x.2.2.2.2.2.2.2.2.1 x.2.2.2.2.2.2.2.2.2.1 x.2.2.2.2.2.2.2.2.2.2.1 x.2.2.2.2.2.2.2.2.2.2.2))]
theorem f27eq (N : Nat) (x : f27iv.Y) : codeK Try.prog hint (callsL (f27calls N)) (orcsL (f27orc N)) 55 f27c 1 (f27iv.enc x) (fnKv Try.prog [.cell 8 36] f27ov) = f27 N x.1 x.2.1 x.2.2.1 x.2.2.2.1 x.2.2.2.2.1 x.2.2.2.2.2.1 x.2.2.2.2.2.2 := by kernel_rfl
theorem f27orcOk (N : Nat) : OrcsOk Try.prog false 55 f27c (orcsL (f27orc N)) := (orcsL_cons (c := .loop f27l0c) (by kernel_rfl) (f27l0ok N N) orcsL_nil)
noncomputable def f27call (N : Nat) : CallS := callOf 55 f27iv f27ov (fun x => f27 N x.1 x.2.1 x.2.2.1 x.2.2.2.1 x.2.2.2.2.1 x.2.2.2.2.2.1 x.2.2.2.2.2.2)
theorem f27ok (N : Nat) : CallOk Try.prog 27 (f27call N) := fn_ok (g := 27) (fn := Try.f27) (body := f27c) (n := 55) (rs := [.cell 8 36]) mixed eqOk (f27callsOk N) (by kernel_rfl) (by kernel_rfl) (by kernel_rfl) (by kernel_rfl) (f27orcOk N) (by kernel_rfl) (Vi := f27iv) (Vo := f27ov) (F := fun x => f27 N x.1 x.2.1 x.2.2.1 x.2.2.2.1 x.2.2.2.2.1 x.2.2.2.2.2.1 x.2.2.2.2.2.2) (fun x y h => (f27eq N x).trans h)
end Go.Proofs

namespace Go.Proofs
open Go.Al
/-! 15 smalto/smaltolaw02.large -/
noncomputable def f15i : Tm := ⟨[0], [], [.agg [.v (.list T0), .v T1, .v T3, .v (.list T4)]]⟩
noncomputable def f15iv : Vw f15i := { Y := Yls × Ylp × Ylc × Ylg, fromT := fun t => (t.1.1, t.1.2.1, t.1.2.2.1, t.1.2.2.2.1), outT := fun y => ((y.1, y.2.1, y.2.2.1, y.2.2.2, ()), ()), inv := fun _ => rfl }
noncomputable def f15o : Tm := ⟨[0], [], [.one (.v .bool)]⟩
noncomputable def f15ov : Vw f15o := { Y := Bool, fromT := fun t => t.1, outT := fun y => (y, ()), inv := fun _ => rfl }
@[reducible] noncomputable def f15c : Code := bodyOf Try.f15
noncomputable def f15calls (N : Nat) : List (Nat × CallS) := []
theorem f15callsOk (N : Nat) : CallsOk Try.prog (callsL (f15calls N)) := callsL_nil
noncomputable def f15 (N : Nat) (x0 : Yls) (x1 : Ylp) (x2 : Ylc) (x3 : Ylg) : Option (Bool) := (if (decide (((List.length x0 : Nat) : Int) > (12 : Int))) = false then (if (decide (((List.length x1 : Nat) : Int) > (12 : Int))) = false then (if (decide (((List.length x2 : Nat) : Int) > (12 : Int))) = false then (some (decide (((List.length x3 : Nat) : Int) > (12 : Int)))) else (some true)) else (some true)) else (some true))
noncomputable def f15orc (N : Nat) : List (Nat × Orc) := []
theorem f15eq (N : Nat) (x : f15iv.Y) : codeK Try.prog hint (callsL (f15calls N)) (orcsL (f15orc N)) 25 f15c 1 (f15iv.enc x) (fnKv Try.prog [.tmp 2] f15ov) = f15 N x.1 x.2.1 x.2.2.1 x.2.2.2 := by kernel_rfl
theorem f15orcOk (N : Nat) : OrcsOk Try.prog false 25 f15c (orcsL (f15orc N)) := orcsL_nil
noncomputable def f15call (N : Nat) : CallS := callOf 25 f15iv f15ov (fun x => f15 N x.1 x.2.1 x.2.2.1 x.2.2.2)
theorem f15ok (N : Nat) : CallOk Try.prog 15 (f15call N) := fn_ok (g := 15) (fn := Try.f15) (body := f15c) (n := 25) (rs := [.tmp 2]) mixed eqOk (f15callsOk N) (by kernel_rfl) (by kernel_rfl) (by kernel_rfl) (by kernel_rfl) (f15orcOk N) (by kernel_rfl) (Vi := f15iv) (Vo := f15ov) (F := fun x => f15 N x.1 x.2.1 x.2.2.1 x.2.2.2) (fun x y h => (f15eq N x).trans h)
end Go.Proofs

namespace Go.Proofs
open Go.Al
/-! 17 smalto/smaltoref02.Copy -/
noncomputable def f17i : Tm := ⟨[0], [], [.agg [.v (.list T0), .v T1, .v T3, .v (.list T4)]]⟩
noncomputable def f17iv : Vw f17i := { Y := Yls × Ylp × Ylc × Ylg, fromT := fun t => (t.1.1, t.1.2.1, t.1.2.2.1, t.1.2.2.2.1), outT := fun y => ((y.1, y.2.1, y.2.2.1, y.2.2.2, ()), ()), inv := fun _ => rfl }
noncomputable def f17o : Tm := ⟨[0], [], [.agg [.own 4096 T0, .own 4097 (.pair (.int .i64) T0), .own 4098 (.pair (.int .i64) T2), .own 4099 T4]]⟩
noncomputable def f17ov : Vw f17o := { Y := Yls × Ylp × Ylc × Ylg, fromT := fun t => (t.1.1, t.1.2.1, t.1.2.2.1, t.1.2.2.2.1), outT := fun y => ((y.1, y.2.1, y.2.2.1, y.2.2.2, ()), ()), inv := fun _ => rfl }
@[reducible] noncomputable def f17c : Code := bodyOf Try.f17
noncomputable def f17calls (N : Nat) : List (Nat × CallS) := []
theorem f17callsOk (N : Nat) : CallsOk Try.prog (callsL (f17calls N)) := callsL_nil
noncomputable def f17 (N : Nat) (x0 : Yls) (x1 : Ylp) (x2 : Ylc) (x3 : Ylg) : Option (Yls × Ylp × Ylc × Ylg) := (if (Nat.ble ((List.length ([] : List (Int × Int))) + (List.length x0)) Go.Al.boundLen) = true then (if (Nat.ble ((List.length ([] : List (Int × (Int × Int)))) + (List.length x1)) Go.Al.boundLen) = true then (if (Nat.ble ((List.length ([] : List (Int × (Int × Bool)))) + (List.length x2)) Go.Al.boundLen) = true then (if (Nat.ble ((List.length ([] : List (Int × ((Int × Int) × Int)))) + (List.length x3)) Go.Al.boundLen) = true then (some ((([] : List (Int × Int)) ++ x0), (([] : List (Int × (Int × Int))) ++ x1), (([] : List (Int × (Int × Bool))) ++ x2), (([] : List (Int × ((Int × Int) × Int))) ++ x3))) else none) else none) else none) else none)
noncomputable def f17orc (N : Nat) : List (Nat × Orc) := []
theorem f17eq (N : Nat) (x : f17iv.Y) : codeK Try.prog hint (callsL (f17calls N)) (orcsL (f17orc N)) 24 f17c 1 (f17iv.enc x) (fnKv Try.prog [.cell 2 27] f17ov) = f17 N x.1 x.2.1 x.2.2.1 x.2.2.2 := by kernel_rfl
theorem f17orcOk (N : Nat) : OrcsOk Try.prog false 24 f17c (orcsL (f17orc N)) := orcsL_nil
noncomputable def f17call (N : Nat) : CallS := callOf 24 f17iv f17ov (fun x => f17 N x.1 x.2.1 x.2.2.1 x.2.2.2)
theorem f17ok (N : Nat) : CallOk Try.prog 17 (f17call N) := fn_ok (g := 17) (fn := Try.f17) (body := f17c) (n := 24) (rs := [.cell 2 27]) mixed eqOk (f17callsOk N) (by kernel_rfl) (by kernel_rfl) (by kernel_rfl) (by kernel_rfl) (f17orcOk N) (by kernel_rfl) (Vi := f17iv) (Vo := f17ov) (F := fun x => f17 N x.1 x.2.1 x.2.2.1 x.2.2.2) (fun x y h => (f17eq N x).trans h)
end Go.Proofs

namespace Go.Proofs
open Go.Al
/-! 24 smalto/smaltoref02.Alike -/
noncomputable def f24i : Tm := ⟨[0, 1], [], [.one (.v (.list T0)), .one (.v (.list T0))]⟩
noncomputable def f24iv : Vw f24i := { Y := Yls × Yls, fromT := fun t => (t.1, t.2.1), outT := fun y => (y.1, y.2, ()), inv := fun _ => rfl }
noncomputable def f24o : Tm := ⟨[0], [], [.one (.v .bool)]⟩
noncomputable def f24ov : Vw f24o := { Y := Bool, fromT := fun t => t.1, outT := fun y => (y, ()), inv := fun _ => rfl }
@[reducible] noncomputable def f24c : Code := bodyOf Try.f24
noncomputable def f24calls (N : Nat) : List (Nat × CallS) := []
theorem f24callsOk (N : Nat) : CallsOk Try.prog (callsL (f24calls N)) := callsL_nil
@[reducible] noncomputable def f24l0c : Code := loopOf (codeOf (f24c) 58)
noncomputable def f24l0t : Tm := ⟨[0, 1, 5], [], [.one (.v (.list T0)), .one (.v (.list T0)), .one (.v (.int .i64))]⟩
noncomputable def f24l0tv : Vw f24l0t := { Y := Yls × Yls × Int, fromT := fun t => (t.1, t.2.1, t.2.2.1), outT := fun y => (y.1, y.2.1, y.2.2, ()), inv := fun _ => rfl }
noncomputable def f24l0e0 : Tm := ⟨[4], [], [.one (.v .bool)]⟩
noncomputable def f24l0e0v : Vw f24l0e0 := { Y := Bool, fromT := fun t => t.1, outT := fun y => (y, ()), inv := fun _ => rfl }
noncomputable def f24l0e1 : Tm := ⟨[], [], []⟩
noncomputable def f24l0e1v : Vw f24l0e1 := { Y := Unit, fromT := fun _ => (), outT := fun _ => (), inv := fun _ => rfl }
@[reducible] noncomputable def f24l0E : List Ex := [⟨.ret, f24l0e0, f24l0e0v⟩, ⟨(.ext 0), f24l0e1, f24l0e1v⟩]
noncomputable def f24l0B (N : Nat) (go : Yls → Yls → Int → Option (((Bool) ⊕ Unit))) (x0 : Yls) (x1 : Yls) (x2 : Int) : Option (((Bool) ⊕ Unit)) := (if (decide (x2 < ((List.length x0 : Nat) : Int))) = true then (if ((decide ((0 : Int) ≤ x2)) && (decide (x2 < ((List.length x0 : Nat) : Int)))) = true then (if ((decide ((0 : Int) ≤ x2)) && (decide (x2 < ((List.length x1 : Nat) : Int)))) = true then (if (!(((List.getD x0 (Int.toNat x2) ((0 : Int), (0 : Int))).1 == (List.getD x1 (Int.toNat x2) ((0 : Int), (0 : Int))).1) && (((List.getD x0 (Int.toNat x2) ((0 : Int), (0 : Int))).2 == (List.getD x1 (Int.toNat x2) ((0 : Int), (0 : Int))).2) && true))) = true then (some (Sum.inl false)) else (go x0 x1 (Go.IntKind.wrap .i64 (x2 + (1 : Int))))) else none) else none) else (some (Sum.inr ())))
noncomputable def f24l0 (N : Nat) : Nat → Yls → Yls → Int → Option (((Bool) ⊕ Unit)) | 0 => fun _ _ _ => none | q + 1 => f24l0B N (f24l0 N q)
noncomputable def f24l0o (N : Nat) : List (Nat × Orc) := []
theorem f24l0eq (N : Nat) (go : Yls → Yls → Int → Option (((Bool) ⊕ Unit))) (x : f24l0tv.Y) : codeK Try.prog hint (callsL (f24calls N)) (orcsL (f24l0o N)) 26 f24l0c 1 (f24l0tv.enc x) (loopK f24l0tv f24l0E (fun x => go x.1 x.2.1 x.2.2)) = f24l0B N go x.1 x.2.1 x.2.2 := by kernel_rfl
theorem f24l0oOk (N : Nat) : OrcsOk Try.prog false 26 f24l0c (orcsL (f24l0o N)) := orcsL_nil
theorem f24l0ok (N : Nat) (M : Nat) : OrcOk Try.prog false 26 (.loop f24l0c) (cutOrc f24l0tv f24l0E (fun x => f24l0 N M x.1 x.2.1 x.2.2)) := loop_ok mixed eqOk (f24callsOk N) (f24l0oOk N) (fun _ => rfl) (fun q x o h => (f24l0eq N (f24l0 N q) x).trans h) M
noncomputable def f24 (N : Nat) (x0 : Yls) (x1 : Yls) : Option (Bool) := (if (((List.length x0 : Nat) : Int) != ((List.length x1 : Nat) : Int)) = true then (some false) else (andThen (f24l0 N N x0 x1 (0 : Int)) fun y1 => (either y1 (fun a2 => (some a2)) (fun b3 => (some true)))))
noncomputable def f24orc (N : Nat) : List (Nat × Orc) := [(58, cutOrc f24l0tv f24l0E (fun x => f24l0 N N x.1 x.2.1 x.2.2))]
theorem f24eq (N : Nat) (x : f24iv.Y) : codeK Try.prog hint (callsL (f24calls N)) (orcsL (f24orc N)) 26 f24c 1 (f24iv.enc x) (fnKv Try.prog [.tmp 4] f24ov) = f24 N x.1 x.2 := by kernel_rfl
theorem f24orcOk (N : Nat) : OrcsOk Try.prog false 26 f24c (orcsL (f24orc N)) := (orcsL_cons (c := .loop f24l0c) (by kernel_rfl) (f24l0ok N N) orcsL_nil)
noncomputable def f24call (N : Nat) : CallS := callOf 26 f24iv f24ov (fun x => f24 N x.1 x.2)
theorem f24ok (N : Nat) : CallOk Try.prog 24 (f24call N) := fn_ok (g := 24) (fn := Try.f24) (body := f24c) (n := 26) (rs := [.tmp 4]) mixed eqOk (f24callsOk N) (by kernel_rfl) (by kernel_rfl) (by kernel_rfl) (by kernel_rfl) (f24orcOk N) (by kernel_rfl) (Vi := f24iv) (Vo := f24ov) (F := fun x => f24 N x.1 x.2) (fun x y h => (f24eq N x).trans h)
end Go.Proofs

namespace Go.Proofs
open Go.Al
/-! 21 smalto/smaltoref02.Same -/
noncomputable def f21i : Tm := ⟨[0, 1], [], [.agg [.v (.list T0), .v T1, .v T3, .v (.list T4)], .agg [.v (.list T0), .v T1, .v T3, .v (.list T4)]]⟩
noncomputable def f21iv : Vw f21i := { Y := Yls × Ylp × Ylc × Ylg × Yls × Ylp × Ylc × Ylg, fromT := fun t => (t.1.1, t.1.2.1, t.1.2.2.1, t.1.2.2.2.1, t.2.1.1, t.2.1.2.1, t.2.1.2.2.1, t.2.1.2.2.2.1), outT := fun y => ((y.1, y.2.1, y.2.2.1, y.2.2.2.1, ()), (y.2.2.2.2.1, y.2.2.2.2.2.1, y.2.2.2.2.2.2.1, y.2.2.2.2.2.2.2, ()), ()), inv := fun _ => rfl }
noncomputable def f21o : Tm := ⟨[0], [], [.one (.v .bool)]⟩
noncomputable def f21ov : Vw f21o := { Y := Bool, fromT := fun t => t.1, outT := fun y => (y, ()), inv := fun _ => rfl }
@[reducible] noncomputable def f21c : Code := bodyOf Try.f21
noncomputable def f21calls (N : Nat) : List (Nat × CallS) := [(24, f24call N)]
theorem f21callsOk (N : Nat) : CallsOk Try.prog (callsL (f21calls N)) := (callsL_cons (fun _ => Enters.of (fn := Try.f24) (by kernel_rfl) (by kernel_rfl) (by kernel_rfl)) (f24ok N) callsL_nil)
@[reducible] noncomputable def f21l0c : Code := loopOf (codeOf (f21c) 58)
noncomputable def f21l0t : Tm := ⟨[2, 3, 5], [(.box 2), (.box 3)], [.one (.ptr (.box 2) 0 4), .one (.ptr (.box 3) 0 4), .one (.v (.int .i64)), .agg [.v (.list T0), .v T1, .v T3, .v (.list T4)], .agg [.v (.list T0), .v T1, .v T3, .v (.list T4)]]⟩
noncomputable def f21l0tv : Vw f21l0t := { Y := Int × Yls × Ylp × Ylc × Ylg × Yls × Ylp × Ylc × Ylg, fromT := fun t => (t.2.2.1, t.2.2.2.1.1, t.2.2.2.1.2.1, t.2.2.2.1.2.2.1, t.2.2.2.1.2.2.2.1, t.2.2.2.2.1.1, t.2.2.2.2.1.2.1, t.2.2.2.2.1.2.2.1, t.2.2.2.2.1.2.2.2.1), outT := fun y => ((), (), y.1, (y.2.1, y.2.2.1, y.2.2.2.1, y.2.2.2.2.1, ()), (y.2.2.2.2.2.1, y.2.2.2.2.2.2.1, y.2.2.2.2.2.2.2.1, y.2.2.2.2.2.2.2.2, ()), ()), inv := fun _ => rfl }
noncomputable def f21l0e0 : Tm := ⟨[4], [], [.one (.v .bool)]⟩
noncomputable def f21l0e0v : Vw f21l0e0 := { Y := Bool, fromT := fun t => t.1, outT := fun y => (y, ()), inv := fun _ => rfl }
noncomputable def f21l0e1 : Tm := ⟨[2, 3], [(.box 2), (.box 3)], [.one (.ptr (.box 2) 0 4), .one (.ptr (.box 3) 0 4), .agg [.v (.list T0), .v T1, .v T3, .v (.list T4)], .agg [.v (.list T0), .v T1, .v T3, .v (.list T4)]]⟩
noncomputable def f21l0e1v : Vw f21l0e1 := { Y := Yls × Ylp × Ylc × Ylg × Yls × Ylp × Ylc × Ylg, fromT := fun t => (t.2.2.1.1, t.2.2.1.2.1, t.2.2.1.2.2.1, t.2.2.1.2.2.2.1, t.2.2.2.1.1, t.2.2.2.1.2.1, t.2.2.2.1.2.2.1, t.2.2.2.1.2.2.2.1), outT := fun y => ((), (), (y.1, y.2.1, y.2.2.1, y.2.2.2.1, ()), (y.2.2.2.2.1, y.2.2.2.2.2.1, y.2.2.2.2.2.2.1, y.2.2.2.2.2.2.2, ()), ()), inv := fun _ => rfl }
@[reducible] noncomputable def f21l0E : List Ex := [⟨.ret, f21l0e0, f21l0e0v⟩, ⟨(.ext 0), f21l0e1, f21l0e1v⟩]
noncomputable def f21l0B (N : Nat) (go : Int → Yls → Ylp → Ylc → Ylg → Yls → Ylp → Ylc → Ylg → Option (((Bool) ⊕ Yls × Ylp × Ylc × Ylg × Yls × Ylp × Ylc × Ylg))) (x0 : Int) (x1 : Yls) (x2 : Ylp) (x3 : Ylc) (x4 : Ylg) (x5 : Yls) (x6 : Ylp) (x7 : Ylc) (x8 : Ylg) : Option (((Bool) ⊕ Yls × Ylp × Ylc × Ylg × Yls × Ylp × Ylc × Ylg)) := (if (decide (x0 < ((List.length x2 : Nat) : Int))) = true then (if ((decide ((0 : Int) ≤ x0)) && (decide (x0 < ((List.length x2 : Nat) : Int)))) = true then (if ((decide ((0 : Int) ≤ x0)) && (decide (x0 < ((List.length x6 : Nat) : Int)))) = true then (if (!(((List.getD x2 (Int.toNat x0) ((0 : Int), ((0 : Int), (0 : Int)))).1 == (List.getD x6 (Int.toNat x0) ((0 : Int), ((0 : Int), (0 : Int)))).1) && (((List.getD x2 (Int.toNat x0) ((0 : Int), ((0 : Int), (0 : Int)))).2.1 == (List.getD x6 (Int.toNat x0) ((0 : Int), ((0 : Int), (0 : Int)))).2.1) && (((List.getD x2 (Int.toNat x0) ((0 : Int), ((0 : Int), (0 : Int)))).2.2 == (List.getD x6 (Int.toNat x0) ((0 : Int), ((0 : Int), (0 : Int)))).2.2) && true)))) = true then (some (Sum.inl false)) else (go (Go.IntKind.wrap .i64 (x0 + (1 : Int))) x1 x2 x3 x4 x5 x6 x7 x8)) else none) else none) else (some (Sum.inr (x1, x2, x3, x4, x5, x6, x7, x8))))
noncomputable def f21l0 (N : Nat) : Nat → Int → Yls → Ylp → Ylc → Ylg → Yls → Ylp → Ylc → Ylg → Option (((Bool) ⊕ Yls × Ylp × Ylc × Ylg × Yls × Ylp × Ylc × Ylg)) | 0 => fun _ _ _ _ _ _ _ _ _ => none | q + 1 => f21l0B N (f21l0 N q)
noncomputable def f21l0o (N : Nat) : List (Nat × Orc) := []
theorem f21l0eq (N : Nat) (go : Int → Yls → Ylp → Ylc → Ylg → Yls → Ylp → Ylc → Ylg → Option (((Bool) ⊕ Yls × Ylp × Ylc × Ylg × Yls × Ylp × Ylc × Ylg))) (x : f21l0tv.Y) : codeK Try.prog hint (callsL (f21calls N)) (orcsL (f21l0o N)) 95 f21l0c 1 (f21l0tv.enc x) (loopK f21l0tv f21l0E (fun x => go x.1 x.2.1 x.2.2.1 x.2.2.2.1 x.2.2.2.2.1 x.2.2.2.2.2.1 x.2.2.2.2.2.2.1 x.2.2.2.2.2.2.2.1 x.2.2.2.2.2.2.2.2)) = f21l0B N go x.1 x.2.1 x.2.2.1 x.2.2.2.1 x.2.2.2.2.1 x.2.2.2.2.2.1 x.2.2.2.2.2.2.1 x.2.2.2.2.2.2.2.1 x.2.2.2.2.2.2.2.2 := by kernel_rfl
theorem f21l0oOk (N : Nat) : OrcsOk Try.prog false 95 f21l0c (orcsL (f21l0o N)) := orcsL_nil
theorem f21l0ok (N : Nat) (M : Nat) : OrcOk Try.prog false 95 (.loop f21l0c) (cutOrc f21l0tv f21l0E (fun x => f21l0 N M x.1 x.2.1 x.2.2.1 x.2.2.2.1 x.2.2.2.2.1 x.2.2.2.2.2.1 x.2.2.2.2.2.2.1 x.2.2.2.2.2.2.2.1 x.2.2.2.2.2.2.2.2)) := loop_ok mixed eqOk (f21callsOk N) (f21l0oOk N) (fun _ => rfl) (fun q x o h => (f21l0eq N (f21l0 N q) x).trans h) M
@[reducible] noncomputable def f21l1c : Code := loopOf (codeOf (f21c) 122)
noncomputable def f21l1t : Tm := ⟨[2, 3, 6], [(.box 2), (.box 3)], [.one (.ptr (.box 2) 0 4), .one (.ptr (.box 3) 0 4), .one (.v (.int .i64)), .agg [.v (.list T0), .v T1, .v T3, .v (.list T4)], .agg [.v (.list T0), .v T1, .v T3, .v (.list T4)]]⟩
noncomputable def f21l1tv : Vw f21l1t := { Y := Int × Yls × Ylp × Ylc × Ylg × Yls × Ylp × Ylc × Ylg, fromT := fun t => (t.2.2.1, t.2.2.2.1.1, t.2.2.2.1.2.1, t.2.2.2.1.2.2.1, t.2.2.2.1.2.2.2.1, t.2.2.2.2.1.1, t.2.2.2.2.1.2.1, t.2.2.2.2.1.2.2.1, t.2.2.2.2.1.2.2.2.1), outT := fun y => ((), (), y.1, (y.2.1, y.2.2.1, y.2.2.2.1, y.2.2.2.2.1, ()), (y.2.2.2.2.2.1, y.2.2.2.2.2.2.1, y.2.2.2.2.2.2.2.1, y.2.2.2.2.2.2.2.2, ()), ()), inv := fun _ => rfl }
noncomputable def f21l1e0 : Tm := ⟨[4], [], [.one (.v .bool)]⟩
noncomputable def f21l1e0v : Vw f21l1e0 := { Y := Bool, fromT := fun t => t.1, outT := fun y => (y, ()), inv := fun _ => rfl }
noncomputable def f21l1e1 : Tm := ⟨[2, 3], [(.box 2), (.box 3)], [.one (.ptr (.box 2) 0 4), .one (.ptr (.box 3) 0 4), .agg [.v (.list T0), .v T1, .v T3, .v (.list T4)], .agg [.v (.list T0), .v T1, .v T3, .v (.list T4)]]⟩
noncomputable def f21l1e1v : Vw f21l1e1 := { Y := Yls × Ylp × Ylc × Ylg × Yls × Ylp × Ylc × Ylg, fromT := fun t => (t.2.2.1.1, t.2.2.1.2.1, t.2.2.1.2.2.1, t.2.2.1.2.2.2.1, t.2.2.2.1.1, t.2.2.2.1.2.1, t.2.2.2.1.2.2.1, t.2.2.2.1.2.2.2.1), outT := fun y => ((), (), (y.1, y.2.1, y.2.2.1, y.2.2.2.1, ()), (y.2.2.2.2.1, y.2.2.2.2.2.1, y.2.2.2.2.2.2.1, y.2.2.2.2.2.2.2, ()), ()), inv := fun _ => rfl }
@[reducible] noncomputable def f21l1E : List Ex := [⟨.ret, f21l1e0, f21l1e0v⟩, ⟨(.ext 2), f21l1e1, f21l1e1v⟩]
noncomputable def f21l1B (N : Nat) (go : Int → Yls → Ylp → Ylc → Ylg → Yls → Ylp → Ylc → Ylg → Option (((Bool) ⊕ Yls × Ylp × Ylc × Ylg × Yls × Ylp × Ylc × Ylg))) (x0 : Int) (x1 : Yls) (x2 : Ylp) (x3 : Ylc) (x4 : Ylg) (x5 : Yls) (x6 : Ylp) (x7 : Ylc) (x8 : Ylg) : Option (((Bool) ⊕ Yls × Ylp × Ylc × Ylg × Yls × Ylp × Ylc × Ylg)) := (if (decide (x0 < ((List.length x3 : Nat) : Int))) = true then (if ((decide ((0 : Int) ≤ x0)) && (decide (x0 < ((List.length x3 : Nat) : Int)))) = true then (if ((decide ((0 : Int) ≤ x0)) && (decide (x0 < ((List.length x7 : Nat) : Int)))) = true then (if (!(((List.getD x3 (Int.toNat x0) ((0 : Int), ((0 : Int), false))).1 == (List.getD x7 (Int.toNat x0) ((0 : Int), ((0 : Int), false))).1) && (((List.getD x3 (Int.toNat x0) ((0 : Int), ((0 : Int), false))).2.1 == (List.getD x7 (Int.toNat x0) ((0 : Int), ((0 : Int), false))).2.1) && (((List.getD x3 (Int.toNat x0) ((0 : Int), ((0 : Int), false))).2.2 == (List.getD x7 (Int.toNat x0) ((0 : Int), ((0 : Int), false))).2.2) && true)))) = true then (some (Sum.inl false)) else (go (Go.IntKind.wrap .i64 (x0 + (1 : Int))) x1 x2 x3 x4 x5 x6 x7 x8)) else none) else none) else (some (Sum.inr (x1, x2, x3, x4, x5, x6, x7, x8))))
noncomputable def f21l1 (N : Nat) : Nat → Int → Yls → Ylp → Ylc → Ylg → Yls → Ylp → Ylc → Ylg → Option (((Bool) ⊕ Yls × Ylp × Ylc × Ylg × Yls × Ylp × Ylc × Ylg)) | 0 => fun _ _ _ _ _ _ _ _ _ => none | q + 1 => f21l1B N (f21l1 N q)
noncomputable def f21l1o (N : Nat) : List (Nat × Orc) := []
theorem f21l1eq (N : Nat) (go : Int → Yls → Ylp → Ylc → Ylg → Yls → Ylp → Ylc → Ylg → Option (((Bool) ⊕ Yls × Ylp × Ylc × Ylg × Yls × Ylp × Ylc × Ylg))) (x : f21l1tv.Y) : codeK Try.prog hint (callsL (f21calls N)) (orcsL (f21l1o N)) 95 f21l1c 1 (f21l1tv.enc x) (loopK f21l1tv f21l1E (fun x => go x.1 x.2.1 x.2.2.1 x.2.2.2.1 x.2.2.2.2.1 x.2.2.2.2.2.1 x.2.2.2.2.2.2.1 x.2.2.2.2.2.2.2.1 x.2.2.2.2.2.2.2.2)) = f21l1B N go x.1 x.2.1 x.2.2.1 x.2.2.2.1 x.2.2.2.2.1 x.2.2.2.2.2.1 x.2.2.2.2.2.2.1 x.2.2.2.2.2.2.2.1 x.2.2.2.2.2.2.2.2 := by kernel_rfl
theorem f21l1oOk (N : Nat) : OrcsOk Try.prog false 95 f21l1c (orcsL (f21l1o N)) := orcsL_nil
theorem f21l1ok (N : Nat) (M : Nat) : OrcOk Try.prog false 95 (.loop f21l1c) (cutOrc f21l1tv f21l1E (fun x => f21l1 N M x.1 x.2.1 x.2.2.1 x.2.2.2.1 x.2.2.2.2.1 x.2.2.2.2.2.1 x.2.2.2.2.2.2.1 x.2.2.2.2.2.2.2.1 x.2.2.2.2.2.2.2.2)) := loop_ok mixed eqOk (f21callsOk N) (f21l1oOk N) (fun _ => rfl) (fun q x o h => (f21l1eq N (f21l1 N q) x).trans h) M
@[reducible] noncomputable def f21l2c : Code := loopOf (codeOf (f21c) 250)
noncomputable def f21l2t : Tm := ⟨[2, 3, 7], [(.box 2), (.box 3)], [.one (.ptr (.box 2) 0 4), .one (.ptr (.box 3) 0 4), .one (.v (.int .i64)), .agg [.v (.list T0), .v T1, .v T3, .v (.list T4)], .agg [.v (.list T0), .v T1, .v T3, .v (.list T4)]]⟩
noncomputable def f21l2tv : Vw f21l2t := { Y := Int × Yls × Ylp × Ylc × Ylg × Yls × Ylp × Ylc × Ylg, fromT := fun t => (t.2.2.1, t.2.2.2.1.1, t.2.2.2.1.2.1, t.2.2.2.1.2.2.1, t.2.2.2.1.2.2.2.1, t.2.2.2.2.1.1, t.2.2.2.2.1.2.1, t.2.2.2.2.1.2.2.1, t.2.2.2.2.1.2.2.2.1), outT := fun y => ((), (), y.1, (y.2.1, y.2.2.1, y.2.2.2.1, y.2.2.2.2.1, ()), (y.2.2.2.2.2.1, y.2.2.2.2.2.2.1, y.2.2.2.2.2.2.2.1, y.2.2.2.2.2.2.2.2, ()), ()), inv := fun _ => rfl }
noncomputable def f21l2e0 : Tm := ⟨[4], [], [.one (.v .bool)]⟩
noncomputable def f21l2e0v : Vw f21l2e0 := { Y := Bool, fromT := fun t => t.1, outT := fun y => (y, ()), inv := fun _ => rfl }
noncomputable def f21l2e1 : Tm := ⟨[], [], []⟩
noncomputable def f21l2e1v : Vw f21l2e1 := { Y := Unit, fromT := fun _ => (), outT := fun _ => (), inv := fun _ => rfl }
@[reducible] noncomputable def f21l2E : List Ex := [⟨.ret, f21l2e0, f21l2e0v⟩, ⟨(.ext 4), f21l2e1, f21l2e1v⟩]
noncomputable def f21l2B (N : Nat) (go : Int → Yls → Ylp → Ylc → Ylg → Yls → Ylp → Ylc → Ylg → Option (((Bool) ⊕ Unit))) (x0 : Int) (x1 : Yls) (x2 : Ylp) (x3 : Ylc) (x4 : Ylg) (x5 : Yls) (x6 : Ylp) (x7 : Ylc) (x8 : Ylg) : Option (((Bool) ⊕ Unit)) := (if (decide (x0 < ((List.length x4 : Nat) : Int))) = true then (if ((decide ((0 : Int) ≤ x0)) && (decide (x0 < ((List.length x4 : Nat) : Int)))) = true then (if ((decide ((0 : Int) ≤ x0)) && (decide (x0 < ((List.length x8 : Nat) : Int)))) = true then (if (!(((List.getD x4 (Int.toNat x0) ((0 : Int), (((0 : Int), (0 : Int)), (0 : Int)))).1 == (List.getD x8 (Int.toNat x0) ((0 : Int), (((0 : Int), (0 : Int)), (0 : Int)))).1) && (((List.getD x4 (Int.toNat x0) ((0 : Int), (((0 : Int), (0 : Int)), (0 : Int)))).2.1.1 == (List.getD x8 (Int.toNat x0) ((0 : Int), (((0 : Int), (0 : Int)), (0 : Int)))).2.1.1) && (((List.getD x4 (Int.toNat x0) ((0 : Int), (((0 : Int), (0 : Int)), (0 : Int)))).2.1.2 == (List.getD x8 (Int.toNat x0) ((0 : Int), (((0 : Int), (0 : Int)), (0 : Int)))).2.1.2) && (((List.getD x4 (Int.toNat x0) ((0 : Int), (((0 : Int), (0 : Int)), (0 : Int)))).2.2 == (List.getD x8 (Int.toNat x0) ((0 : Int), (((0 : Int), (0 : Int)), (0 : Int)))).2.2) && true))))) = true then (some (Sum.inl false)) else (go (Go.IntKind.wrap .i64 (x0 + (1 : Int))) x1 x2 x3 x4 x5 x6 x7 x8)) else none) else none) else (some (Sum.inr ())))
noncomputable def f21l2 (N : Nat) : Nat → Int → Yls → Ylp → Ylc → Ylg → Yls → Ylp → Ylc → Ylg → Option (((Bool) ⊕ Unit)) | 0 => fun _ _ _ _ _ _ _ _ _ => none | q + 1 => f21l2B N (f21l2 N q)
noncomputable def f21l2o (N : Nat) : List (Nat × Orc) := []
theorem f21l2eq (N : Nat) (go : Int → Yls → Ylp → Ylc → Ylg → Yls → Ylp → Ylc → Ylg → Option (((Bool) ⊕ Unit))) (x : f21l2tv.Y) : codeK Try.prog hint (callsL (f21calls N)) (orcsL (f21l2o N)) 95 f21l2c 1 (f21l2tv.enc x) (loopK f21l2tv f21l2E (fun x => go x.1 x.2.1 x.2.2.1 x.2.2.2.1 x.2.2.2.2.1 x.2.2.2.2.2.1 x.2.2.2.2.2.2.1 x.2.2.2.2.2.2.2.1 x.2.2.2.2.2.2.2.2)) = f21l2B N go x.1 x.2.1 x.2.2.1 x.2.2.2.1 x.2.2.2.2.1 x.2.2.2.2.2.1 x.2.2.2.2.2.2.1 x.2.2.2.2.2.2.2.1 x.2.2.2.2.2.2.2.2 := by kernel_rfl
theorem f21l2oOk (N : Nat) : OrcsOk Try.prog false 95 f21l2c (orcsL (f21l2o N)) := orcsL_nil
theorem f21l2ok (N : Nat) (M : Nat) : OrcOk Try.prog false 95 (.loop f21l2c) (cutOrc f21l2tv f21l2E (fun x => f21l2 N M x.1 x.2.1 x.2.2.1 x.2.2.2.1 x.2.2.2.2.1 x.2.2.2.2.2.1 x.2.2.2.2.2.2.1 x.2.2.2.2.2.2.2.1 x.2.2.2.2.2.2.2.2)) := loop_ok mixed eqOk (f21callsOk N) (f21l2oOk N) (fun _ => rfl) (fun q x o h => (f21l2eq N (f21l2 N q) x).trans h) M
noncomputable def f21 (N : Nat) (x0 : Yls) (x1 : Ylp) (x2 : Ylc) (x3 : Ylg) (x4 : Yls) (x5 : Ylp) (x6 : Ylc) (x7 : Ylg) : Option (Bool) := (andThen (f24 N x0 x4) fun y1 => (if (!y1) = false then (if (((List.length x1 : Nat) : Int) != ((List.length x5 : Nat) : Int)) = false then (if (((List.length x2 : Nat) : Int) != ((List.length x6 : Nat) : Int)) = false then (if (((List.length x3 : Nat) : Int) != ((List.length x7 : Nat) : Int)) = true then (some false) else (andThen (f21l0 N N (0 : Int) x0 x1 x2 x3 x4 x5 x6 x7) fun y2 => (either y2 (fun a3 => (some a3)) (fun b4 => (andThen (f21l1 N N (0 : Int) b4.1 b4.2.1 b4.2.2.1 b4.2.2.2.1 b4.2.2.2.2.1 b4.2.2.2.2.2.1 b4.2.2.2.2.2.2.1 b4.2.2.2.2.2.2.2) fun y5 => (either y5 (fun a6 => (some a6)) (fun b7 => (andThen (f21l2 N N (0 : Int) b7.1 b7.2.1 b7.2.2.1 b7.2.2.2.1 b7.2.2.2.2.1 b7.2.2.2.2.2.1 b7.2.2.2.2.2.2.1 b7.2.2.2.2.2.2.2) fun y8 => (either y8 (fun a9 => (some a9)) (fun b10 => (some true))))))))))) else (some false)) else (some false)) else (some false)))
noncomputable def f21orc (N : Nat) : List (Nat × Orc) := [(58, cutOrc f21l0tv f21l0E (fun x => f21l0 N N x.1 x.2.1 x.2.2.1 x.2.2.2.1 x.2.2.2.2.1 x.2.2.2.2.2.1 x.2.2.2.2.2.2.1 x.2.2.2.2.2.2.2.1 x.2.2.2.2.2.2.2.2)), (122, cutOrc f21l1tv f21l1E (fun x => f21l1 N N x.1 x.2.1 x.2.2.1 x.2.2.2.1 x.2.2.2.2.1 x.2.2.2.2.2.1 x.2.2.2.2.2.2.1 x.2.2.2.2.2.2.2.1 x.2.2.2.2.2.2.2.2)), (250, cutOrc f21l2tv f21l2E (fun x => f21l2 N N x.1 x.2.1 x.2.2.1 x.2.2.2.1 x.2.2.2.2.1 x.2.2.2.2.2.1 x.2.2.2.2.2.2.1 x.2.2.2.2.2.2.2.1 x.2.2.2.2.2.2.2.2))]
theorem f21eq (N : Nat) (x : f21iv.Y) : codeK Try.prog hint (callsL (f21calls N)) (orcsL (f21orc N)) 95 f21c 1 (f21iv.enc x) (fnKv Try.prog [.tmp 4] f21ov) = f21 N x.1 x.2.1 x.2.2.1 x.2.2.2.1 x.2.2.2.2.1 x.2.2.2.2.2.1 x.2.2.2.2.2.2.1 x.2.2.2.2.2.2.2 := by kernel_rfl
theorem f21orcOk (N : Nat) : OrcsOk Try.prog false 95 f21c (orcsL (f21orc N)) := (orcsL_cons (c := .loop f21l0c) (by kernel_rfl) (f21l0ok N N) (orcsL_cons (c := .loop f21l1c) (by kernel_rfl) (f21l1ok N N) (orcsL_cons (c := .loop f21l2c) (by kernel_rfl) (f21l2ok N N) orcsL_nil)))
noncomputable def f21call (N : Nat) : CallS := callOf 95 f21iv f21ov (fun x => f21 N x.1 x.2.1 x.2.2.1 x.2.2.2.1 x.2.2.2.2.1 x.2.2.2.2.2.1 x.2.2.2.2.2.2.1 x.2.2.2.2.2.2.2)
theorem f21ok (N : Nat) : CallOk Try.prog 21 (f21call N) := fn_ok (g := 21) (fn := Try.f21) (body := f21c) (n := 95) (rs := [.tmp 4]) mixed eqOk (f21callsOk N) (by kernel_rfl) (by kernel_rfl) (by kernel_rfl) (by kernel_rfl) (f21orcOk N) (by kernel_rfl) (Vi := f21iv) (Vo := f21ov) (F := fun x => f21 N x.1 x.2.1 x.2.2.1 x.2.2.2.1 x.2.2.2.2.1 x.2.2.2.2.2.1 x.2.2.2.2.2.2.1 x.2.2.2.2.2.2.2) (fun x y h => (f21eq N x).trans h)
end Go.Proofs

namespace Go.Proofs
open Go.Al
/-! 26 smalto/smaltolaw02.span -/
noncomputable def f26i : Tm := ⟨[0, 1], [], [.one (.v (.int .i64)), .one (.v (.int .i64))]⟩
noncomputable def f26iv : Vw f26i := { Y := Int × Int, fromT := fun t => (t.1, t.2.1), outT := fun y => (y.1, y.2, ()), inv := fun _ => rfl }
noncomputable def f26o : Tm := ⟨[0], [], [.agg [.v (.int .i64), .v (.int .i64)]]⟩
noncomputable def f26ov : Vw f26o := { Y := Int × Int, fromT := fun t => (t.1.1, t.1.2.1), outT := fun y => ((y.1, y.2, ()), ()), inv := fun _ => rfl }
@[reducible] noncomputable def f26c : Code := bodyOf Try.f26
noncomputable def f26calls (N : Nat) : List (Nat × CallS) := []
theorem f26callsOk (N : Nat) : CallsOk Try.prog (callsL (f26calls N)) := callsL_nil
noncomputable def f26 (N : Nat) (x0 : Int) (x1 : Int) : Option (Int × Int) := (some (x0, x1))
noncomputable def f26orc (N : Nat) : List (Nat × Orc) := []
theorem f26eq (N : Nat) (x : f26iv.Y) : codeK Try.prog hint (callsL (f26calls N)) (orcsL (f26orc N)) 8 f26c 1 (f26iv.enc x) (fnKv Try.prog [.cell 4 36] f26ov) = f26 N x.1 x.2 := by kernel_rfl
theorem f26orcOk (N : Nat) : OrcsOk Try.prog false 8 f26c (orcsL (f26orc N)) := orcsL_nil
noncomputable def f26call (N : Nat) : CallS := callOf 8 f26iv f26ov (fun x => f26 N x.1 x.2)
theorem f26ok (N : Nat) : CallOk Try.prog 26 (f26call N) := fn_ok (g := 26) (fn := Try.f26) (body := f26c) (n := 8) (rs := [.cell 4 36]) mixed eqOk (f26callsOk N) (by kernel_rfl) (by kernel_rfl) (by kernel_rfl) (by kernel_rfl) (f26orcOk N) (by kernel_rfl) (Vi := f26iv) (Vo := f26ov) (F := fun x => f26 N x.1 x.2) (fun x y h => (f26eq N x).trans h)
end Go.Proofs

namespace Go.Proofs
open Go.Al
/-! 50 smalto/smaltolaw02.cone -/
noncomputable def f50i : Tm := ⟨[0, 1, 2], [], [.agg [.v (.list T0), .v T1, .v T3, .v (.list T4)], .one (.v (.list (.int .i64))), .agg [.v (.int .u8), .v (.int .u8)]]⟩
noncomputable def f50iv : Vw f50i := { Y := Yls × Ylp × Ylc × Ylg × (List Int) × Int × Int, fromT := fun t => (t.1.1, t.1.2.1, t.1.2.2.1, t.1.2.2.2.1, t.2.1, t.2.2.1.1, t.2.2.1.2.1), outT := fun y => ((y.1, y.2.1, y.2.2.1, y.2.2.2.1, ()), y.2.2.2.2.1, (y.2.2.2.2.2.1, y.2.2.2.2.2.2, ()), ()), inv := fun _ => rfl }
noncomputable def f50o : Tm := ⟨[0], [], [.agg [.v (.int .i64), .v (.int .i64), .v .bool]]⟩
noncomputable def f50ov : Vw f50o := { Y := Int × Int × Bool, fromT := fun t => (t.1.1, t.1.2.1, t.1.2.2.1), outT := fun y => ((y.1, y.2.1, y.2.2, ()), ()), inv := fun _ => rfl }
@[reducible] noncomputable def f50c : Code := bodyOf Try.f50
noncomputable def f50calls (N : Nat) : List (Nat × CallS) := []
theorem f50callsOk (N : Nat) : CallsOk Try.prog (callsL (f50calls N)) := callsL_nil
noncomputable def f50 (N : Nat) (x0 : Yls) (x1 : Ylp) (x2 : Ylc) (x3 : Ylg) (x4 : (List Int)) (x5 : Int) (x6 : Int) : Option (Int × Int × Bool) := (if ((decide ((0 : Int) ≤ (0 : Int))) && (decide ((0 : Int) < (2 : Int)))) = true then (if (((List.length x4 : Nat) : Int) != (0 : Int)) = true then (if ((decide ((0 : Int) ≤ (Int.tmod (Go.IntKind.wrap .i64 x5) ((List.length x4 : Nat) : Int)))) && (decide ((Int.tmod (Go.IntKind.wrap .i64 x5) ((List.length x4 : Nat) : Int)) < ((List.length x0 : Nat) : Int)))) = true then (if ((decide ((0 : Int) ≤ (1 : Int))) && (decide ((1 : Int) < (2 : Int)))) = true then (if ((decide ((0 : Int) ≤ (Int.tmod (Go.IntKind.wrap .i64 x5) ((List.length x4 : Nat) : Int)))) && (decide ((Int.tmod (Go.IntKind.wrap .i64 x5) ((List.length x4 : Nat) : Int)) < ((List.length x0 : Nat) : Int)))) = true then (if ((decide ((0 : Int) ≤ (Int.tmod (Go.IntKind.wrap .i64 x5) ((List.length x4 : Nat) : Int)))) && (decide ((Int.tmod (Go.IntKind.wrap .i64 x5) ((List.length x4 : Nat) : Int)) < ((List.length x0 : Nat) : Int)))) = true then (if ((Go.IntKind.wrap .i64 ((Go.IntKind.wrap .i64 ((List.getD x0 (Int.toNat (Int.tmod (Go.IntKind.wrap .i64 x5) ((List.length x4 : Nat) : Int))) ((0 : Int), (0 : Int))).2 - (List.getD x0 (Int.toNat (Int.tmod (Go.IntKind.wrap .i64 x5) ((List.length x4 : Nat) : Int))) ((0 : Int), (0 : Int))).1)) + (2 : Int))) != (0 : Int)) = true then (if ((decide ((0 : Int) ≤ (Int.tmod (Go.IntKind.wrap .i64 x5) ((List.length x4 : Nat) : Int)))) && (decide ((Int.tmod (Go.IntKind.wrap .i64 x5) ((List.length x4 : Nat) : Int)) < ((List.length x4 : Nat) : Int)))) = true then (some ((Int.tmod (Go.IntKind.wrap .i64 x5) ((List.length x4 : Nat) : Int)), (Go.IntKind.wrap .i64 ((List.getD x0 (Int.toNat (Int.tmod (Go.IntKind.wrap .i64 x5) ((List.length x4 : Nat) : Int))) ((0 : Int), (0 : Int))).1 + (Int.tmod (Go.IntKind.wrap .i64 x6) (Go.IntKind.wrap .i64 ((Go.IntKind.wrap .i64 ((List.getD x0 (Int.toNat (Int.tmod (Go.IntKind.wrap .i64 x5) ((List.length x4 : Nat) : Int))) ((0 : Int), (0 : Int))).2 - (List.getD x0 (Int.toNat (Int.tmod (Go.IntKind.wrap .i64 x5) ((List.length x4 : Nat) : Int))) ((0 : Int), (0 : Int))).1)) + (2 : Int)))))), (decide ((List.getD x4 (Int.toNat (Int.tmod (Go.IntKind.wrap .i64 x5) ((List.length x4 : Nat) : Int))) (0 : Int)) ≥ (Go.IntKind.wrap .i64 ((List.getD x0 (Int.toNat (Int.tmod (Go.IntKind.wrap .i64 x5) ((List.length x4 : Nat) : Int))) ((0 : Int), (0 : Int))).1 + (Int.tmod (Go.IntKind.wrap .i64 x6) (Go.IntKind.wrap .i64 ((Go.IntKind.wrap .i64 ((List.getD x0 (Int.toNat (Int.tmod (Go.IntKind.wrap .i64 x5) ((List.length x4 : Nat) : Int))) ((0 : Int), (0 : Int))).2 - (List.getD x0 (Int.toNat (Int.tmod (Go.IntKind.wrap .i64 x5) ((List.length x4 : Nat) : Int))) ((0 : Int), (0 : Int))).1)) + (2 : Int)))))))))) else none) else none) else none) else none) else none) else none) else none) else none)
noncomputable def f50orc (N : Nat) : List (Nat × Orc) := []
theorem f50eq (N : Nat) (x : f50iv.Y) : codeK Try.prog hint (callsL (f50calls N)) (orcsL (f50orc N)) 49 f50c 1 (f50iv.enc x) (fnKv Try.prog [.cell 6 91] f50ov) = f50 N x.1 x.2.1 x.2.2.1 x.2.2.2.1 x.2.2.2.2.1 x.2.2.2.2.2.1 x.2.2.2.2.2.2 := by kernel_rfl
theorem f50orcOk (N : Nat) : OrcsOk Try.prog false 49 f50c (orcsL (f50orc N)) := orcsL_nil
noncomputable def f50call (N : Nat) : CallS := callOf 49 f50iv f50ov (fun x => f50 N x.1 x.2.1 x.2.2.1 x.2.2.2.1 x.2.2.2.2.1 x.2.2.2.2.2.1 x.2.2.2.2.2.2)
theorem f50ok (N : Nat) : CallOk Try.prog 50 (f50call N) := fn_ok (g := 50) (fn := Try.f50) (body := f50c) (n := 49) (rs := [.cell 6 91]) mixed eqOk (f50callsOk N) (by kernel_rfl) (by kernel_rfl) (by kernel_rfl) (by kernel_rfl) (f50orcOk N) (by kernel_rfl) (Vi := f50iv) (Vo := f50ov) (F := fun x => f50 N x.1 x.2.1 x.2.2.1 x.2.2.2.1 x.2.2.2.2.1 x.2.2.2.2.2.1 x.2.2.2.2.2.2) (fun x y h => (f50eq N x).trans h)
end Go.Proofs

namespace Go.Proofs
open Go.Al
/-! 52 smalto/smaltolaw02.ware -/
noncomputable def f52i : Tm := ⟨[0, 1], [], [.one (.v (.int .i64)), .one (.v (.int .i64))]⟩
noncomputable def f52iv : Vw f52i := { Y := Int × Int, fromT := fun t => (t.1, t.2.1), outT := fun y => (y.1, y.2, ()), inv := fun _ => rfl }
noncomputable def f52o : Tm := ⟨[0], [], [.agg [.v (.int .i64), .v (.int .i64)]]⟩
noncomputable def f52ov : Vw f52o := { Y := Int × Int, fromT := fun t => (t.1.1, t.1.2.1), outT := fun y => ((y.1, y.2, ()), ()), inv := fun _ => rfl }
@[reducible] noncomputable def f52c : Code := bodyOf Try.f52
noncomputable def f52calls (N : Nat) : List (Nat × CallS) := []
theorem f52callsOk (N : Nat) : CallsOk Try.prog (callsL (f52calls N)) := callsL_nil
noncomputable def f52 (N : Nat) (x0 : Int) (x1 : Int) : Option (Int × Int) := (some (x0, x1))
noncomputable def f52orc (N : Nat) : List (Nat × Orc) := []
theorem f52eq (N : Nat) (x : f52iv.Y) : codeK Try.prog hint (callsL (f52calls N)) (orcsL (f52orc N)) 8 f52c 1 (f52iv.enc x) (fnKv Try.prog [.cell 4 46] f52ov) = f52 N x.1 x.2 := by kernel_rfl
theorem f52orcOk (N : Nat) : OrcsOk Try.prog false 8 f52c (orcsL (f52orc N)) := orcsL_nil
noncomputable def f52call (N : Nat) : CallS := callOf 8 f52iv f52ov (fun x => f52 N x.1 x.2)
theorem f52ok (N : Nat) : CallOk Try.prog 52 (f52call N) := fn_ok (g := 52) (fn := Try.f52) (body := f52c) (n := 8) (rs := [.cell 4 46]) mixed eqOk (f52callsOk N) (by kernel_rfl) (by kernel_rfl) (by kernel_rfl) (by kernel_rfl) (f52orcOk N) (by kernel_rfl) (Vi := f52iv) (Vo := f52ov) (F := fun x => f52 N x.1 x.2) (fun x y h => (f52eq N x).trans h)
end Go.Proofs

namespace Go.Proofs
open Go.Al
/-! 54 smalto/smaltolaw02.how -/
noncomputable def f54i : Tm := ⟨[0, 1], [], [.agg [.v (.int .i64), .v (.int .i64)], .one (.v (.int .i64))]⟩
noncomputable def f54iv : Vw f54i := { Y := Int × Int × Int, fromT := fun t => (t.1.1, t.1.2.1, t.2.1), outT := fun y => ((y.1, y.2.1, ()), y.2.2, ()), inv := fun _ => rfl }
noncomputable def f54o : Tm := ⟨[0], [], [.one (.v (.int .i64))]⟩
noncomputable def f54ov : Vw f54o := { Y := Int, fromT := fun t => t.1, outT := fun y => (y, ()), inv := fun _ => rfl }
@[reducible] noncomputable def f54c : Code := bodyOf Try.f54
noncomputable def f54calls (N : Nat) : List (Nat × CallS) := []
theorem f54callsOk (N : Nat) : CallsOk Try.prog (callsL (f54calls N)) := callsL_nil
noncomputable def f54 (N : Nat) (x0 : Int) (x1 : Int) (x2 : Int) : Option (Int) := (if (decide (x2 < x0)) = true then (some (1 : Int)) else (if (decide (x2 < x1)) = true then (some (2 : Int)) else (some (3 : Int))))
noncomputable def f54orc (N : Nat) : List (Nat × Orc) := []
theorem f54eq (N : Nat) (x : f54iv.Y) : codeK Try.prog hint (callsL (f54calls N)) (orcsL (f54orc N)) 15 f54c 1 (f54iv.enc x) (fnKv Try.prog [.tmp 4] f54ov) = f54 N x.1 x.2.1 x.2.2 := by kernel_rfl
theorem f54orcOk (N : Nat) : OrcsOk Try.prog false 15 f54c (orcsL (f54orc N)) := orcsL_nil
noncomputable def f54call (N : Nat) : CallS := callOf 15 f54iv f54ov (fun x => f54 N x.1 x.2.1 x.2.2)
theorem f54ok (N : Nat) : CallOk Try.prog 54 (f54call N) := fn_ok (g := 54) (fn := Try.f54) (body := f54c) (n := 15) (rs := [.tmp 4]) mixed eqOk (f54callsOk N) (by kernel_rfl) (by kernel_rfl) (by kernel_rfl) (by kernel_rfl) (f54orcOk N) (by kernel_rfl) (Vi := f54iv) (Vo := f54ov) (F := fun x => f54 N x.1 x.2.1 x.2.2) (fun x y h => (f54eq N x).trans h)
end Go.Proofs

namespace Go.Proofs
open Go.Al
/-! 51 smalto/smaltolaw02.sign -/
noncomputable def f51i : Tm := ⟨[0, 1], [], [.one (.v (.list (.int .i64))), .agg [.v (.int .u8), .v (.int .u8), .v (.int .u8)]]⟩
noncomputable def f51iv : Vw f51i := { Y := (List Int) × Int × Int × Int, fromT := fun t => (t.1, t.2.1.1, t.2.1.2.1, t.2.1.2.2.1), outT := fun y => (y.1, (y.2.1, y.2.2.1, y.2.2.2, ()), ()), inv := fun _ => rfl }
noncomputable def f51o : Tm := ⟨[0], [], [.agg [.v (.int .i64), .v (.int .i64), .v (.int .i64), .v (.int .i64)]]⟩
noncomputable def f51ov : Vw f51o := { Y := Int × Int × Int × Int, fromT := fun t => (t.1.1, t.1.2.1, t.1.2.2.1, t.1.2.2.2.1), outT := fun y => ((y.1, y.2.1, y.2.2.1, y.2.2.2, ()), ()), inv := fun _ => rfl }
@[reducible] noncomputable def f51c : Code := bodyOf Try.f51
noncomputable def f51calls (N : Nat) : List (Nat × CallS) := [(52, f52call N), (54, f54call N)]
theorem f51callsOk (N : Nat) : CallsOk Try.prog (callsL (f51calls N)) := (callsL_cons (fun _ => Enters.of (fn := Try.f52) (by kernel_rfl) (by kernel_rfl) (by kernel_rfl)) (f52ok N) (callsL_cons (fun _ => Enters.of (fn := Try.f54) (by kernel_rfl) (by kernel_rfl) (by kernel_rfl)) (f54ok N) callsL_nil))
noncomputable def f51 (N : Nat) (x0 : (List Int)) (x1 : Int) (x2 : Int) (x3 : Int) : Option (Int × Int × Int × Int) := (if ((decide ((0 : Int) ≤ (0 : Int))) && (decide ((0 : Int) < (3 : Int)))) = true then (if (((List.length x0 : Nat) : Int) != (0 : Int)) = true then (if ((decide ((0 : Int) ≤ (1 : Int))) && (decide ((1 : Int) < (3 : Int)))) = true then (if ((decide ((0 : Int) ≤ (1 : Int))) && (decide ((1 : Int) < (3 : Int)))) = true then (if ((decide ((0 : Int) ≤ (2 : Int))) && (decide ((2 : Int) < (3 : Int)))) = true then (if ((90 : Int) != (0 : Int)) = true then (andThen (f52 N (Go.IntKind.wrap .i64 ((250 : Int) + (Go.IntKind.wrap .i64 x2))) (Go.IntKind.wrap .i64 ((Go.IntKind.wrap .i64 ((251 : Int) + (Go.IntKind.wrap .i64 x2))) + (Int.tmod (Go.IntKind.wrap .i64 x3) (90 : Int))))) fun y1 => (if ((decide ((0 : Int) ≤ (Int.tmod (Go.IntKind.wrap .i64 x1) ((List.length x0 : Nat) : Int)))) && (decide ((Int.tmod (Go.IntKind.wrap .i64 x1) ((List.length x0 : Nat) : Int)) < ((List.length x0 : Nat) : Int)))) = true then (andThen (f54 N y1.1 y1.2 (List.getD x0 (Int.toNat (Int.tmod (Go.IntKind.wrap .i64 x1) ((List.length x0 : Nat) : Int))) (0 : Int))) fun y2 => (some ((Int.tmod (Go.IntKind.wrap .i64 x1) ((List.length x0 : Nat) : Int)), y1.1, y1.2, y2))) else none)) else none) else none) else none) else none) else none) else none)
noncomputable def f51orc (N : Nat) : List (Nat × Orc) := []
theorem f51eq (N : Nat) (x : f51iv.Y) : codeK Try.prog hint (callsL (f51calls N)) (orcsL (f51orc N)) 36 f51c 1 (f51iv.enc x) (fnKv Try.prog [.cell 4 95] f51ov) = f51 N x.1 x.2.1 x.2.2.1 x.2.2.2 := by kernel_rfl
theorem f51orcOk (N : Nat) : OrcsOk Try.prog false 36 f51c (orcsL (f51orc N)) := orcsL_nil
noncomputable def f51call (N : Nat) : CallS := callOf 36 f51iv f51ov (fun x => f51 N x.1 x.2.1 x.2.2.1 x.2.2.2)
theorem f51ok (N : Nat) : CallOk Try.prog 51 (f51call N) := fn_ok (g := 51) (fn := Try.f51) (body := f51c) (n := 36) (rs := [.cell 4 95]) mixed eqOk (f51callsOk N) (by kernel_rfl) (by kernel_rfl) (by kernel_rfl) (by kernel_rfl) (f51orcOk N) (by kernel_rfl) (Vi := f51iv) (Vo := f51ov) (F := fun x => f51 N x.1 x.2.1 x.2.2.1 x.2.2.2) (fun x y h => (f51eq N x).trans h)
end Go.Proofs

namespace Go.Proofs
open Go.Al
/-! 44 (smalto/smaltolaw02.Kiln).made -/
noncomputable def f44i : Tm := ⟨[0], [], [.agg [.v T8, .v T8, .v (.list T7), .v T8]]⟩
noncomputable def f44iv : Vw f44i := { Y := Ylp × Ylp × Yls × Ylp, fromT := fun t => (t.1.1, t.1.2.1, t.1.2.2.1, t.1.2.2.2.1), outT := fun y => ((y.1, y.2.1, y.2.2.1, y.2.2.2, ()), ()), inv := fun _ => rfl }
noncomputable def f44o : Tm := ⟨[0, 1], [], [.agg [.own 4096 T0, .own 4097 (.pair (.int .i64) T0), .own 4098 (.pair (.int .i64) T2), .own 4099 T4], .one (.own 4100 (.int .i64))]⟩
noncomputable def f44ov : Vw f44o := { Y := Yls × Ylp × Ylc × Ylg × (List Int), fromT := fun t => (t.1.1, t.1.2.1, t.1.2.2.1, t.1.2.2.2.1, t.2.1), outT := fun y => ((y.1, y.2.1, y.2.2.1, y.2.2.2.1, ()), y.2.2.2.2, ()), inv := fun _ => rfl }
@[reducible] noncomputable def f44c : Code := bodyOf Try.f44
noncomputable def f44calls (N : Nat) : List (Nat × CallS) := [(26, f26call N), (50, f50call N), (51, f51call N)]
theorem f44callsOk (N : Nat) : CallsOk Try.prog (callsL (f44calls N)) := (callsL_cons (fun _ => Enters.of (fn := Try.f26) (by kernel_rfl) (by kernel_rfl) (by kernel_rfl)) (f26ok N) (callsL_cons (fun _ => Enters.of (fn := Try.f50) (by kernel_rfl) (by kernel_rfl) (by kernel_rfl)) (f50ok N) (callsL_cons (fun _ => Enters.of (fn := Try.f51) (by kernel_rfl) (by kernel_rfl) (by kernel_rfl)) (f51ok N) callsL_nil)))
@[reducible] noncomputable def f44l0c : Code := loopOf (codeOf (f44c) 58)
noncomputable def f44l0t : Tm := ⟨[1, 2, 4, 5, 6], [(.box 1), (.box 2), (.box 4)], [.one (.ptr (.box 1) 0 4), .one (.ptr (.box 2) 0 4), .one (.ptr (.box 4) 0 4), .one (.own 1000000 (.int .i64)), .one (.v (.int .i64)), .agg [.v T8, .v T8, .v (.list T7), .v T8], .agg [.own 1000001 T0, .own 1000002 (.pair (.int .i64) T0), .own 1000003 (.pair (.int .i64) T2), .own 1000004 T4], .agg [.own 1000005 T0, .own 1000006 (.pair (.int .i64) T0), .own 1000007 (.pair (.int .i64) T2), .own 1000008 T4]]⟩
noncomputable def f44l0tv : Vw f44l0t := { Y := (List Int) × Int × Ylp × Ylp × Yls × Ylp × Yls × Ylp × Ylc × Ylg × Yls × Ylp × Ylc × Ylg, fromT := fun t => (t.2.2.2.1, t.2.2.2.2.1, t.2.2.2.2.2.1.1, t.2.2.2.2.2.1.2.1, t.2.2.2.2.2.1.2.2.1, t.2.2.2.2.2.1.2.2.2.1, t.2.2.2.2.2.2.1.1, t.2.2.2.2.2.2.1.2.1, t.2.2.2.2.2.2.1.2.2.1, t.2.2.2.2.2.2.1.2.2.2.1, t.2.2.2.2.2.2.2.1.1, t.2.2.2.2.2.2.2.1.2.1, t.2.2.2.2.2.2.2.1.2.2.1, t.2.2.2.2.2.2.2.1.2.2.2.1), outT := fun y => ((), (), (), y.1, y.2.1, (y.2.2.1, y.2.2.2.1, y.2.2.2.2.1, y.2.2.2.2.2.1, ()), (y.2.2.2.2.2.2.1, y.2.2.2.2.2.2.2.1, y.2.2.2.2.2.2.2.2.1, y.2.2.2.2.2.2.2.2.2.1, ()), (y.2.2.2.2.2.2.2.2.2.2.1, y.2.2.2.2.2.2.2.2.2.2.2.1, y.2.2.2.2.2.2.2.2.2.2.2.2.1, y.2.2.2.2.2.2.2.2.2.2.2.2.2, ()), ()), inv := fun _ => rfl }
noncomputable def f44l0e0 : Tm := ⟨[1, 2, 4, 5], [(.box 1), (.box 2), (.box 4)], [.one (.ptr (.box 1) 0 4), .one (.ptr (.box 2) 0 4), .one (.ptr (.box 4) 0 4), .one (.own 1000000 (.int .i64)), .agg [.v T8, .v T8, .v (.list T7), .v T8], .agg [.own 1000001 T0, .own 1000002 (.pair (.int .i64) T0), .own 1000003 (.pair (.int .i64) T2), .own 1000004 T4], .agg [.own 1000005 T0, .own 1000006 (.pair (.int .i64) T0), .own 1000007 (.pair (.int .i64) T2), .own 1000008 T4]]⟩
noncomputable def f44l0e0v : Vw f44l0e0 := { Y := (List Int) × Ylp × Ylp × Yls × Ylp × Yls × Ylp × Ylc × Ylg × Yls × Ylp × Ylc × Ylg, fromT := fun t => (t.2.2.2.1, t.2.2.2.2.1.1, t.2.2.2.2.1.2.1, t.2.2.2.2.1.2.2.1, t.2.2.2.2.1.2.2.2.1, t.2.2.2.2.2.1.1, t.2.2.2.2.2.1.2.1, t.2.2.2.2.2.1.2.2.1, t.2.2.2.2.2.1.2.2.2.1, t.2.2.2.2.2.2.1.1, t.2.2.2.2.2.2.1.2.1, t.2.2.2.2.2.2.1.2.2.1, t.2.2.2.2.2.2.1.2.2.2.1), outT := fun y => ((), (), (), y.1, (y.2.1, y.2.2.1, y.2.2.2.1, y.2.2.2.2.1, ()), (y.2.2.2.2.2.1, y.2.2.2.2.2.2.1, y.2.2.2.2.2.2.2.1, y.2.2.2.2.2.2.2.2.1, ()), (y.2.2.2.2.2.2.2.2.2.1, y.2.2.2.2.2.2.2.2.2.2.1, y.2.2.2.2.2.2.2.2.2.2.2.1, y.2.2.2.2.2.2.2.2.2.2.2.2, ()), ()), inv := fun _ => rfl }
@[reducible] noncomputable def f44l0E : List Ex := [⟨(.ext 0), f44l0e0, f44l0e0v⟩]
noncomputable def f44l0B (N : Nat) (go : (List Int) → Int → Ylp → Ylp → Yls → Ylp → Yls → Ylp → Ylc → Ylg → Yls → Ylp → Ylc → Ylg → Option ((List Int) × Ylp × Ylp × Yls × Ylp × Yls × Ylp × Ylc × Ylg × Yls × Ylp × Ylc × Ylg)) (x0 : (List Int)) (x1 : Int) (x2 : Ylp) (x3 : Ylp) (x4 : Yls) (x5 : Ylp) (x6 : Yls) (x7 : Ylp) (x8 : Ylc) (x9 : Ylg) (x10 : Yls) (x11 : Ylp) (x12 : Ylc) (x13 : Ylg) : Option ((List Int) × Ylp × Ylp × Yls × Ylp × Yls × Ylp × Ylc × Ylg × Yls × Ylp × Ylc × Ylg) := (if (x1 == (0 : Int)) = false then (if (decide (x1 < ((List.length x2 : Nat) : Int))) = true then (if (decide (x1 < (4 : Int))) = true then (if (decide (x1 < ((List.length x2 : Nat) : Int))) = true then (if ((decide ((0 : Int) ≤ x1)) && (decide (x1 < ((List.length x2 : Nat) : Int)))) = true then (if ((decide ((0 : Int) ≤ (0 : Int))) && (decide ((0 : Int) < (3 : Int)))) = true then (if (Nat.ble ((List.length x0) + (List.length ([(Go.IntKind.wrap .i64 ((300 : Int) + (Go.IntKind.wrap .i64 (List.getD ([(List.getD x2 (Int.toNat x1) ((0 : Int), ((0 : Int), (0 : Int)))).1, (List.getD x2 (Int.toNat x1) ((0 : Int), ((0 : Int), (0 : Int)))).2.1, (List.getD x2 (Int.toNat x1) ((0 : Int), ((0 : Int), (0 : Int)))).2.2] : List Int) 0 (0 : Int)))))] : List Int))) Go.Al.boundLen) = true then (if ((decide ((0 : Int) ≤ (1 : Int))) && (decide ((1 : Int) < (3 : Int)))) = true then (if ((60 : Int) != (0 : Int)) = true then (if ((decide ((0 : Int) ≤ (2 : Int))) && (decide ((2 : Int) < (3 : Int)))) = true then (if ((60 : Int) != (0 : Int)) = true then (andThen (f26 N (Go.IntKind.wrap .i64 ((Go.IntKind.wrap .i64 ((300 : Int) + (Go.IntKind.wrap .i64 (List.getD ([(List.getD x2 (Int.toNat x1) ((0 : Int), ((0 : Int), (0 : Int)))).1, (List.getD x2 (Int.toNat x1) ((0 : Int), ((0 : Int), (0 : Int)))).2.1, (List.getD x2 (Int.toNat x1) ((0 : Int), ((0 : Int), (0 : Int)))).2.2] : List Int) 0 (0 : Int))))) - (Int.tmod (Go.IntKind.wrap .i64 (List.getD ([(List.getD x2 (Int.toNat x1) ((0 : Int), ((0 : Int), (0 : Int)))).1, (List.getD x2 (Int.toNat x1) ((0 : Int), ((0 : Int), (0 : Int)))).2.1, (List.getD x2 (Int.toNat x1) ((0 : Int), ((0 : Int), (0 : Int)))).2.2] : List Int) 1 (0 : Int))) (60 : Int)))) (Go.IntKind.wrap .i64 ((Go.IntKind.wrap .i64 ((300 : Int) + (Go.IntKind.wrap .i64 (List.getD ([(List.getD x2 (Int.toNat x1) ((0 : Int), ((0 : Int), (0 : Int)))).1, (List.getD x2 (Int.toNat x1) ((0 : Int), ((0 : Int), (0 : Int)))).2.1, (List.getD x2 (Int.toNat x1) ((0 : Int), ((0 : Int), (0 : Int)))).2.2] : List Int) 0 (0 : Int))))) + (Int.tmod (Go.IntKind.wrap .i64 (List.getD ([(List.getD x2 (Int.toNat x1) ((0 : Int), ((0 : Int), (0 : Int)))).1, (List.getD x2 (Int.toNat x1) ((0 : Int), ((0 : Int), (0 : Int)))).2.1, (List.getD x2 (Int.toNat x1) ((0 : Int), ((0 : Int), (0 : Int)))).2.2] : List Int) 2 (0 : Int))) (60 : Int))))) fun y1 => (if (Nat.ble ((List.length x10) + (List.length ([(y1.1, y1.2)] : List (Int × Int)))) Go.Al.boundLen) = true then (go (x0 ++ ([(Go.IntKind.wrap .i64 ((300 : Int) + (Go.IntKind.wrap .i64 (List.getD ([(List.getD x2 (Int.toNat x1) ((0 : Int), ((0 : Int), (0 : Int)))).1, (List.getD x2 (Int.toNat x1) ((0 : Int), ((0 : Int), (0 : Int)))).2.1, (List.getD x2 (Int.toNat x1) ((0 : Int), ((0 : Int), (0 : Int)))).2.2] : List Int) 0 (0 : Int)))))] : List Int)) (Go.IntKind.wrap .i64 (x1 + (1 : Int))) x2 x3 x4 x5 x6 x7 x8 x9 (x10 ++ ([(y1.1, y1.2)] : List (Int × Int))) x11 x12 x13) else none)) else none) else none) else none) else none) else none) else none) else none) else (if ((decide ((0 : Int) ≤ (0 : Int))) && (decide ((0 : Int) < (3 : Int)))) = true then (if (Nat.ble ((List.length x0) + (List.length ([(Go.IntKind.wrap .i64 ((300 : Int) + (Go.IntKind.wrap .i64 (List.getD ([(100 : Int), (9 : Int), (9 : Int)] : List Int) 0 (0 : Int)))))] : List Int))) Go.Al.boundLen) = true then (if ((decide ((0 : Int) ≤ (1 : Int))) && (decide ((1 : Int) < (3 : Int)))) = true then (if ((60 : Int) != (0 : Int)) = true then (if ((decide ((0 : Int) ≤ (2 : Int))) && (decide ((2 : Int) < (3 : Int)))) = true then (if ((60 : Int) != (0 : Int)) = true then (andThen (f26 N (Go.IntKind.wrap .i64 ((Go.IntKind.wrap .i64 ((300 : Int) + (Go.IntKind.wrap .i64 (List.getD ([(100 : Int), (9 : Int), (9 : Int)] : List Int) 0 (0 : Int))))) - (Int.tmod (Go.IntKind.wrap .i64 (List.getD ([(100 : Int), (9 : Int), (9 : Int)] : List Int) 1 (0 : Int))) (60 : Int)))) (Go.IntKind.wrap .i64 ((Go.IntKind.wrap .i64 ((300 : Int) + (Go.IntKind.wrap .i64 (List.getD ([(100 : Int), (9 : Int), (9 : Int)] : List Int) 0 (0 : Int))))) + (Int.tmod (Go.IntKind.wrap .i64 (List.getD ([(100 : Int), (9 : Int), (9 : Int)] : List Int) 2 (0 : Int))) (60 : Int))))) fun y2 => (if (Nat.ble ((List.length x10) + (List.length ([(y2.1, y2.2)] : List (Int × Int)))) Go.Al.boundLen) = true then (go (x0 ++ ([(Go.IntKind.wrap .i64 ((300 : Int) + (Go.IntKind.wrap .i64 (List.getD ([(100 : Int), (9 : Int), (9 : Int)] : List Int) 0 (0 : Int)))))] : List Int)) (Go.IntKind.wrap .i64 (x1 + (1 : Int))) x2 x3 x4 x5 x6 x7 x8 x9 (x10 ++ ([(y2.1, y2.2)] : List (Int × Int))) x11 x12 x13) else none)) else none) else none) else none) else none) else none) else none)) else (some (x0, x2, x3, x4, x5, x6, x7, x8, x9, x10, x11, x12, x13))) else (some (x0, x2, x3, x4, x5, x6, x7, x8, x9, x10, x11, x12, x13))) else (if (decide (x1 < ((List.length x2 : Nat) : Int))) = true then (if ((decide ((0 : Int) ≤ x1)) && (decide (x1 < ((List.length x2 : Nat) : Int)))) = true then (if ((decide ((0 : Int) ≤ (0 : Int))) && (decide ((0 : Int) < (3 : Int)))) = true then (if (Nat.ble ((List.length x0) + (List.length ([(Go.IntKind.wrap .i64 ((300 : Int) + (Go.IntKind.wrap .i64 (List.getD ([(List.getD x2 (Int.toNat x1) ((0 : Int), ((0 : Int), (0 : Int)))).1, (List.getD x2 (Int.toNat x1) ((0 : Int), ((0 : Int), (0 : Int)))).2.1, (List.getD x2 (Int.toNat x1) ((0 : Int), ((0 : Int), (0 : Int)))).2.2] : List Int) 0 (0 : Int)))))] : List Int))) Go.Al.boundLen) = true then (if ((decide ((0 : Int) ≤ (1 : Int))) && (decide ((1 : Int) < (3 : Int)))) = true then (if ((60 : Int) != (0 : Int)) = true then (if ((decide ((0 : Int) ≤ (2 : Int))) && (decide ((2 : Int) < (3 : Int)))) = true then (if ((60 : Int) != (0 : Int)) = true then (andThen (f26 N (Go.IntKind.wrap .i64 ((Go.IntKind.wrap .i64 ((300 : Int) + (Go.IntKind.wrap .i64 (List.getD ([(List.getD x2 (Int.toNat x1) ((0 : Int), ((0 : Int), (0 : Int)))).1, (List.getD x2 (Int.toNat x1) ((0 : Int), ((0 : Int), (0 : Int)))).2.1, (List.getD x2 (Int.toNat x1) ((0 : Int), ((0 : Int), (0 : Int)))).2.2] : List Int) 0 (0 : Int))))) - (Int.tmod (Go.IntKind.wrap .i64 (List.getD ([(List.getD x2 (Int.toNat x1) ((0 : Int), ((0 : Int), (0 : Int)))).1, (List.getD x2 (Int.toNat x1) ((0 : Int), ((0 : Int), (0 : Int)))).2.1, (List.getD x2 (Int.toNat x1) ((0 : Int), ((0 : Int), (0 : Int)))).2.2] : List Int) 1 (0 : Int))) (60 : Int)))) (Go.IntKind.wrap .i64 ((Go.IntKind.wrap .i64 ((300 : Int) + (Go.IntKind.wrap .i64 (List.getD ([(List.getD x2 (Int.toNat x1) ((0 : Int), ((0 : Int), (0 : Int)))).1, (List.getD x2 (Int.toNat x1) ((0 : Int), ((0 : Int), (0 : Int)))).2.1, (List.getD x2 (Int.toNat x1) ((0 : Int), ((0 : Int), (0 : Int)))).2.2] : List Int) 0 (0 : Int))))) + (Int.tmod (Go.IntKind.wrap .i64 (List.getD ([(List.getD x2 (Int.toNat x1) ((0 : Int), ((0 : Int), (0 : Int)))).1, (List.getD x2 (Int.toNat x1) ((0 : Int), ((0 : Int), (0 : Int)))).2.1, (List.getD x2 (Int.toNat x1) ((0 : Int), ((0 : Int), (0 : Int)))).2.2] : List Int) 2 (0 : Int))) (60 : Int))))) fun y3 => (if (Nat.ble ((List.length x10) + (List.length ([(y3.1, y3.2)] : List (Int × Int)))) Go.Al.boundLen) = true then (go (x0 ++ ([(Go.IntKind.wrap .i64 ((300 : Int) + (Go.IntKind.wrap .i64 (List.getD ([(List.getD x2 (Int.toNat x1) ((0 : Int), ((0 : Int), (0 : Int)))).1, (List.getD x2 (Int.toNat x1) ((0 : Int), ((0 : Int), (0 : Int)))).2.1, (List.getD x2 (Int.toNat x1) ((0 : Int), ((0 : Int), (0 : Int)))).2.2] : List Int) 0 (0 : Int)))))] : List Int)) (Go.IntKind.wrap .i64 (x1 + (1 : Int))) x2 x3 x4 x5 x6 x7 x8 x9 (x10 ++ ([(y3.1, y3.2)] : List (Int × Int))) x11 x12 x13) else none)) else none) else none) else none) else none) else none) else none) else none) else (if ((decide ((0 : Int) ≤ (0 : Int))) && (decide ((0 : Int) < (3 : Int)))) = true then (if (Nat.ble ((List.length x0) + (List.length ([(Go.IntKind.wrap .i64 ((300 : Int) + (Go.IntKind.wrap .i64 (List.getD ([(100 : Int), (9 : Int), (9 : Int)] : List Int) 0 (0 : Int)))))] : List Int))) Go.Al.boundLen) = true then (if ((decide ((0 : Int) ≤ (1 : Int))) && (decide ((1 : Int) < (3 : Int)))) = true then (if ((60 : Int) != (0 : Int)) = true then (if ((decide ((0 : Int) ≤ (2 : Int))) && (decide ((2 : Int) < (3 : Int)))) = true then (if ((60 : Int) != (0 : Int)) = true then (andThen (f26 N (Go.IntKind.wrap .i64 ((Go.IntKind.wrap .i64 ((300 : Int) + (Go.IntKind.wrap .i64 (List.getD ([(100 : Int), (9 : Int), (9 : Int)] : List Int) 0 (0 : Int))))) - (Int.tmod (Go.IntKind.wrap .i64 (List.getD ([(100 : Int), (9 : Int), (9 : Int)] : List Int) 1 (0 : Int))) (60 : Int)))) (Go.IntKind.wrap .i64 ((Go.IntKind.wrap .i64 ((300 : Int) + (Go.IntKind.wrap .i64 (List.getD ([(100 : Int), (9 : Int), (9 : Int)] : List Int) 0 (0 : Int))))) + (Int.tmod (Go.IntKind.wrap .i64 (List.getD ([(100 : Int), (9 : Int), (9 : Int)] : List Int) 2 (0 : Int))) (60 : Int))))) fun y4 => (if (Nat.ble ((List.length x10) + (List.length ([(y4.1, y4.2)] : List (Int × Int)))) Go.Al.boundLen) = true then (go (x0 ++ ([(Go.IntKind.wrap .i64 ((300 : Int) + (Go.IntKind.wrap .i64 (List.getD ([(100 : Int), (9 : Int), (9 : Int)] : List Int) 0 (0 : Int)))))] : List Int)) (Go.IntKind.wrap .i64 (x1 + (1 : Int))) x2 x3 x4 x5 x6 x7 x8 x9 (x10 ++ ([(y4.1, y4.2)] : List (Int × Int))) x11 x12 x13) else none)) else none) else none) else none) else none) else none) else none)))
noncomputable def f44l0 (N : Nat) : Nat → (List Int) → Int → Ylp → Ylp → Yls → Ylp → Yls → Ylp → Ylc → Ylg → Yls → Ylp → Ylc → Ylg → Option ((List Int) × Ylp × Ylp × Yls × Ylp × Yls × Ylp × Ylc × Ylg × Yls × Ylp × Ylc × Ylg) | 0 => fun _ _ _ _ _ _ _ _ _ _ _ _ _ _ => none | q + 1 => f44l0B N (f44l0 N q)
noncomputable def f44l0o (N : Nat) : List (Nat × Orc) := []
theorem f44l0eq (N : Nat) (go : (List Int) → Int → Ylp → Ylp → Yls → Ylp → Yls → Ylp → Ylc → Ylg → Yls → Ylp → Ylc → Ylg → Option ((List Int) × Ylp × Ylp × Yls × Ylp × Yls × Ylp × Ylc × Ylg × Yls × Ylp × Ylc × Ylg)) (x : f44l0tv.Y) : codeK Try.prog hint (callsL (f44calls N)) (orcsL (f44l0o N)) 192 f44l0c 1 (f44l0tv.enc x) (loopK f44l0tv f44l0E (fun x => go x.1 x.2.1 x.2.2.1 x.2.2.2.1 x.2.2.2.2.1 x.2.2.2.2.2.1 x.2.2.2.2.2.2.1 x.2.2.2.2.2.2.2.1 x.2.2.2.2.2.2.2.2.1 x.2.2.2.2.2.2.2.2.2.1 x.2.2.2.2.2.2.2.2.2.2.1 x.2.2.2.2.2.2.2.2.2.2.2.1 x.2.2.2.2.2.2.2.2.2.2.2.2.1 x.2.2.2.2.2.2.2.2.2.2.2.2.2)) = f44l0B N go x.1 x.2.1 x.2.2.1 x.2.2.2.1 x.2.2.2.2.1 x.2.2.2.2.2.1 x.2.2.2.2.2.2.1 x.2.2.2.2.2.2.2.1 x.2.2.2.2.2.2.2.2.1 x.2.2.2.2.2.2.2.2.2.1 x.2.2.2.2.2.2.2.2.2.2.1 x.2.2.2.2.2.2.2.2.2.2.2.1 x.2.2.2.2.2.2.2.2.2.2.2.2.1 x.2.2.2.2.2.2.2.2.2.2.2.2.2 := by kernel_rfl
theorem f44l0oOk (N : Nat) : OrcsOk Try.prog false 192 f44l0c (orcsL (f44l0o N)) := orcsL_nil
theorem f44l0ok (N : Nat) (M : Nat) : OrcOk Try.prog false 192 (.loop f44l0c) (cutOrc f44l0tv f44l0E (fun x => f44l0 N M x.1 x.2.1 x.2.2.1 x.2.2.2.1 x.2.2.2.2.1 x.2.2.2.2.2.1 x.2.2.2.2.2.2.1 x.2.2.2.2.2.2.2.1 x.2.2.2.2.2.2.2.2.1 x.2.2.2.2.2.2.2.2.2.1 x.2.2.2.2.2.2.2.2.2.2.1 x.2.2.2.2.2.2.2.2.2.2.2.1 x.2.2.2.2.2.2.2.2.2.2.2.2.1 x.2.2.2.2.2.2.2.2.2.2.2.2.2)) := loop_ok mixed eqOk (f44callsOk N) (f44l0oOk N) (fun _ => rfl) (fun q x o h => (f44l0eq N (f44l0 N q) x).trans h) M
@[reducible] noncomputable def f44l1c : Code := loopOf (codeOf (f44c) 122)
noncomputable def f44l1t : Tm := ⟨[1, 2, 4, 5, 9], [(.box 1), (.box 2), (.box 4)], [.one (.ptr (.box 1) 0 4), .one (.ptr (.box 2) 0 4), .one (.ptr (.box 4) 0 4), .one (.own 1000000 (.int .i64)), .one (.v (.int .i64)), .agg [.v T8, .v T8, .v (.list T7), .v T8], .agg [.own 1000001 T0, .own 1000002 (.pair (.int .i64) T0), .own 1000003 (.pair (.int .i64) T2), .own 1000004 T4], .agg [.own 1000005 T0, .own 1000006 (.pair (.int .i64) T0), .own 1000007 (.pair (.int .i64) T2), .own 1000008 T4]]⟩
noncomputable def f44l1tv : Vw f44l1t := { Y := (List Int) × Int × Ylp × Ylp × Yls × Ylp × Yls × Ylp × Ylc × Ylg × Yls × Ylp × Ylc × Ylg, fromT := fun t => (t.2.2.2.1, t.2.2.2.2.1, t.2.2.2.2.2.1.1, t.2.2.2.2.2.1.2.1, t.2.2.2.2.2.1.2.2.1, t.2.2.2.2.2.1.2.2.2.1, t.2.2.2.2.2.2.1.1, t.2.2.2.2.2.2.1.2.1, t.2.2.2.2.2.2.1.2.2.1, t.2.2.2.2.2.2.1.2.2.2.1, t.2.2.2.2.2.2.2.1.1, t.2.2.2.2.2.2.2.1.2.1, t.2.2.2.2.2.2.2.1.2.2.1, t.2.2.2.2.2.2.2.1.2.2.2.1), outT := fun y => ((), (), (), y.1, y.2.1, (y.2.2.1, y.2.2.2.1, y.2.2.2.2.1, y.2.2.2.2.2.1, ()), (y.2.2.2.2.2.2.1, y.2.2.2.2.2.2.2.1, y.2.2.2.2.2.2.2.2.1, y.2.2.2.2.2.2.2.2.2.1, ()), (y.2.2.2.2.2.2.2.2.2.2.1, y.2.2.2.2.2.2.2.2.2.2.2.1, y.2.2.2.2.2.2.2.2.2.2.2.2.1, y.2.2.2.2.2.2.2.2.2.2.2.2.2, ()), ()), inv := fun _ => rfl }
noncomputable def f44l1e0 : Tm := ⟨[1, 2, 4, 5], [(.box 1), (.box 2), (.box 4)], [.one (.ptr (.box 1) 0 4), .one (.ptr (.box 2) 0 4), .one (.ptr (.box 4) 0 4), .one (.own 1000000 (.int .i64)), .agg [.v T8, .v T8, .v (.list T7), .v T8], .agg [.own 1000001 T0, .own 1000002 (.pair (.int .i64) T0), .own 1000003 (.pair (.int .i64) T2), .own 1000004 T4], .agg [.own 1000005 T0, .own 1000006 (.pair (.int .i64) T0), .own 1000007 (.pair (.int .i64) T2), .own 1000008 T4]]⟩
noncomputable def f44l1e0v : Vw f44l1e0 := { Y := (List Int) × Ylp × Ylp × Yls × Ylp × Yls × Ylp × Ylc × Ylg × Yls × Ylp × Ylc × Ylg, fromT := fun t => (t.2.2.2.1, t.2.2.2.2.1.1, t.2.2.2.2.1.2.1, t.2.2.2.2.1.2.2.1, t.2.2.2.2.1.2.2.2.1, t.2.2.2.2.2.1.1, t.2.2.2.2.2.1.2.1, t.2.2.2.2.2.1.2.2.1, t.2.2.2.2.2.1.2.2.2.1, t.2.2.2.2.2.2.1.1, t.2.2.2.2.2.2.1.2.1, t.2.2.2.2.2.2.1.2.2.1, t.2.2.2.2.2.2.1.2.2.2.1), outT := fun y => ((), (), (), y.1, (y.2.1, y.2.2.1, y.2.2.2.1, y.2.2.2.2.1, ()), (y.2.2.2.2.2.1, y.2.2.2.2.2.2.1, y.2.2.2.2.2.2.2.1, y.2.2.2.2.2.2.2.2.1, ()), (y.2.2.2.2.2.2.2.2.2.1, y.2.2.2.2.2.2.2.2.2.2.1, y.2.2.2.2.2.2.2.2.2.2.2.1, y.2.2.2.2.2.2.2.2.2.2.2.2, ()), ()), inv := fun _ => rfl }
@[reducible] noncomputable def f44l1E : List Ex := [⟨(.ext 2), f44l1e0, f44l1e0v⟩]
noncomputable def f44l1B (N : Nat) (go : (List Int) → Int → Ylp → Ylp → Yls → Ylp → Yls → Ylp → Ylc → Ylg → Yls → Ylp → Ylc → Ylg → Option ((List Int) × Ylp × Ylp × Yls × Ylp × Yls × Ylp × Ylc × Ylg × Yls × Ylp × Ylc × Ylg)) (x0 : (List Int)) (x1 : Int) (x2 : Ylp) (x3 : Ylp) (x4 : Yls) (x5 : Ylp) (x6 : Yls) (x7 : Ylp) (x8 : Ylc) (x9 : Ylg) (x10 : Yls) (x11 : Ylp) (x12 : Ylc) (x13 : Ylg) : Option ((List Int) × Ylp × Ylp × Yls × Ylp × Yls × Ylp × Ylc × Ylg × Yls × Ylp × Ylc × Ylg) := (if (decide (x1 < ((List.length x3 : Nat) : Int))) = true then (if (decide (x1 < (5 : Int))) = true then (if (decide (((List.length x0 : Nat) : Int) > (1 : Int))) = true then (if ((decide ((0 : Int) ≤ x1)) && (decide (x1 < ((List.length x3 : Nat) : Int)))) = true then (if ((decide ((0 : Int) ≤ (0 : Int))) && (decide ((0 : Int) < (3 : Int)))) = true then (if (((List.length x0 : Nat) : Int) != (0 : Int)) = true then (if ((decide ((0 : Int) ≤ x1)) && (decide (x1 < ((List.length x3 : Nat) : Int)))) = true then (if ((decide ((0 : Int) ≤ (1 : Int))) && (decide ((1 : Int) < (3 : Int)))) = true then (if (((List.length x0 : Nat) : Int) != (0 : Int)) = true then (if ((Int.tmod (Go.IntKind.wrap .i64 (List.getD x3 (Int.toNat x1) ((0 : Int), ((0 : Int), (0 : Int)))).1) ((List.length x0 : Nat) : Int)) != (Int.tmod (Go.IntKind.wrap .i64 (List.getD x3 (Int.toNat x1) ((0 : Int), ((0 : Int), (0 : Int)))).2.1) ((List.length x0 : Nat) : Int))) = true then (if ((decide ((0 : Int) ≤ (Int.tmod (Go.IntKind.wrap .i64 (List.getD x3 (Int.toNat x1) ((0 : Int), ((0 : Int), (0 : Int)))).1) ((List.length x0 : Nat) : Int)))) && (decide ((Int.tmod (Go.IntKind.wrap .i64 (List.getD x3 (Int.toNat x1) ((0 : Int), ((0 : Int), (0 : Int)))).1) ((List.length x0 : Nat) : Int)) < ((List.length x0 : Nat) : Int)))) = true then (if ((decide ((0 : Int) ≤ (Int.tmod (Go.IntKind.wrap .i64 (List.getD x3 (Int.toNat x1) ((0 : Int), ((0 : Int), (0 : Int)))).2.1) ((List.length x0 : Nat) : Int)))) && (decide ((Int.tmod (Go.IntKind.wrap .i64 (List.getD x3 (Int.toNat x1) ((0 : Int), ((0 : Int), (0 : Int)))).2.1) ((List.length x0 : Nat) : Int)) < ((List.length x0 : Nat) : Int)))) = true then (if ((decide ((0 : Int) ≤ (Int.tmod (Go.IntKind.wrap .i64 (List.getD x3 (Int.toNat x1) ((0 : Int), ((0 : Int), (0 : Int)))).2.1) ((List.length x0 : Nat) : Int)))) && (decide ((Int.tmod (Go.IntKind.wrap .i64 (List.getD x3 (Int.toNat x1) ((0 : Int), ((0 : Int), (0 : Int)))).2.1) ((List.length x0 : Nat) : Int)) < ((List.length x0 : Nat) : Int)))) = true then (if ((decide ((0 : Int) ≤ (Int.tmod (Go.IntKind.wrap .i64 (List.getD x3 (Int.toNat x1) ((0 : Int), ((0 : Int), (0 : Int)))).1) ((List.length x0 : Nat) : Int)))) && (decide ((Int.tmod (Go.IntKind.wrap .i64 (List.getD x3 (Int.toNat x1) ((0 : Int), ((0 : Int), (0 : Int)))).1) ((List.length x0 : Nat) : Int)) < ((List.length x0 : Nat) : Int)))) = true then (if ((decide ((0 : Int) ≤ x1)) && (decide (x1 < ((List.length x3 : Nat) : Int)))) = true then (if ((decide ((0 : Int) ≤ (2 : Int))) && (decide ((2 : Int) < (3 : Int)))) = true then (if ((20 : Int) != (0 : Int)) = true then (if (Nat.ble ((List.length x11) + (List.length ([((Int.tmod (Go.IntKind.wrap .i64 (List.getD x3 (Int.toNat x1) ((0 : Int), ((0 : Int), (0 : Int)))).1) ((List.length x0 : Nat) : Int)), ((Int.tmod (Go.IntKind.wrap .i64 (List.getD x3 (Int.toNat x1) ((0 : Int), ((0 : Int), (0 : Int)))).2.1) ((List.length x0 : Nat) : Int)), (Go.IntKind.wrap .i64 ((if ((Go.IntKind.wrap .i64 ((List.getD x0 (Int.toNat (Int.tmod (Go.IntKind.wrap .i64 (List.getD x3 (Int.toNat x1) ((0 : Int), ((0 : Int), (0 : Int)))).2.1) ((List.length x0 : Nat) : Int))) (0 : Int)) - (List.getD x0 (Int.toNat (Int.tmod (Go.IntKind.wrap .i64 (List.getD x3 (Int.toNat x1) ((0 : Int), ((0 : Int), (0 : Int)))).1) ((List.length x0 : Nat) : Int))) (0 : Int)))) > (Go.IntKind.wrap .i64 ((List.getD x0 (Int.toNat (Int.tmod (Go.IntKind.wrap .i64 (List.getD x3 (Int.toNat x1) ((0 : Int), ((0 : Int), (0 : Int)))).1) ((List.length x0 : Nat) : Int))) (0 : Int)) - (List.getD x0 (Int.toNat (Int.tmod (Go.IntKind.wrap .i64 (List.getD x3 (Int.toNat x1) ((0 : Int), ((0 : Int), (0 : Int)))).2.1) ((List.length x0 : Nat) : Int))) (0 : Int))))) then (Go.IntKind.wrap .i64 ((List.getD x0 (Int.toNat (Int.tmod (Go.IntKind.wrap .i64 (List.getD x3 (Int.toNat x1) ((0 : Int), ((0 : Int), (0 : Int)))).2.1) ((List.length x0 : Nat) : Int))) (0 : Int)) - (List.getD x0 (Int.toNat (Int.tmod (Go.IntKind.wrap .i64 (List.getD x3 (Int.toNat x1) ((0 : Int), ((0 : Int), (0 : Int)))).1) ((List.length x0 : Nat) : Int))) (0 : Int)))) else (Go.IntKind.wrap .i64 ((List.getD x0 (Int.toNat (Int.tmod (Go.IntKind.wrap .i64 (List.getD x3 (Int.toNat x1) ((0 : Int), ((0 : Int), (0 : Int)))).1) ((List.length x0 : Nat) : Int))) (0 : Int)) - (List.getD x0 (Int.toNat (Int.tmod (Go.IntKind.wrap .i64 (List.getD x3 (Int.toNat x1) ((0 : Int), ((0 : Int), (0 : Int)))).2.1) ((List.length x0 : Nat) : Int))) (0 : Int))))) + (Int.tmod (Go.IntKind.wrap .i64 (List.getD x3 (Int.toNat x1) ((0 : Int), ((0 : Int), (0 : Int)))).2.2) (20 : Int))))))] : List (Int × (Int × Int))))) Go.Al.boundLen) = true then (go x0 (Go.IntKind.wrap .i64 (x1 + (1 : Int))) x2 x3 x4 x5 x6 x7 x8 x9 x10 (x11 ++ ([((Int.tmod (Go.IntKind.wrap .i64 (List.getD x3 (Int.toNat x1) ((0 : Int), ((0 : Int), (0 : Int)))).1) ((List.length x0 : Nat) : Int)), ((Int.tmod (Go.IntKind.wrap .i64 (List.getD x3 (Int.toNat x1) ((0 : Int), ((0 : Int), (0 : Int)))).2.1) ((List.length x0 : Nat) : Int)), (Go.IntKind.wrap .i64 ((if ((Go.IntKind.wrap .i64 ((List.getD x0 (Int.toNat (Int.tmod (Go.IntKind.wrap .i64 (List.getD x3 (Int.toNat x1) ((0 : Int), ((0 : Int), (0 : Int)))).2.1) ((List.length x0 : Nat) : Int))) (0 : Int)) - (List.getD x0 (Int.toNat (Int.tmod (Go.IntKind.wrap .i64 (List.getD x3 (Int.toNat x1) ((0 : Int), ((0 : Int), (0 : Int)))).1) ((List.length x0 : Nat) : Int))) (0 : Int)))) > (Go.IntKind.wrap .i64 ((List.getD x0 (Int.toNat (Int.tmod (Go.IntKind.wrap .i64 (List.getD x3 (Int.toNat x1) ((0 : Int), ((0 : Int), (0 : Int)))).1) ((List.length x0 : Nat) : Int))) (0 : Int)) - (List.getD x0 (Int.toNat (Int.tmod (Go.IntKind.wrap .i64 (List.getD x3 (Int.toNat x1) ((0 : Int), ((0 : Int), (0 : Int)))).2.1) ((List.length x0 : Nat) : Int))) (0 : Int))))) then (Go.IntKind.wrap .i64 ((List.getD x0 (Int.toNat (Int.tmod (Go.IntKind.wrap .i64 (List.getD x3 (Int.toNat x1) ((0 : Int), ((0 : Int), (0 : Int)))).2.1) ((List.length x0 : Nat) : Int))) (0 : Int)) - (List.getD x0 (Int.toNat (Int.tmod (Go.IntKind.wrap .i64 (List.getD x3 (Int.toNat x1) ((0 : Int), ((0 : Int), (0 : Int)))).1) ((List.length x0 : Nat) : Int))) (0 : Int)))) else (Go.IntKind.wrap .i64 ((List.getD x0 (Int.toNat (Int.tmod (Go.IntKind.wrap .i64 (List.getD x3 (Int.toNat x1) ((0 : Int), ((0 : Int), (0 : Int)))).1) ((List.length x0 : Nat) : Int))) (0 : Int)) - (List.getD x0 (Int.toNat (Int.tmod (Go.IntKind.wrap .i64 (List.getD x3 (Int.toNat x1) ((0 : Int), ((0 : Int), (0 : Int)))).2.1) ((List.length x0 : Nat) : Int))) (0 : Int))))) + (Int.tmod (Go.IntKind.wrap .i64 (List.getD x3 (Int.toNat x1) ((0 : Int), ((0 : Int), (0 : Int)))).2.2) (20 : Int))))))] : List (Int × (Int × Int)))) x12 x13) else none) else none) else none) else none) else none) else none) else none) else none) else (go x0 (Go.IntKind.wrap .i64 (x1 + (1 : Int))) x2 x3 x4 x5 x6 x7 x8 x9 x10 x11 x12 x13)) else none) else none) else none) else none) else none) else none) else (some (x0, x2, x3, x4, x5, x6, x7, x8, x9, x10, x11, x12, x13))) else (some (x0, x2, x3, x4, x5, x6, x7, x8, x9, x10, x11, x12, x13))) else (some (x0, x2, x3, x4, x5, x6, x7, x8, x9, x10, x11, x12, x13)))
noncomputable def f44l1 (N : Nat) : Nat → (List Int) → Int → Ylp → Ylp → Yls → Ylp → Yls → Ylp → Ylc → Ylg → Yls → Ylp → Ylc → Ylg → Option ((List Int) × Ylp × Ylp × Yls × Ylp × Yls × Ylp × Ylc × Ylg × Yls × Ylp × Ylc × Ylg) | 0 => fun _ _ _ _ _ _ _ _ _ _ _ _ _ _ => none | q + 1 => f44l1B N (f44l1 N q)
noncomputable def f44l1o (N : Nat) : List (Nat × Orc) := []
theorem f44l1eq (N : Nat) (go : (List Int) → Int → Ylp → Ylp → Yls → Ylp → Yls → Ylp → Ylc → Ylg → Yls → Ylp → Ylc → Ylg → Option ((List Int) × Ylp × Ylp × Yls × Ylp × Yls × Ylp × Ylc × Ylg × Yls × Ylp × Ylc × Ylg)) (x : f44l1tv.Y) : codeK Try.prog hint (callsL (f44calls N)) (orcsL (f44l1o N)) 192 f44l1c 1 (f44l1tv.enc x) (loopK f44l1tv f44l1E (fun x => go x.1 x.2.1 x.2.2.1 x.2.2.2.1 x.2.2.2.2.1 x.2.2.2.2.2.1 x.2.2.2.2.2.2.1 x.2.2.2.2.2.2.2.1 x.2.2.2.2.2.2.2.2.1 x.2.2.2.2.2.2.2.2.2.1 x.2.2.2.2.2.2.2.2.2.2.1 x.2.2.2.2.2.2.2.2.2.2.2.1 x.2.2.2.2.2.2.2.2.2.2.2.2.1 x.2.2.2.2.2.2.2.2.2.2.2.2.2)) = f44l1B N go x.1 x.2.1 x.2.2.1 x.2.2.2.1 x.2.2.2.2.1 x.2.2.2.2.2.1 x.2.2.2.2.2.2.1 x.2.2.2.2.2.2.2.1 x.2.2.2.2.2.2.2.2.1 x.2.2.2.2.2.2.2.2.2.1 x.2.2.2.2.2.2.2.2.2.2.1 x.2.2.2.2.2.2.2.2.2.2.2.1 x.2.2.2.2.2.2.2.2.2.2.2.2.1 x.2.2.2.2.2.2.2.2.2.2.2.2.2 := by kernel_rfl
theorem f44l1oOk (N : Nat) : OrcsOk Try.prog false 192 f44l1c (orcsL (f44l1o N)) := orcsL_nil
theorem f44l1ok (N : Nat) (M : Nat) : OrcOk Try.prog false 192 (.loop f44l1c) (cutOrc f44l1tv f44l1E (fun x => f44l1 N M x.1 x.2.1 x.2.2.1 x.2.2.2.1 x.2.2.2.2.1 x.2.2.2.2.2.1 x.2.2.2.2.2.2.1 x.2.2.2.2.2.2.2.1 x.2.2.2.2.2.2.2.2.1 x.2.2.2.2.2.2.2.2.2.1 x.2.2.2.2.2.2.2.2.2.2.1 x.2.2.2.2.2.2.2.2.2.2.2.1 x.2.2.2.2.2.2.2.2.2.2.2.2.1 x.2.2.2.2.2.2.2.2.2.2.2.2.2)) := loop_ok mixed eqOk (f44callsOk N) (f44l1oOk N) (fun _ => rfl) (fun q x o h => (f44l1eq N (f44l1 N q) x).trans h) M
@[reducible] noncomputable def f44l2c : Code := loopOf (codeOf (f44c) 250)
noncomputable def f44l2t : Tm := ⟨[1, 2, 4, 5, 12], [(.box 1), (.box 2), (.box 4)], [.one (.ptr (.box 1) 0 4), .one (.ptr (.box 2) 0 4), .one (.ptr (.box 4) 0 4), .one (.own 1000000 (.int .i64)), .one (.v (.int .i64)), .agg [.v T8, .v T8, .v (.list T7), .v T8], .agg [.own 1000001 T0, .own 1000002 (.pair (.int .i64) T0), .own 1000003 (.pair (.int .i64) T2), .own 1000004 T4], .agg [.own 1000005 T0, .own 1000006 (.pair (.int .i64) T0), .own 1000007 (.pair (.int .i64) T2), .own 1000008 T4]]⟩
noncomputable def f44l2tv : Vw f44l2t := { Y := (List Int) × Int × Ylp × Ylp × Yls × Ylp × Yls × Ylp × Ylc × Ylg × Yls × Ylp × Ylc × Ylg, fromT := fun t => (t.2.2.2.1, t.2.2.2.2.1, t.2.2.2.2.2.1.1, t.2.2.2.2.2.1.2.1, t.2.2.2.2.2.1.2.2.1, t.2.2.2.2.2.1.2.2.2.1, t.2.2.2.2.2.2.1.1, t.2.2.2.2.2.2.1.2.1, t.2.2.2.2.2.2.1.2.2.1, t.2.2.2.2.2.2.1.2.2.2.1, t.2.2.2.2.2.2.2.1.1, t.2.2.2.2.2.2.2.1.2.1, t.2.2.2.2.2.2.2.1.2.2.1, t.2.2.2.2.2.2.2.1.2.2.2.1), outT := fun y => ((), (), (), y.1, y.2.1, (y.2.2.1, y.2.2.2.1, y.2.2.2.2.1, y.2.2.2.2.2.1, ()), (y.2.2.2.2.2.2.1, y.2.2.2.2.2.2.2.1, y.2.2.2.2.2.2.2.2.1, y.2.2.2.2.2.2.2.2.2.1, ()), (y.2.2.2.2.2.2.2.2.2.2.1, y.2.2.2.2.2.2.2.2.2.2.2.1, y.2.2.2.2.2.2.2.2.2.2.2.2.1, y.2.2.2.2.2.2.2.2.2.2.2.2.2, ()), ()), inv := fun _ => rfl }
noncomputable def f44l2e0 : Tm := ⟨[1, 2, 4, 5], [(.box 1), (.box 2), (.box 4)], [.one (.ptr (.box 1) 0 4), .one (.ptr (.box 2) 0 4), .one (.ptr (.box 4) 0 4), .one (.own 1000000 (.int .i64)), .agg [.v T8, .v T8, .v (.list T7), .v T8], .agg [.own 1000001 T0, .own 1000002 (.pair (.int .i64) T0), .own 1000003 (.pair (.int .i64) T2), .own 1000004 T4], .agg [.own 1000005 T0, .own 1000006 (.pair (.int .i64) T0), .own 1000007 (.pair (.int .i64) T2), .own 1000008 T4]]⟩
noncomputable def f44l2e0v : Vw f44l2e0 := { Y := (List Int) × Ylp × Ylp × Yls × Ylp × Yls × Ylp × Ylc × Ylg × Yls × Ylp × Ylc × Ylg, fromT := fun t => (t.2.2.2.1, t.2.2.2.2.1.1, t.2.2.2.2.1.2.1, t.2.2.2.2.1.2.2.1, t.2.2.2.2.1.2.2.2.1, t.2.2.2.2.2.1.1, t.2.2.2.2.2.1.2.1, t.2.2.2.2.2.1.2.2.1, t.2.2.2.2.2.1.2.2.2.1, t.2.2.2.2.2.2.1.1, t.2.2.2.2.2.2.1.2.1, t.2.2.2.2.2.2.1.2.2.1, t.2.2.2.2.2.2.1.2.2.2.1), outT := fun y => ((), (), (), y.1, (y.2.1, y.2.2.1, y.2.2.2.1, y.2.2.2.2.1, ()), (y.2.2.2.2.2.1, y.2.2.2.2.2.2.1, y.2.2.2.2.2.2.2.1, y.2.2.2.2.2.2.2.2.1, ()), (y.2.2.2.2.2.2.2.2.2.1, y.2.2.2.2.2.2.2.2.2.2.1, y.2.2.2.2.2.2.2.2.2.2.2.1, y.2.2.2.2.2.2.2.2.2.2.2.2, ()), ()), inv := fun _ => rfl }
@[reducible] noncomputable def f44l2E : List Ex := [⟨(.ext 4), f44l2e0, f44l2e0v⟩]
noncomputable def f44l2B (N : Nat) (go : (List Int) → Int → Ylp → Ylp → Yls → Ylp → Yls → Ylp → Ylc → Ylg → Yls → Ylp → Ylc → Ylg → Option ((List Int) × Ylp × Ylp × Yls × Ylp × Yls × Ylp × Ylc × Ylg × Yls × Ylp × Ylc × Ylg)) (x0 : (List Int)) (x1 : Int) (x2 : Ylp) (x3 : Ylp) (x4 : Yls) (x5 : Ylp) (x6 : Yls) (x7 : Ylp) (x8 : Ylc) (x9 : Ylg) (x10 : Yls) (x11 : Ylp) (x12 : Ylc) (x13 : Ylg) : Option ((List Int) × Ylp × Ylp × Yls × Ylp × Yls × Ylp × Ylc × Ylg × Yls × Ylp × Ylc × Ylg) := (if (decide (x1 < ((List.length x4 : Nat) : Int))) = true then (if (decide (x1 < (5 : Int))) = true then (if ((decide ((0 : Int) ≤ x1)) && (decide (x1 < ((List.length x4 : Nat) : Int)))) = true then (andThen (f50 N x10 x11 x12 x13 x0 (List.getD x4 (Int.toNat x1) ((0 : Int), (0 : Int))).1 (List.getD x4 (Int.toNat x1) ((0 : Int), (0 : Int))).2) fun y7 => (if (Nat.ble ((List.length x12) + (List.length ([(y7.1, (y7.2.1, y7.2.2))] : List (Int × (Int × Bool))))) Go.Al.boundLen) = true then (go x0 (Go.IntKind.wrap .i64 (x1 + (1 : Int))) x2 x3 x4 x5 x6 x7 x8 x9 x10 x11 (x12 ++ ([(y7.1, (y7.2.1, y7.2.2))] : List (Int × (Int × Bool)))) x13) else none)) else none) else (some (x0, x2, x3, x4, x5, x6, x7, x8, x9, x10, x11, x12, x13))) else (some (x0, x2, x3, x4, x5, x6, x7, x8, x9, x10, x11, x12, x13)))
noncomputable def f44l2 (N : Nat) : Nat → (List Int) → Int → Ylp → Ylp → Yls → Ylp → Yls → Ylp → Ylc → Ylg → Yls → Ylp → Ylc → Ylg → Option ((List Int) × Ylp × Ylp × Yls × Ylp × Yls × Ylp × Ylc × Ylg × Yls × Ylp × Ylc × Ylg) | 0 => fun _ _ _ _ _ _ _ _ _ _ _ _ _ _ => none | q + 1 => f44l2B N (f44l2 N q)
noncomputable def f44l2o (N : Nat) : List (Nat × Orc) := []
theorem f44l2eq (N : Nat) (go : (List Int) → Int → Ylp → Ylp → Yls → Ylp → Yls → Ylp → Ylc → Ylg → Yls → Ylp → Ylc → Ylg → Option ((List Int) × Ylp × Ylp × Yls × Ylp × Yls × Ylp × Ylc × Ylg × Yls × Ylp × Ylc × Ylg)) (x : f44l2tv.Y) : codeK Try.prog hint (callsL (f44calls N)) (orcsL (f44l2o N)) 192 f44l2c 1 (f44l2tv.enc x) (loopK f44l2tv f44l2E (fun x => go x.1 x.2.1 x.2.2.1 x.2.2.2.1 x.2.2.2.2.1 x.2.2.2.2.2.1 x.2.2.2.2.2.2.1 x.2.2.2.2.2.2.2.1 x.2.2.2.2.2.2.2.2.1 x.2.2.2.2.2.2.2.2.2.1 x.2.2.2.2.2.2.2.2.2.2.1 x.2.2.2.2.2.2.2.2.2.2.2.1 x.2.2.2.2.2.2.2.2.2.2.2.2.1 x.2.2.2.2.2.2.2.2.2.2.2.2.2)) = f44l2B N go x.1 x.2.1 x.2.2.1 x.2.2.2.1 x.2.2.2.2.1 x.2.2.2.2.2.1 x.2.2.2.2.2.2.1 x.2.2.2.2.2.2.2.1 x.2.2.2.2.2.2.2.2.1 x.2.2.2.2.2.2.2.2.2.1 x.2.2.2.2.2.2.2.2.2.2.1 x.2.2.2.2.2.2.2.2.2.2.2.1 x.2.2.2.2.2.2.2.2.2.2.2.2.1 x.2.2.2.2.2.2.2.2.2.2.2.2.2 := by kernel_rfl
theorem f44l2oOk (N : Nat) : OrcsOk Try.prog false 192 f44l2c (orcsL (f44l2o N)) := orcsL_nil
theorem f44l2ok (N : Nat) (M : Nat) : OrcOk Try.prog false 192 (.loop f44l2c) (cutOrc f44l2tv f44l2E (fun x => f44l2 N M x.1 x.2.1 x.2.2.1 x.2.2.2.1 x.2.2.2.2.1 x.2.2.2.2.2.1 x.2.2.2.2.2.2.1 x.2.2.2.2.2.2.2.1 x.2.2.2.2.2.2.2.2.1 x.2.2.2.2.2.2.2.2.2.1 x.2.2.2.2.2.2.2.2.2.2.1 x.2.2.2.2.2.2.2.2.2.2.2.1 x.2.2.2.2.2.2.2.2.2.2.2.2.1 x.2.2.2.2.2.2.2.2.2.2.2.2.2)) := loop_ok mixed eqOk (f44callsOk N) (f44l2oOk N) (fun _ => rfl) (fun q x o h => (f44l2eq N (f44l2 N q) x).trans h) M
@[reducible] noncomputable def f44l3c : Code := loopOf (codeOf (f44c) 506)
noncomputable def f44l3t : Tm := ⟨[1, 2, 4, 5, 13], [(.box 1), (.box 2), (.box 4)], [.one (.ptr (.box 1) 0 4), .one (.ptr (.box 2) 0 4), .one (.ptr (.box 4) 0 4), .one (.own 1000000 (.int .i64)), .one (.v (.int .i64)), .agg [.v T8, .v T8, .v (.list T7), .v T8], .agg [.own 1000001 T0, .own 1000002 (.pair (.int .i64) T0), .own 1000003 (.pair (.int .i64) T2), .own 1000004 T4], .agg [.own 1000005 T0, .own 1000006 (.pair (.int .i64) T0), .own 1000007 (.pair (.int .i64) T2), .own 1000008 T4]]⟩
noncomputable def f44l3tv : Vw f44l3t := { Y := (List Int) × Int × Ylp × Ylp × Yls × Ylp × Yls × Ylp × Ylc × Ylg × Yls × Ylp × Ylc × Ylg, fromT := fun t => (t.2.2.2.1, t.2.2.2.2.1, t.2.2.2.2.2.1.1, t.2.2.2.2.2.1.2.1, t.2.2.2.2.2.1.2.2.1, t.2.2.2.2.2.1.2.2.2.1, t.2.2.2.2.2.2.1.1, t.2.2.2.2.2.2.1.2.1, t.2.2.2.2.2.2.1.2.2.1, t.2.2.2.2.2.2.1.2.2.2.1, t.2.2.2.2.2.2.2.1.1, t.2.2.2.2.2.2.2.1.2.1, t.2.2.2.2.2.2.2.1.2.2.1, t.2.2.2.2.2.2.2.1.2.2.2.1), outT := fun y => ((), (), (), y.1, y.2.1, (y.2.2.1, y.2.2.2.1, y.2.2.2.2.1, y.2.2.2.2.2.1, ()), (y.2.2.2.2.2.2.1, y.2.2.2.2.2.2.2.1, y.2.2.2.2.2.2.2.2.1, y.2.2.2.2.2.2.2.2.2.1, ()), (y.2.2.2.2.2.2.2.2.2.2.1, y.2.2.2.2.2.2.2.2.2.2.2.1, y.2.2.2.2.2.2.2.2.2.2.2.2.1, y.2.2.2.2.2.2.2.2.2.2.2.2.2, ()), ()), inv := fun _ => rfl }
noncomputable def f44l3e0 : Tm := ⟨[2, 4, 5], [(.box 2), (.box 4)], [.one (.ptr (.box 2) 0 4), .one (.ptr (.box 4) 0 4), .one (.own 1000000 (.int .i64)), .agg [.own 1000001 T0, .own 1000002 (.pair (.int .i64) T0), .own 1000003 (.pair (.int .i64) T2), .own 1000004 T4], .agg [.own 1000005 T0, .own 1000006 (.pair (.int .i64) T0), .own 1000007 (.pair (.int .i64) T2), .own 1000008 T4]]⟩
noncomputable def f44l3e0v : Vw f44l3e0 := { Y := (List Int) × Yls × Ylp × Ylc × Ylg × Yls × Ylp × Ylc × Ylg, fromT := fun t => (t.2.2.1, t.2.2.2.1.1, t.2.2.2.1.2.1, t.2.2.2.1.2.2.1, t.2.2.2.1.2.2.2.1, t.2.2.2.2.1.1, t.2.2.2.2.1.2.1, t.2.2.2.2.1.2.2.1, t.2.2.2.2.1.2.2.2.1), outT := fun y => ((), (), y.1, (y.2.1, y.2.2.1, y.2.2.2.1, y.2.2.2.2.1, ()), (y.2.2.2.2.2.1, y.2.2.2.2.2.2.1, y.2.2.2.2.2.2.2.1, y.2.2.2.2.2.2.2.2, ()), ()), inv := fun _ => rfl }
@[reducible] noncomputable def f44l3E : List Ex := [⟨(.ext 6), f44l3e0, f44l3e0v⟩]
noncomputable def f44l3B (N : Nat) (go : (List Int) → Int → Ylp → Ylp → Yls → Ylp → Yls → Ylp → Ylc → Ylg → Yls → Ylp → Ylc → Ylg → Option ((List Int) × Yls × Ylp × Ylc × Ylg × Yls × Ylp × Ylc × Ylg)) (x0 : (List Int)) (x1 : Int) (x2 : Ylp) (x3 : Ylp) (x4 : Yls) (x5 : Ylp) (x6 : Yls) (x7 : Ylp) (x8 : Ylc) (x9 : Ylg) (x10 : Yls) (x11 : Ylp) (x12 : Ylc) (x13 : Ylg) : Option ((List Int) × Yls × Ylp × Ylc × Ylg × Yls × Ylp × Ylc × Ylg) := (if (decide (x1 < ((List.length x5 : Nat) : Int))) = true then (if (decide (x1 < (3 : Int))) = true then (if ((decide ((0 : Int) ≤ x1)) && (decide (x1 < ((List.length x5 : Nat) : Int)))) = true then (andThen (f51 N x0 (List.getD x5 (Int.toNat x1) ((0 : Int), ((0 : Int), (0 : Int)))).1 (List.getD x5 (Int.toNat x1) ((0 : Int), ((0 : Int), (0 : Int)))).2.1 (List.getD x5 (Int.toNat x1) ((0 : Int), ((0 : Int), (0 : Int)))).2.2) fun y9 => (if (Nat.ble ((List.length x13) + (List.length ([(y9.1, ((y9.2.1, y9.2.2.1), y9.2.2.2))] : List (Int × ((Int × Int) × Int))))) Go.Al.boundLen) = true then (go x0 (Go.IntKind.wrap .i64 (x1 + (1 : Int))) x2 x3 x4 x5 x6 x7 x8 x9 x10 x11 x12 (x13 ++ ([(y9.1, ((y9.2.1, y9.2.2.1), y9.2.2.2))] : List (Int × ((Int × Int) × Int))))) else none)) else none) else (some (x0, x6, x7, x8, x9, x10, x11, x12, x13))) else (some (x0, x6, x7, x8, x9, x10, x11, x12, x13)))
noncomputable def f44l3 (N : Nat) : Nat → (List Int) → Int → Ylp → Ylp → Yls → Ylp → Yls → Ylp → Ylc → Ylg → Yls → Ylp → Ylc → Ylg → Option ((List Int) × Yls × Ylp × Ylc × Ylg × Yls × Ylp × Ylc × Ylg) | 0 => fun _ _ _ _ _ _ _ _ _ _ _ _ _ _ => none | q + 1 => f44l3B N (f44l3 N q)
noncomputable def f44l3o (N : Nat) : List (Nat × Orc) := []
theorem f44l3eq (N : Nat) (go : (List Int) → Int → Ylp → Ylp → Yls → Ylp → Yls → Ylp → Ylc → Ylg → Yls → Ylp → Ylc → Ylg → Option ((List Int) × Yls × Ylp × Ylc × Ylg × Yls × Ylp × Ylc × Ylg)) (x : f44l3tv.Y) : codeK Try.prog hint (callsL (f44calls N)) (orcsL (f44l3o N)) 192 f44l3c 1 (f44l3tv.enc x) (loopK f44l3tv f44l3E (fun x => go x.1 x.2.1 x.2.2.1 x.2.2.2.1 x.2.2.2.2.1 x.2.2.2.2.2.1 x.2.2.2.2.2.2.1 x.2.2.2.2.2.2.2.1 x.2.2.2.2.2.2.2.2.1 x.2.2.2.2.2.2.2.2.2.1 x.2.2.2.2.2.2.2.2.2.2.1 x.2.2.2.2.2.2.2.2.2.2.2.1 x.2.2.2.2.2.2.2.2.2.2.2.2.1 x.2.2.2.2.2.2.2.2.2.2.2.2.2)) = f44l3B N go x.1 x.2.1 x.2.2.1 x.2.2.2.1 x.2.2.2.2.1 x.2.2.2.2.2.1 x.2.2.2.2.2.2.1 x.2.2.2.2.2.2.2.1 x.2.2.2.2.2.2.2.2.1 x.2.2.2.2.2.2.2.2.2.1 x.2.2.2.2.2.2.2.2.2.2.1 x.2.2.2.2.2.2.2.2.2.2.2.1 x.2.2.2.2.2.2.2.2.2.2.2.2.1 x.2.2.2.2.2.2.2.2.2.2.2.2.2 := by kernel_rfl
theorem f44l3oOk (N : Nat) : OrcsOk Try.prog false 192 f44l3c (orcsL (f44l3o N)) := orcsL_nil
theorem f44l3ok (N : Nat) (M : Nat) : OrcOk Try.prog false 192 (.loop f44l3c) (cutOrc f44l3tv f44l3E (fun x => f44l3 N M x.1 x.2.1 x.2.2.1 x.2.2.2.1 x.2.2.2.2.1 x.2.2.2.2.2.1 x.2.2.2.2.2.2.1 x.2.2.2.2.2.2.2.1 x.2.2.2.2.2.2.2.2.1 x.2.2.2.2.2.2.2.2.2.1 x.2.2.2.2.2.2.2.2.2.2.1 x.2.2.2.2.2.2.2.2.2.2.2.1 x.2.2.2.2.2.2.2.2.2.2.2.2.1 x.2.2.2.2.2.2.2.2.2.2.2.2.2)) := loop_ok mixed eqOk (f44callsOk N) (f44l3oOk N) (fun _ => rfl) (fun q x o h => (f44l3eq N (f44l3 N q) x).trans h) M
noncomputable def f44 (N : Nat) (x0 : Ylp) (x1 : Ylp) (x2 : Yls) (x3 : Ylp) : Option (Yls × Ylp × Ylc × Ylg × (List Int)) := (andThen (f44l0 N N ([] : List Int) (0 : Int) x0 x1 x2 x3 ([] : List (Int × Int)) ([] : List (Int × (Int × Int))) ([] : List (Int × (Int × Bool))) ([] : List (Int × ((Int × Int) × Int))) ([] : List (Int × Int)) ([] : List (Int × (Int × Int))) ([] : List (Int × (Int × Bool))) ([] : List (Int × ((Int × Int) × Int)))) fun y5 => (andThen (f44l1 N N y5.1 (0 : Int) y5.2.1 y5.2.2.1 y5.2.2.2.1 y5.2.2.2.2.1 y5.2.2.2.2.2.1 y5.2.2.2.2.2.2.1 y5.2.2.2.2.2.2.2.1 y5.2.2.2.2.2.2.2.2.1 y5.2.2.2.2.2.2.2.2.2.1 y5.2.2.2.2.2.2.2.2.2.2.1 y5.2.2.2.2.2.2.2.2.2.2.2.1 y5.2.2.2.2.2.2.2.2.2.2.2.2) fun y6 => (andThen (f44l2 N N y6.1 (0 : Int) y6.2.1 y6.2.2.1 y6.2.2.2.1 y6.2.2.2.2.1 y6.2.2.2.2.2.1 y6.2.2.2.2.2.2.1 y6.2.2.2.2.2.2.2.1 y6.2.2.2.2.2.2.2.2.1 y6.2.2.2.2.2.2.2.2.2.1 y6.2.2.2.2.2.2.2.2.2.2.1 y6.2.2.2.2.2.2.2.2.2.2.2.1 y6.2.2.2.2.2.2.2.2.2.2.2.2) fun y8 => (andThen (f44l3 N N y8.1 (0 : Int) y8.2.1 y8.2.2.1 y8.2.2.2.1 y8.2.2.2.2.1 y8.2.2.2.2.2.1 y8.2.2.2.2.2.2.1 y8.2.2.2.2.2.2.2.1 y8.2.2.2.2.2.2.2.2.1 y8.2.2.2.2.2.2.2.2.2.1 y8.2.2.2.2.2.2.2.2.2.2.1 y8.2.2.2.2.2.2.2.2.2.2.2.1 y8.2.2.2.2.2.2.2.2.2.2.2.2) fun y10 => (some (y10.2.2.2.2.2.1, y10.2.2.2.2.2.2.1, y10.2.2.2.2.2.2.2.1, y10.2.2.2.2.2.2.2.2, y10.1))))))
noncomputable def f44orc (N : Nat) : List (Nat × Orc) := [(58, cutOrc f44l0tv f44l0E (fun x => f44l0 N N x.1 x.2.1 x.2.2.1 x.2.2.2.1 x.2.2.2.2.1 x.2.2.2.2.2.1 x.2.2.2.2.2.2.1 x.2.2.2.2.2.2.2.1 x.2.2.2.2.2.2.2.2.1 x.2.2.2.2.2.2.2.2.2.1 x.2.2.2.2.2.2.2.2.2.2.1 x.2.2.2.2.2.2.2.2.2.2.2.1 x.2.2.2.2.2.2.2.2.2.2.2.2.1 x.2.2.2.2.2.2.2.2.2.2.2.2.2)), (122, cutOrc f44l1tv f44l1E (fun x => f44l1 N N x.1 x.2.1 x.2.2.1 x.2.2.2.1 x.2.2.2.2.1 x.2.2.2.2.2.1 x.2.2.2.2.2.2.1 x.2.2.2.2.2.2.2.1 x.2.2.2.2.2.2.2.2.1 x.2.2.2.2.2.2.2.2.2.1 x.2.2.2.2.2.2.2.2.2.2.1 x.2.2.2.2.2.2.2.2.2.2.2.1 x.2.2.2.2.2.2.2.2.2.2.2.2.1 x.2.2.2.2.2.2.2.2.2.2.2.2.2)), (250, cutOrc f44l2tv f44l2E (fun x => f44l2 N N x.1 x.2.1 x.2.2.1 x.2.2.2.1 x.2.2.2.2.1 x.2.2.2.2.2.1 x.2.2.2.2.2.2.1 x.2.2.2.2.2.2.2.1 x.2.2.2.2.2.2.2.2.1 x.2.2.2.2.2.2.2.2.2.1 x.2.2.2.2.2.2.2.2.2.2.1 x.2.2.2.2.2.2.2.2.2.2.2.1 x.2.2.2.2.2.2.2.2.2.2.2.2.1 x.2.2.2.2.2.2.2.2.2.2.2.2.2)), (506, cutOrc f44l3tv f44l3E (fun x => f44l3 N N x.1 x.2.1 x.2.2.1 x.2.2.2.1 x.2.2.2.2.1 x.2.2.2.2.2.1 x.2.2.2.2.2.2.1 x.2.2.2.2.2.2.2.1 x.2.2.2.2.2.2.2.2.1 x.2.2.2.2.2.2.2.2.2.1 x.2.2.2.2.2.2.2.2.2.2.1 x.2.2.2.2.2.2.2.2.2.2.2.1 x.2.2.2.2.2.2.2.2.2.2.2.2.1 x.2.2.2.2.2.2.2.2.2.2.2.2.2))]
theorem f44eq (N : Nat) (x : f44iv.Y) : codeK Try.prog hint (callsL (f44calls N)) (orcsL (f44orc N)) 192 f44c 1 (f44iv.enc x) (fnKv Try.prog [.cell 2 27, .tmp 3] f44ov) = f44 N x.1 x.2.1 x.2.2.1 x.2.2.2 := by kernel_rfl
theorem f44orcOk (N : Nat) : OrcsOk Try.prog false 192 f44c (orcsL (f44orc N)) := (orcsL_cons (c := .loop f44l0c) (by kernel_rfl) (f44l0ok N N) (orcsL_cons (c := .loop f44l1c) (by kernel_rfl) (f44l1ok N N) (orcsL_cons (c := .loop f44l2c) (by kernel_rfl) (f44l2ok N N) (orcsL_cons (c := .loop f44l3c) (by kernel_rfl) (f44l3ok N N) orcsL_nil))))
noncomputable def f44call (N : Nat) : CallS := callOf 192 f44iv f44ov (fun x => f44 N x.1 x.2.1 x.2.2.1 x.2.2.2)
theorem f44ok (N : Nat) : CallOk Try.prog 44 (f44call N) := fn_ok (g := 44) (fn := Try.f44) (body := f44c) (n := 192) (rs := [.cell 2 27, .tmp 3]) mixed eqOk (f44callsOk N) (by kernel_rfl) (by kernel_rfl) (by kernel_rfl) (by kernel_rfl) (f44orcOk N) (by kernel_rfl) (Vi := f44iv) (Vo := f44ov) (F := fun x => f44 N x.1 x.2.1 x.2.2.1 x.2.2.2) (fun x y h => (f44eq N x).trans h)
end Go.Proofs

namespace Go.Proofs
open Go.Al
/-! 45 smalto/smaltolaw02.own -/
noncomputable def f45i : Tm := ⟨[0], [], [.agg [.v (.list T0), .v T1, .v T3, .v (.list T4)]]⟩
noncomputable def f45iv : Vw f45i := { Y := Yls × Ylp × Ylc × Ylg, fromT := fun t => (t.1.1, t.1.2.1, t.1.2.2.1, t.1.2.2.2.1), outT := fun y => ((y.1, y.2.1, y.2.2.1, y.2.2.2, ()), ()), inv := fun _ => rfl }
noncomputable def f45o : Tm := ⟨[0], [], [.agg [.own 4096 T0, .own 4097 (.pair (.int .i64) T0), .own 4098 (.pair (.int .i64) T2), .own 4099 T4]]⟩
noncomputable def f45ov : Vw f45o := { Y := Yls × Ylp × Ylc × Ylg, fromT := fun t => (t.1.1, t.1.2.1, t.1.2.2.1, t.1.2.2.2.1), outT := fun y => ((y.1, y.2.1, y.2.2.1, y.2.2.2, ()), ()), inv := fun _ => rfl }
@[reducible] noncomputable def f45c : Code := bodyOf Try.f45
noncomputable def f45calls (N : Nat) : List (Nat × CallS) := []
theorem f45callsOk (N : Nat) : CallsOk Try.prog (callsL (f45calls N)) := callsL_nil
noncomputable def f45 (N : Nat) (x0 : Yls) (x1 : Ylp) (x2 : Ylc) (x3 : Ylg) : Option (Yls × Ylp × Ylc × Ylg) := (if (Nat.ble ((List.length ([] : List (Int × Int))) + (List.length x0)) Go.Al.boundLen) = true then (if (Nat.ble ((List.length ([] : List (Int × (Int × Int)))) + (List.length x1)) Go.Al.boundLen) = true then (if (Nat.ble ((List.length ([] : List (Int × (Int × Bool)))) + (List.length x2)) Go.Al.boundLen) = true then (if (Nat.ble ((List.length ([] : List (Int × ((Int × Int) × Int)))) + (List.length x3)) Go.Al.boundLen) = true then (some ((([] : List (Int × Int)) ++ x0), (([] : List (Int × (Int × Int))) ++ x1), (([] : List (Int × (Int × Bool))) ++ x2), (([] : List (Int × ((Int × Int) × Int))) ++ x3))) else none) else none) else none) else none)
noncomputable def f45orc (N : Nat) : List (Nat × Orc) := []
theorem f45eq (N : Nat) (x : f45iv.Y) : codeK Try.prog hint (callsL (f45calls N)) (orcsL (f45orc N)) 24 f45c 1 (f45iv.enc x) (fnKv Try.prog [.cell 2 27] f45ov) = f45 N x.1 x.2.1 x.2.2.1 x.2.2.2 := by kernel_rfl
theorem f45orcOk (N : Nat) : OrcsOk Try.prog false 24 f45c (orcsL (f45orc N)) := orcsL_nil
noncomputable def f45call (N : Nat) : CallS := callOf 24 f45iv f45ov (fun x => f45 N x.1 x.2.1 x.2.2.1 x.2.2.2)
theorem f45ok (N : Nat) : CallOk Try.prog 45 (f45call N) := fn_ok (g := 45) (fn := Try.f45) (body := f45c) (n := 24) (rs := [.cell 2 27]) mixed eqOk (f45callsOk N) (by kernel_rfl) (by kernel_rfl) (by kernel_rfl) (by kernel_rfl) (f45orcOk N) (by kernel_rfl) (Vi := f45iv) (Vo := f45ov) (F := fun x => f45 N x.1 x.2.1 x.2.2.1 x.2.2.2) (fun x y h => (f45eq N x).trans h)
end Go.Proofs

namespace Go.Proofs
open Go.Al
/-! 49 smalto/smaltolaw02.has -/
noncomputable def f49i : Tm := ⟨[0, 1], [], [.one (.v (.list (.int .i64))), .one (.v (.int .i64))]⟩
noncomputable def f49iv : Vw f49i := { Y := (List Int) × Int, fromT := fun t => (t.1, t.2.1), outT := fun y => (y.1, y.2, ()), inv := fun _ => rfl }
noncomputable def f49o : Tm := ⟨[0], [], [.one (.v .bool)]⟩
noncomputable def f49ov : Vw f49o := { Y := Bool, fromT := fun t => t.1, outT := fun y => (y, ()), inv := fun _ => rfl }
@[reducible] noncomputable def f49c : Code := bodyOf Try.f49
noncomputable def f49calls (N : Nat) : List (Nat × CallS) := []
theorem f49callsOk (N : Nat) : CallsOk Try.prog (callsL (f49calls N)) := callsL_nil
@[reducible] noncomputable def f49l0c : Code := loopOf (codeOf (f49c) 26)
noncomputable def f49l0t : Tm := ⟨[0, 1, 5], [], [.one (.v (.list (.int .i64))), .one (.v (.int .i64)), .one (.v (.int .i64))]⟩
noncomputable def f49l0tv : Vw f49l0t := { Y := (List Int) × Int × Int, fromT := fun t => (t.1, t.2.1, t.2.2.1), outT := fun y => (y.1, y.2.1, y.2.2, ()), inv := fun _ => rfl }
noncomputable def f49l0e0 : Tm := ⟨[4], [], [.one (.v .bool)]⟩
noncomputable def f49l0e0v : Vw f49l0e0 := { Y := Bool, fromT := fun t => t.1, outT := fun y => (y, ()), inv := fun _ => rfl }
noncomputable def f49l0e1 : Tm := ⟨[], [], []⟩
noncomputable def f49l0e1v : Vw f49l0e1 := { Y := Unit, fromT := fun _ => (), outT := fun _ => (), inv := fun _ => rfl }
@[reducible] noncomputable def f49l0E : List Ex := [⟨.ret, f49l0e0, f49l0e0v⟩, ⟨(.ext 0), f49l0e1, f49l0e1v⟩]
noncomputable def f49l0B (N : Nat) (go : (List Int) → Int → Int → Option (((Bool) ⊕ Unit))) (x0 : (List Int)) (x1 : Int) (x2 : Int) : Option (((Bool) ⊕ Unit)) := (if (decide (x2 < ((List.length x0 : Nat) : Int))) = true then (if ((decide ((0 : Int) ≤ x2)) && (decide (x2 < ((List.length x0 : Nat) : Int)))) = true then (if ((List.getD x0 (Int.toNat x2) (0 : Int)) == x1) = true then (some (Sum.inl true)) else (go x0 x1 (Go.IntKind.wrap .i64 (x2 + (1 : Int))))) else none) else (some (Sum.inr ())))
noncomputable def f49l0 (N : Nat) : Nat → (List Int) → Int → Int → Option (((Bool) ⊕ Unit)) | 0 => fun _ _ _ => none | q + 1 => f49l0B N (f49l0 N q)
noncomputable def f49l0o (N : Nat) : List (Nat × Orc) := []
theorem f49l0eq (N : Nat) (go : (List Int) → Int → Int → Option (((Bool) ⊕ Unit))) (x : f49l0tv.Y) : codeK Try.prog hint (callsL (f49calls N)) (orcsL (f49l0o N)) 18 f49l0c 1 (f49l0tv.enc x) (loopK f49l0tv f49l0E (fun x => go x.1 x.2.1 x.2.2)) = f49l0B N go x.1 x.2.1 x.2.2 := by kernel_rfl
theorem f49l0oOk (N : Nat) : OrcsOk Try.prog false 18 f49l0c (orcsL (f49l0o N)) := orcsL_nil
theorem f49l0ok (N : Nat) (M : Nat) : OrcOk Try.prog false 18 (.loop f49l0c) (cutOrc f49l0tv f49l0E (fun x => f49l0 N M x.1 x.2.1 x.2.2)) := loop_ok mixed eqOk (f49callsOk N) (f49l0oOk N) (fun _ => rfl) (fun q x o h => (f49l0eq N (f49l0 N q) x).trans h) M
noncomputable def f49 (N : Nat) (x0 : (List Int)) (x1 : Int) : Option (Bool) := (andThen (f49l0 N N x0 x1 (0 : Int)) fun y1 => (either y1 (fun a2 => (some a2)) (fun b3 => (some false))))
noncomputable def f49orc (N : Nat) : List (Nat × Orc) := [(26, cutOrc f49l0tv f49l0E (fun x => f49l0 N N x.1 x.2.1 x.2.2))]
theorem f49eq (N : Nat) (x : f49iv.Y) : codeK Try.prog hint (callsL (f49calls N)) (orcsL (f49orc N)) 18 f49c 1 (f49iv.enc x) (fnKv Try.prog [.tmp 4] f49ov) = f49 N x.1 x.2 := by kernel_rfl
theorem f49orcOk (N : Nat) : OrcsOk Try.prog false 18 f49c (orcsL (f49orc N)) := (orcsL_cons (c := .loop f49l0c) (by kernel_rfl) (f49l0ok N N) orcsL_nil)
noncomputable def f49call (N : Nat) : CallS := callOf 18 f49iv f49ov (fun x => f49 N x.1 x.2)
theorem f49ok (N : Nat) : CallOk Try.prog 49 (f49call N) := fn_ok (g := 49) (fn := Try.f49) (body := f49c) (n := 18) (rs := [.tmp 4]) mixed eqOk (f49callsOk N) (by kernel_rfl) (by kernel_rfl) (by kernel_rfl) (by kernel_rfl) (f49orcOk N) (by kernel_rfl) (Vi := f49iv) (Vo := f49ov) (F := fun x => f49 N x.1 x.2) (fun x y h => (f49eq N x).trans h)
end Go.Proofs

namespace Go.Proofs
open Go.Al
/-! 76 smalto/furnace.good -/
noncomputable def f76i : Tm := ⟨[0, 1], [], [.agg [.v (.int .i64), .v (.int .i64)], .agg [.v (.int .i64), .v (.int .i64)]]⟩
noncomputable def f76iv : Vw f76i := { Y := Int × Int × Int × Int, fromT := fun t => (t.1.1, t.1.2.1, t.2.1.1, t.2.1.2.1), outT := fun y => ((y.1, y.2.1, ()), (y.2.2.1, y.2.2.2, ()), ()), inv := fun _ => rfl }
noncomputable def f76o : Tm := ⟨[0, 1], [], [.one (.v .bool), .one (.v .bool)]⟩
noncomputable def f76ov : Vw f76o := { Y := Bool × Bool, fromT := fun t => (t.1, t.2.1), outT := fun y => (y.1, y.2, ()), inv := fun _ => rfl }
@[reducible] noncomputable def f76c : Code := bodyOf Try.f76
noncomputable def f76calls (N : Nat) : List (Nat × CallS) := []
theorem f76callsOk (N : Nat) : CallsOk Try.prog (callsL (f76calls N)) := callsL_nil
noncomputable def f76 (N : Nat) (x0 : Int) (x1 : Int) (x2 : Int) (x3 : Int) : Option (Bool × Bool) := (if (decide (x2 ≥ x0)) = true then (if (decide (x3 ≥ x0)) = true then (some ((decide (x3 < x1)), (decide (x2 < x1)))) else (some ((decide (x3 < x1)), false))) else (if (decide (x3 ≥ x0)) = true then (some (false, (decide (x2 < x1)))) else (some (false, false))))
noncomputable def f76orc (N : Nat) : List (Nat × Orc) := []
theorem f76eq (N : Nat) (x : f76iv.Y) : codeK Try.prog hint (callsL (f76calls N)) (orcsL (f76orc N)) 30 f76c 1 (f76iv.enc x) (fnKv Try.prog [.tmp 4, .tmp 5] f76ov) = f76 N x.1 x.2.1 x.2.2.1 x.2.2.2 := by kernel_rfl
theorem f76orcOk (N : Nat) : OrcsOk Try.prog false 30 f76c (orcsL (f76orc N)) := orcsL_nil
noncomputable def f76call (N : Nat) : CallS := callOf 30 f76iv f76ov (fun x => f76 N x.1 x.2.1 x.2.2.1 x.2.2.2)
theorem f76ok (N : Nat) : CallOk Try.prog 76 (f76call N) := fn_ok (g := 76) (fn := Try.f76) (body := f76c) (n := 30) (rs := [.tmp 4, .tmp 5]) mixed eqOk (f76callsOk N) (by kernel_rfl) (by kernel_rfl) (by kernel_rfl) (by kernel_rfl) (f76orcOk N) (by kernel_rfl) (Vi := f76iv) (Vo := f76ov) (F := fun x => f76 N x.1 x.2.1 x.2.2.1 x.2.2.2) (fun x y h => (f76eq N x).trans h)
end Go.Proofs

namespace Go.Proofs
open Go.Al
/-! 75 smalto/furnace.Places$1 -/
noncomputable def f75i : Tm := ⟨[0, 1, 2], [(.outer 0), (.outer 1)], [.one (.v (.int .i64)), .one (.ptr (.outer 0) 0 2), .one (.ptr (.outer 1) 0 10), .agg [.v (.int .i64), .v (.int .i64)], .arr (.int .i64) 10]⟩
noncomputable def f75iv : Vw f75i := { Y := Int × Int × Int × List Int, fromT := fun t => (t.1, t.2.2.2.1.1, t.2.2.2.1.2.1, t.2.2.2.2.1), outT := fun y => (y.1, (), (), (y.2.1, y.2.2.1, ()), y.2.2.2, ()), inv := fun _ => rfl }
noncomputable def f75o : Tm := ⟨[0, 1], [(.outer 0), (.outer 1)], [.one (.v .bool), .one (.v .bool), .agg [.v (.int .i64), .v (.int .i64)], .arr (.int .i64) 10]⟩
noncomputable def f75ov : Vw f75o := { Y := Bool × Bool × Int × Int × List Int, fromT := fun t => (t.1, t.2.1, t.2.2.1.1, t.2.2.1.2.1, t.2.2.2.1), outT := fun y => (y.1, y.2.1, (y.2.2.1, y.2.2.2.1, ()), y.2.2.2.2, ()), inv := fun _ => rfl }
@[reducible] noncomputable def f75c : Code := bodyOf Try.f75
noncomputable def f75calls (N : Nat) : List (Nat × CallS) := [(76, f76call N)]
theorem f75callsOk (N : Nat) : CallsOk Try.prog (callsL (f75calls N)) := (callsL_cons (fun _ => Enters.of (fn := Try.f76) (by kernel_rfl) (by kernel_rfl) (by kernel_rfl)) (f76ok N) callsL_nil)
noncomputable def f75 (N : Nat) (x0 : Int) (x1 : Int) (x2 : Int) (x3 : List Int) : Option (Bool × Bool × Int × Int × List Int) := (if ((decide ((0 : Int) ≤ x0)) && (decide (x0 < (5 : Int)))) = true then (andThen (f76 N x1 x2 (List.getD x3 ((0 + ((Int.toNat x0) * 2)) + 0) (0 : Int)) (List.getD x3 ((0 + ((Int.toNat x0) * 2)) + 1) (0 : Int))) fun y1 => (some (y1.1, y1.2, x1, x2, x3))) else none)
noncomputable def f75orc (N : Nat) : List (Nat × Orc) := []
theorem f75eq (N : Nat) (x : f75iv.Y) : codeK Try.prog hint (callsL (f75calls N)) (orcsL (f75orc N)) 13 f75c 1 (f75iv.enc x) (fnKv Try.prog [.tmp 4, .tmp 5] f75ov) = f75 N x.1 x.2.1 x.2.2.1 x.2.2.2 := by kernel_rfl
theorem f75orcOk (N : Nat) : OrcsOk Try.prog false 13 f75c (orcsL (f75orc N)) := orcsL_nil
noncomputable def f75call (N : Nat) : CallS := callOf 13 f75iv f75ov (fun x => f75 N x.1 x.2.1 x.2.2.1 x.2.2.2)
theorem f75ok (N : Nat) : CallOk Try.prog 75 (f75call N) := fn_ok (g := 75) (fn := Try.f75) (body := f75c) (n := 13) (rs := [.tmp 4, .tmp 5]) mixed eqOk (f75callsOk N) (by kernel_rfl) (by kernel_rfl) (by kernel_rfl) (by kernel_rfl) (f75orcOk N) (by kernel_rfl) (Vi := f75iv) (Vo := f75ov) (F := fun x => f75 N x.1 x.2.1 x.2.2.1 x.2.2.2) (fun x y h => (f75eq N x).trans h)
end Go.Proofs

namespace Go.Proofs
open Go.Al
/-! 74 (smalto/furnace.oven).split -/
noncomputable def f74i : Tm := ⟨[0, 1], [(.outer 0), (.outer 1)], [.agg [.v (.list T0), .v T1, .v T3, .v (.list T4), .v (.list T5)], .one (.fn 75 [(.outer 0), (.outer 1)]), .agg [.v (.int .i64), .v (.int .i64)], .arr (.int .i64) 10]⟩
noncomputable def f74iv : Vw f74i := { Y := Yls × Ylp × Ylc × Ylg × Yln × Int × Int × List Int, fromT := fun t => (t.1.1, t.1.2.1, t.1.2.2.1, t.1.2.2.2.1, t.1.2.2.2.2.1, t.2.2.1.1, t.2.2.1.2.1, t.2.2.2.1), outT := fun y => ((y.1, y.2.1, y.2.2.1, y.2.2.2.1, y.2.2.2.2.1, ()), (), (y.2.2.2.2.2.1, y.2.2.2.2.2.2.1, ()), y.2.2.2.2.2.2.2, ()), inv := fun _ => rfl }
noncomputable def f74o : Tm := ⟨[0, 1], [(.outer 0), (.outer 1)], [.one (.own 4096 (.int .i64)), .one (.own 4097 (.int .i64)), .agg [.v (.int .i64), .v (.int .i64)], .arr (.int .i64) 10]⟩
noncomputable def f74ov : Vw f74o := { Y := (List Int) × (List Int) × Int × Int × List Int, fromT := fun t => (t.1, t.2.1, t.2.2.1.1, t.2.2.1.2.1, t.2.2.2.1), outT := fun y => (y.1, y.2.1, (y.2.2.1, y.2.2.2.1, ()), y.2.2.2.2, ()), inv := fun _ => rfl }
@[reducible] noncomputable def f74c : Code := bodyOf Try.f74
noncomputable def f74calls (N : Nat) : List (Nat × CallS) := [(75, f75call N)]
theorem f74callsOk (N : Nat) : CallsOk Try.prog (callsL (f74calls N)) := (callsL_cons (fun _ => Enters.of (fn := Try.f75) (by kernel_rfl) (by kernel_rfl) (by kernel_rfl)) (f75ok N) callsL_nil)
@[reducible] noncomputable def f74l0c : Code := loopOf (codeOf (f74c) 26)
noncomputable def f74l0t : Tm := ⟨[1, 4, 5, 12, 13], [(.outer 0), (.outer 1)], [.one (.fn 75 [(.outer 0), (.outer 1)]), .one (.own 1000000 (.int .i64)), .one (.own 1000001 (.int .i64)), .one (.v (.int .i64)), .one (.v (.int .i64)), .agg [.v (.int .i64), .v (.int .i64)], .arr (.int .i64) 10]⟩
noncomputable def f74l0tv : Vw f74l0t := { Y := (List Int) × (List Int) × Int × Int × Int × Int × List Int, fromT := fun t => (t.2.1, t.2.2.1, t.2.2.2.1, t.2.2.2.2.1, t.2.2.2.2.2.1.1, t.2.2.2.2.2.1.2.1, t.2.2.2.2.2.2.1), outT := fun y => ((), y.1, y.2.1, y.2.2.1, y.2.2.2.1, (y.2.2.2.2.1, y.2.2.2.2.2.1, ()), y.2.2.2.2.2.2, ()), inv := fun _ => rfl }
noncomputable def f74l0e0 : Tm := ⟨[4, 5], [(.outer 0), (.outer 1)], [.one (.own 1000000 (.int .i64)), .one (.own 1000001 (.int .i64)), .agg [.v (.int .i64), .v (.int .i64)], .arr (.int .i64) 10]⟩
noncomputable def f74l0e0v : Vw f74l0e0 := { Y := (List Int) × (List Int) × Int × Int × List Int, fromT := fun t => (t.1, t.2.1, t.2.2.1.1, t.2.2.1.2.1, t.2.2.2.1), outT := fun y => (y.1, y.2.1, (y.2.2.1, y.2.2.2.1, ()), y.2.2.2.2, ()), inv := fun _ => rfl }
@[reducible] noncomputable def f74l0E : List Ex := [⟨(.ext 0), f74l0e0, f74l0e0v⟩]
noncomputable def f74l0B (N : Nat) (go : (List Int) → (List Int) → Int → Int → Int → Int → List Int → Option ((List Int) × (List Int) × Int × Int × List Int)) (x0 : (List Int)) (x1 : (List Int)) (x2 : Int) (x3 : Int) (x4 : Int) (x5 : Int) (x6 : List Int) : Option ((List Int) × (List Int) × Int × Int × List Int) := (if (decide (x3 < x2)) = true then (andThen (f75 N x3 x4 x5 x6) fun y1 => (if y1.1 = true then (if (Nat.ble ((List.length x0) + (List.length ([x3] : List Int))) Go.Al.boundLen) = true then (if y1.2.1 = true then (if (Nat.ble ((List.length x1) + (List.length ([x3] : List Int))) Go.Al.boundLen) = true then (go (x0 ++ ([x3] : List Int)) (x1 ++ ([x3] : List Int)) x2 (Go.IntKind.wrap .i64 (x3 + (1 : Int))) y1.2.2.1 y1.2.2.2.1 y1.2.2.2.2) else none) else (go (x0 ++ ([x3] : List Int)) x1 x2 (Go.IntKind.wrap .i64 (x3 + (1 : Int))) y1.2.2.1 y1.2.2.2.1 y1.2.2.2.2)) else none) else (if y1.2.1 = true then (if (Nat.ble ((List.length x1) + (List.length ([x3] : List Int))) Go.Al.boundLen) = true then (go x0 (x1 ++ ([x3] : List Int)) x2 (Go.IntKind.wrap .i64 (x3 + (1 : Int))) y1.2.2.1 y1.2.2.2.1 y1.2.2.2.2) else none) else (go x0 x1 x2 (Go.IntKind.wrap .i64 (x3 + (1 : Int))) y1.2.2.1 y1.2.2.2.1 y1.2.2.2.2)))) else (some (x0, x1, x4, x5, x6)))
noncomputable def f74l0 (N : Nat) : Nat → (List Int) → (List Int) → Int → Int → Int → Int → List Int → Option ((List Int) × (List Int) × Int × Int × List Int) | 0 => fun _ _ _ _ _ _ _ => none | q + 1 => f74l0B N (f74l0 N q)
noncomputable def f74l0o (N : Nat) : List (Nat × Orc) := []
theorem f74l0eq (N : Nat) (go : (List Int) → (List Int) → Int → Int → Int → Int → List Int → Option ((List Int) × (List Int) × Int × Int × List Int)) (x : f74l0tv.Y) : codeK Try.prog hint (callsL (f74calls N)) (orcsL (f74l0o N)) 35 f74l0c 1 (f74l0tv.enc x) (loopK f74l0tv f74l0E (fun x => go x.1 x.2.1 x.2.2.1 x.2.2.2.1 x.2.2.2.2.1 x.2.2.2.2.2.1 x.2.2.2.2.2.2)) = f74l0B N go x.1 x.2.1 x.2.2.1 x.2.2.2.1 x.2.2.2.2.1 x.2.2.2.2.2.1 x.2.2.2.2.2.2 := by kernel_rfl
theorem f74l0oOk (N : Nat) : OrcsOk Try.prog false 35 f74l0c (orcsL (f74l0o N)) := orcsL_nil
theorem f74l0ok (N : Nat) (M : Nat) : OrcOk Try.prog false 35 (.loop f74l0c) (cutOrc f74l0tv f74l0E (fun x => f74l0 N M x.1 x.2.1 x.2.2.1 x.2.2.2.1 x.2.2.2.2.1 x.2.2.2.2.2.1 x.2.2.2.2.2.2)) := loop_ok mixed eqOk (f74callsOk N) (f74l0oOk N) (fun _ => rfl) (fun q x o h => (f74l0eq N (f74l0 N q) x).trans h) M
noncomputable def f74 (N : Nat) (x0 : Yls) (x1 : Ylp) (x2 : Ylc) (x3 : Ylg) (x4 : Yln) (x5 : Int) (x6 : Int) (x7 : List Int) : Option ((List Int) × (List Int) × Int × Int × List Int) := (andThen (f74l0 N N ([] : List Int) ([] : List Int) ((List.length x0 : Nat) : Int) (0 : Int) x5 x6 x7) fun y2 => (some (y2.1, y2.2.1, y2.2.2.1, y2.2.2.2.1, y2.2.2.2.2)))
noncomputable def f74orc (N : Nat) : List (Nat × Orc) := [(26, cutOrc f74l0tv f74l0E (fun x => f74l0 N N x.1 x.2.1 x.2.2.1 x.2.2.2.1 x.2.2.2.2.1 x.2.2.2.2.2.1 x.2.2.2.2.2.2))]
theorem f74eq (N : Nat) (x : f74iv.Y) : codeK Try.prog hint (callsL (f74calls N)) (orcsL (f74orc N)) 35 f74c 1 (f74iv.enc x) (fnKv Try.prog [.tmp 4, .tmp 5] f74ov) = f74 N x.1 x.2.1 x.2.2.1 x.2.2.2.1 x.2.2.2.2.1 x.2.2.2.2.2.1 x.2.2.2.2.2.2.1 x.2.2.2.2.2.2.2 := by kernel_rfl
theorem f74orcOk (N : Nat) : OrcsOk Try.prog false 35 f74c (orcsL (f74orc N)) := (orcsL_cons (c := .loop f74l0c) (by kernel_rfl) (f74l0ok N N) orcsL_nil)
noncomputable def f74call (N : Nat) : CallS := callOf 35 f74iv f74ov (fun x => f74 N x.1 x.2.1 x.2.2.1 x.2.2.2.1 x.2.2.2.2.1 x.2.2.2.2.2.1 x.2.2.2.2.2.2.1 x.2.2.2.2.2.2.2)
theorem f74ok (N : Nat) : CallOk Try.prog 74 (f74call N) := fn_ok (g := 74) (fn := Try.f74) (body := f74c) (n := 35) (rs := [.tmp 4, .tmp 5]) mixed eqOk (f74callsOk N) (by kernel_rfl) (by kernel_rfl) (by kernel_rfl) (by kernel_rfl) (f74orcOk N) (by kernel_rfl) (Vi := f74iv) (Vo := f74ov) (F := fun x => f74 N x.1 x.2.1 x.2.2.1 x.2.2.2.1 x.2.2.2.2.1 x.2.2.2.2.2.1 x.2.2.2.2.2.2.1 x.2.2.2.2.2.2.2) (fun x y h => (f74eq N x).trans h)
end Go.Proofs

namespace Go.Proofs
open Go.Al
/-! 28 smalto/furnace.Places -/
noncomputable def f28i : Tm := ⟨[0, 1], [], [.agg [.v (.list T0), .v T1, .v T3, .v (.list T4)], .agg [.v (.int .i64), .v (.int .i64)]]⟩
noncomputable def f28iv : Vw f28i := { Y := Yls × Ylp × Ylc × Ylg × Int × Int, fromT := fun t => (t.1.1, t.1.2.1, t.1.2.2.1, t.1.2.2.2.1, t.2.1.1, t.2.1.2.1), outT := fun y => ((y.1, y.2.1, y.2.2.1, y.2.2.2.1, ()), (y.2.2.2.2.1, y.2.2.2.2.2, ()), ()), inv := fun _ => rfl }
noncomputable def f28o : Tm := ⟨[0, 1, 2], [], [.one (.own 4096 (.int .i64)), .one (.own 4097 (.int .i64)), .one (.v (.int .i64))]⟩
noncomputable def f28ov : Vw f28o := { Y := (List Int) × (List Int) × Int, fromT := fun t => (t.1, t.2.1, t.2.2.1), outT := fun y => (y.1, y.2.1, y.2.2, ()), inv := fun _ => rfl }
@[reducible] noncomputable def f28c : Code := bodyOf Try.f28
noncomputable def f28calls (N : Nat) : List (Nat × CallS) := [(70, f70call N), (65, f65call N), (71, f71call N), (74, f74call N)]
theorem f28callsOk (N : Nat) : CallsOk Try.prog (callsL (f28calls N)) := (callsL_cons (fun _ => Enters.of (fn := Try.f70) (by kernel_rfl) (by kernel_rfl) (by kernel_rfl)) (f70ok N) (callsL_cons (fun _ => Enters.of (fn := Try.f65) (by kernel_rfl) (by kernel_rfl) (by kernel_rfl)) (f65ok N) (callsL_cons (fun _ => Enters.of (fn := Try.f71) (by kernel_rfl) (by kernel_rfl) (by kernel_rfl)) (f71ok N) (callsL_cons (fun _ => Enters.of (fn := Try.f74) (by kernel_rfl) (by kernel_rfl) (by kernel_rfl)) (f74ok N) callsL_nil))))
noncomputable def f28 (N : Nat) (x0 : Yls) (x1 : Ylp) (x2 : Ylc) (x3 : Ylg) (x4 : Int) (x5 : Int) : Option ((List Int) × (List Int) × Int) := (andThen (f70 N x0 x1 x2 x3) fun y1 => (if (y1.2.2.2.2.2.2 != (0 : Int)) = true then (some (([] : List Int), ([] : List Int), y1.2.2.2.2.2.2)) else (andThen (f65 N x4 x5) fun y2 => (if (!y2) = true then (some (([] : List Int), ([] : List Int), (2 : Int))) else (andThen (f71 N y1.1 y1.2.1 y1.2.2.1 y1.2.2.2.1 y1.2.2.2.2.1 y1.2.2.2.2.2.1) fun y3 => (andThen (f74 N y1.1 y1.2.1 y1.2.2.1 y1.2.2.2.1 y1.2.2.2.2.1 x4 x5 y3) fun y4 => (some (y4.1, y4.2.1, (0 : Int)))))))))
noncomputable def f28orc (N : Nat) : List (Nat × Orc) := []
theorem f28eq (N : Nat) (x : f28iv.Y) : codeK Try.prog hint (callsL (f28calls N)) (orcsL (f28orc N)) 35 f28c 1 (f28iv.enc x) (fnKv Try.prog [.tmp 4, .tmp 5, .tmp 6] f28ov) = f28 N x.1 x.2.1 x.2.2.1 x.2.2.2.1 x.2.2.2.2.1 x.2.2.2.2.2 := by kernel_rfl
theorem f28orcOk (N : Nat) : OrcsOk Try.prog false 35 f28c (orcsL (f28orc N)) := orcsL_nil
noncomputable def f28call (N : Nat) : CallS := callOf 35 f28iv f28ov (fun x => f28 N x.1 x.2.1 x.2.2.1 x.2.2.2.1 x.2.2.2.2.1 x.2.2.2.2.2)
theorem f28ok (N : Nat) : CallOk Try.prog 28 (f28call N) := fn_ok (g := 28) (fn := Try.f28) (body := f28c) (n := 35) (rs := [.tmp 4, .tmp 5, .tmp 6]) mixed eqOk (f28callsOk N) (by kernel_rfl) (by kernel_rfl) (by kernel_rfl) (by kernel_rfl) (f28orcOk N) (by kernel_rfl) (Vi := f28iv) (Vo := f28ov) (F := fun x => f28 N x.1 x.2.1 x.2.2.1 x.2.2.2.1 x.2.2.2.2.1 x.2.2.2.2.2) (fun x y h => (f28eq N x).trans h)
end Go.Proofs

namespace Go.Proofs
open Go.Al
/-! 30 smalto/smaltoref02.Good -/
noncomputable def f30i : Tm := ⟨[0, 1], [], [.agg [.v (.int .i64), .v (.int .i64)], .agg [.v (.int .i64), .v (.int .i64)]]⟩
noncomputable def f30iv : Vw f30i := { Y := Int × Int × Int × Int, fromT := fun t => (t.1.1, t.1.2.1, t.2.1.1, t.2.1.2.1), outT := fun y => ((y.1, y.2.1, ()), (y.2.2.1, y.2.2.2, ()), ()), inv := fun _ => rfl }
noncomputable def f30o : Tm := ⟨[0, 1], [], [.one (.v .bool), .one (.v .bool)]⟩
noncomputable def f30ov : Vw f30o := { Y := Bool × Bool, fromT := fun t => (t.1, t.2.1), outT := fun y => (y.1, y.2, ()), inv := fun _ => rfl }
@[reducible] noncomputable def f30c : Code := bodyOf Try.f30
noncomputable def f30calls (N : Nat) : List (Nat × CallS) := [(25, f25call N)]
theorem f30callsOk (N : Nat) : CallsOk Try.prog (callsL (f30calls N)) := (callsL_cons (fun _ => Enters.of (fn := Try.f25) (by kernel_rfl) (by kernel_rfl) (by kernel_rfl)) (f25ok N) callsL_nil)
@[reducible] noncomputable def f30l0c : Code := loopOf (codeOf (f30c) 58)
noncomputable def f30l0t : Tm := ⟨[2, 3, 6, 7, 8], [(.box 2), (.box 3)], [.one (.ptr (.box 2) 0 2), .one (.ptr (.box 3) 0 2), .one (.v .bool), .one (.v .bool), .one (.v (.int .i64)), .agg [.v (.int .i64), .v (.int .i64)], .agg [.v (.int .i64), .v (.int .i64)]]⟩
noncomputable def f30l0tv : Vw f30l0t := { Y := Bool × Bool × Int × Int × Int × Int × Int, fromT := fun t => (t.2.2.1, t.2.2.2.1, t.2.2.2.2.1, t.2.2.2.2.2.1.1, t.2.2.2.2.2.1.2.1, t.2.2.2.2.2.2.1.1, t.2.2.2.2.2.2.1.2.1), outT := fun y => ((), (), y.1, y.2.1, y.2.2.1, (y.2.2.2.1, y.2.2.2.2.1, ()), (y.2.2.2.2.2.1, y.2.2.2.2.2.2, ()), ()), inv := fun _ => rfl }
noncomputable def f30l0e0 : Tm := ⟨[6, 7], [], [.one (.v .bool), .one (.v .bool)]⟩
noncomputable def f30l0e0v : Vw f30l0e0 := { Y := Bool × Bool, fromT := fun t => (t.1, t.2.1), outT := fun y => (y.1, y.2, ()), inv := fun _ => rfl }
@[reducible] noncomputable def f30l0E : List Ex := [⟨(.ext 0), f30l0e0, f30l0e0v⟩]
noncomputable def f30l0B (N : Nat) (go : Bool → Bool → Int → Int → Int → Int → Int → Option (Bool × Bool)) (x0 : Bool) (x1 : Bool) (x2 : Int) (x3 : Int) (x4 : Int) (x5 : Int) (x6 : Int) : Option (Bool × Bool) := (if (decide (x2 ≤ x6)) = true then (andThen (f25 N x2 x3 (Go.IntKind.wrap .i64 (x4 - (1 : Int)))) fun y1 => (if x0 = true then (if x1 = false then (go y1 y1 (Go.IntKind.wrap .i64 (x2 + (1 : Int))) x3 x4 x5 x6) else (go y1 true (Go.IntKind.wrap .i64 (x2 + (1 : Int))) x3 x4 x5 x6)) else (if x1 = false then (go false y1 (Go.IntKind.wrap .i64 (x2 + (1 : Int))) x3 x4 x5 x6) else (go false true (Go.IntKind.wrap .i64 (x2 + (1 : Int))) x3 x4 x5 x6)))) else (some (x0, x1)))
noncomputable def f30l0 (N : Nat) : Nat → Bool → Bool → Int → Int → Int → Int → Int → Option (Bool × Bool) | 0 => fun _ _ _ _ _ _ _ => none | q + 1 => f30l0B N (f30l0 N q)
noncomputable def f30l0o (N : Nat) : List (Nat × Orc) := []
theorem f30l0eq (N : Nat) (go : Bool → Bool → Int → Int → Int → Int → Int → Option (Bool × Bool)) (x : f30l0tv.Y) : codeK Try.prog hint (callsL (f30calls N)) (orcsL (f30l0o N)) 35 f30l0c 1 (f30l0tv.enc x) (loopK f30l0tv f30l0E (fun x => go x.1 x.2.1 x.2.2.1 x.2.2.2.1 x.2.2.2.2.1 x.2.2.2.2.2.1 x.2.2.2.2.2.2)) = f30l0B N go x.1 x.2.1 x.2.2.1 x.2.2.2.1 x.2.2.2.2.1 x.2.2.2.2.2.1 x.2.2.2.2.2.2 := by kernel_rfl
theorem f30l0oOk (N : Nat) : OrcsOk Try.prog false 35 f30l0c (orcsL (f30l0o N)) := orcsL_nil
theorem f30l0ok (N : Nat) (M : Nat) : OrcOk Try.prog false 35 (.loop f30l0c) (cutOrc f30l0tv f30l0E (fun x => f30l0 N M x.1 x.2.1 x.2.2.1 x.2.2.2.1 x.2.2.2.2.1 x.2.2.2.2.2.1 x.2.2.2.2.2.2)) := loop_ok mixed eqOk (f30callsOk N) (f30l0oOk N) (fun _ => rfl) (fun q x o h => (f30l0eq N (f30l0 N q) x).trans h) M
noncomputable def f30 (N : Nat) (x0 : Int) (x1 : Int) (x2 : Int) (x3 : Int) : Option (Bool × Bool) := (andThen (f30l0 N N true false x2 x0 x1 x2 x3) fun y2 => (some (y2.1, y2.2)))
noncomputable def f30orc (N : Nat) : List (Nat × Orc) := [(58, cutOrc f30l0tv f30l0E (fun x => f30l0 N N x.1 x.2.1 x.2.2.1 x.2.2.2.1 x.2.2.2.2.1 x.2.2.2.2.2.1 x.2.2.2.2.2.2))]
theorem f30eq (N : Nat) (x : f30iv.Y) : codeK Try.prog hint (callsL (f30calls N)) (orcsL (f30orc N)) 35 f30c 1 (f30iv.enc x) (fnKv Try.prog [.tmp 4, .tmp 5] f30ov) = f30 N x.1 x.2.1 x.2.2.1 x.2.2.2 := by kernel_rfl
theorem f30orcOk (N : Nat) : OrcsOk Try.prog false 35 f30c (orcsL (f30orc N)) := (orcsL_cons (c := .loop f30l0c) (by kernel_rfl) (f30l0ok N N) orcsL_nil)
noncomputable def f30call (N : Nat) : CallS := callOf 35 f30iv f30ov (fun x => f30 N x.1 x.2.1 x.2.2.1 x.2.2.2)
theorem f30ok (N : Nat) : CallOk Try.prog 30 (f30call N) := fn_ok (g := 30) (fn := Try.f30) (body := f30c) (n := 35) (rs := [.tmp 4, .tmp 5]) mixed eqOk (f30callsOk N) (by kernel_rfl) (by kernel_rfl) (by kernel_rfl) (by kernel_rfl) (f30orcOk N) (by kernel_rfl) (Vi := f30iv) (Vo := f30ov) (F := fun x => f30 N x.1 x.2.1 x.2.2.1 x.2.2.2) (fun x y h => (f30eq N x).trans h)
end Go.Proofs

namespace Go.Proofs
open Go.Al
/-! 31 smalto/smaltoref02.Ints -/
noncomputable def f31i : Tm := ⟨[0, 1], [], [.one (.v (.list (.int .i64))), .one (.v (.list (.int .i64)))]⟩
noncomputable def f31iv : Vw f31i := { Y := (List Int) × (List Int), fromT := fun t => (t.1, t.2.1), outT := fun y => (y.1, y.2, ()), inv := fun _ => rfl }
noncomputable def f31o : Tm := ⟨[0], [], [.one (.v .bool)]⟩
noncomputable def f31ov : Vw f31o := { Y := Bool, fromT := fun t => t.1, outT := fun y => (y, ()), inv := fun _ => rfl }
@[reducible] noncomputable def f31c : Code := bodyOf Try.f31
noncomputable def f31calls (N : Nat) : List (Nat × CallS) := []
theorem f31callsOk (N : Nat) : CallsOk Try.prog (callsL (f31calls N)) := callsL_nil
@[reducible] noncomputable def f31l0c : Code := loopOf (codeOf (f31c) 58)
noncomputable def f31l0t : Tm := ⟨[0, 1, 5], [], [.one (.v (.list (.int .i64))), .one (.v (.list (.int .i64))), .one (.v (.int .i64))]⟩
noncomputable def f31l0tv : Vw f31l0t := { Y := (List Int) × (List Int) × Int, fromT := fun t => (t.1, t.2.1, t.2.2.1), outT := fun y => (y.1, y.2.1, y.2.2, ()), inv := fun _ => rfl }
noncomputable def f31l0e0 : Tm := ⟨[4], [], [.one (.v .bool)]⟩
noncomputable def f31l0e0v : Vw f31l0e0 := { Y := Bool, fromT := fun t => t.1, outT := fun y => (y, ()), inv := fun _ => rfl }
noncomputable def f31l0e1 : Tm := ⟨[], [], []⟩
noncomputable def f31l0e1v : Vw f31l0e1 := { Y := Unit, fromT := fun _ => (), outT := fun _ => (), inv := fun _ => rfl }
@[reducible] noncomputable def f31l0E : List Ex := [⟨.ret, f31l0e0, f31l0e0v⟩, ⟨(.ext 0), f31l0e1, f31l0e1v⟩]
noncomputable def f31l0B (N : Nat) (go : (List Int) → (List Int) → Int → Option (((Bool) ⊕ Unit))) (x0 : (List Int)) (x1 : (List Int)) (x2 : Int) : Option (((Bool) ⊕ Unit)) := (if (decide (x2 < ((List.length x0 : Nat) : Int))) = true then (if ((decide ((0 : Int) ≤ x2)) && (decide (x2 < ((List.length x0 : Nat) : Int)))) = true then (if ((decide ((0 : Int) ≤ x2)) && (decide (x2 < ((List.length x1 : Nat) : Int)))) = true then (if ((List.getD x0 (Int.toNat x2) (0 : Int)) != (List.getD x1 (Int.toNat x2) (0 : Int))) = true then (some (Sum.inl false)) else (go x0 x1 (Go.IntKind.wrap .i64 (x2 + (1 : Int))))) else none) else none) else (some (Sum.inr ())))
noncomputable def f31l0 (N : Nat) : Nat → (List Int) → (List Int) → Int → Option (((Bool) ⊕ Unit)) | 0 => fun _ _ _ => none | q + 1 => f31l0B N (f31l0 N q)
noncomputable def f31l0o (N : Nat) : List (Nat × Orc) := []
theorem f31l0eq (N : Nat) (go : (List Int) → (List Int) → Int → Option (((Bool) ⊕ Unit))) (x : f31l0tv.Y) : codeK Try.prog hint (callsL (f31calls N)) (orcsL (f31l0o N)) 26 f31l0c 1 (f31l0tv.enc x) (loopK f31l0tv f31l0E (fun x => go x.1 x.2.1 x.2.2)) = f31l0B N go x.1 x.2.1 x.2.2 := by kernel_rfl
theorem f31l0oOk (N : Nat) : OrcsOk Try.prog false 26 f31l0c (orcsL (f31l0o N)) := orcsL_nil
theorem f31l0ok (N : Nat) (M : Nat) : OrcOk Try.prog false 26 (.loop f31l0c) (cutOrc f31l0tv f31l0E (fun x => f31l0 N M x.1 x.2.1 x.2.2)) := loop_ok mixed eqOk (f31callsOk N) (f31l0oOk N) (fun _ => rfl) (fun q x o h => (f31l0eq N (f31l0 N q) x).trans h) M
noncomputable def f31 (N : Nat) (x0 : (List Int)) (x1 : (List Int)) : Option (Bool) := (if (((List.length x0 : Nat) : Int) != ((List.length x1 : Nat) : Int)) = true then (some false) else (andThen (f31l0 N N x0 x1 (0 : Int)) fun y1 => (either y1 (fun a2 => (some a2)) (fun b3 => (some true)))))
noncomputable def f31orc (N : Nat) : List (Nat × Orc) := [(58, cutOrc f31l0tv f31l0E (fun x => f31l0 N N x.1 x.2.1 x.2.2))]
theorem f31eq (N : Nat) (x : f31iv.Y) : codeK Try.prog hint (callsL (f31calls N)) (orcsL (f31orc N)) 26 f31c 1 (f31iv.enc x) (fnKv Try.prog [.tmp 4] f31ov) = f31 N x.1 x.2 := by kernel_rfl
theorem f31orcOk (N : Nat) : OrcsOk Try.prog false 26 f31c (orcsL (f31orc N)) := (orcsL_cons (c := .loop f31l0c) (by kernel_rfl) (f31l0ok N N) orcsL_nil)
noncomputable def f31call (N : Nat) : CallS := callOf 26 f31iv f31ov (fun x => f31 N x.1 x.2)
theorem f31ok (N : Nat) : CallOk Try.prog 31 (f31call N) := fn_ok (g := 31) (fn := Try.f31) (body := f31c) (n := 26) (rs := [.tmp 4]) mixed eqOk (f31callsOk N) (by kernel_rfl) (by kernel_rfl) (by kernel_rfl) (by kernel_rfl) (f31orcOk N) (by kernel_rfl) (Vi := f31iv) (Vo := f31ov) (F := fun x => f31 N x.1 x.2) (fun x y h => (f31eq N x).trans h)
end Go.Proofs

namespace Go.Proofs
open Go.Al
/-! 83 smalto/furnace.Fill$1 -/
noncomputable def f83i : Tm := ⟨[0], [], [.agg [.v (.int .i64), .v (.int .i64)]]⟩
noncomputable def f83iv : Vw f83i := { Y := Int × Int, fromT := fun t => (t.1.1, t.1.2.1), outT := fun y => ((y.1, y.2, ()), ()), inv := fun _ => rfl }
noncomputable def f83o : Tm := ⟨[0], [], [.one (.v .bool)]⟩
noncomputable def f83ov : Vw f83o := { Y := Bool, fromT := fun t => t.1, outT := fun y => (y, ()), inv := fun _ => rfl }
@[reducible] noncomputable def f83c : Code := bodyOf Try.f83
noncomputable def f83calls (N : Nat) : List (Nat × CallS) := [(65, f65call N)]
theorem f83callsOk (N : Nat) : CallsOk Try.prog (callsL (f83calls N)) := (callsL_cons (fun _ => Enters.of (fn := Try.f65) (by kernel_rfl) (by kernel_rfl) (by kernel_rfl)) (f65ok N) callsL_nil)
noncomputable def f83 (N : Nat) (x0 : Int) (x1 : Int) : Option (Bool) := (andThen (f65 N x0 x1) fun y1 => (some (!y1)))
noncomputable def f83orc (N : Nat) : List (Nat × Orc) := []
theorem f83eq (N : Nat) (x : f83iv.Y) : codeK Try.prog hint (callsL (f83calls N)) (orcsL (f83orc N)) 6 f83c 1 (f83iv.enc x) (fnKv Try.prog [.tmp 2] f83ov) = f83 N x.1 x.2 := by kernel_rfl
theorem f83orcOk (N : Nat) : OrcsOk Try.prog false 6 f83c (orcsL (f83orc N)) := orcsL_nil
noncomputable def f83call (N : Nat) : CallS := callOf 6 f83iv f83ov (fun x => f83 N x.1 x.2)
theorem f83ok (N : Nat) : CallOk Try.prog 83 (f83call N) := fn_ok (g := 83) (fn := Try.f83) (body := f83c) (n := 6) (rs := [.tmp 2]) mixed eqOk (f83callsOk N) (by kernel_rfl) (by kernel_rfl) (by kernel_rfl) (by kernel_rfl) (f83orcOk N) (by kernel_rfl) (Vi := f83iv) (Vo := f83ov) (F := fun x => f83 N x.1 x.2) (fun x y h => (f83eq N x).trans h)
end Go.Proofs

namespace Go.Proofs
open Go.Al
/-! 107 slices.IndexFunc[[]smalto/api.FurnaceWare,smalto/api.FurnaceWare] -/
noncomputable def f107i : Tm := ⟨[0, 1], [], [.one (.v (.list T0)), .one (.fn 83 [])]⟩
noncomputable def f107iv : Vw f107i := { Y := Yls, fromT := fun t => t.1, outT := fun y => (y, (), ()), inv := fun _ => rfl }
noncomputable def f107o : Tm := ⟨[0], [], [.one (.v (.int .i64))]⟩
noncomputable def f107ov : Vw f107o := { Y := Int, fromT := fun t => t.1, outT := fun y => (y, ()), inv := fun _ => rfl }
@[reducible] noncomputable def f107c : Code := bodyOf Try.f107
noncomputable def f107calls (N : Nat) : List (Nat × CallS) := [(83, f83call N)]
theorem f107callsOk (N : Nat) : CallsOk Try.prog (callsL (f107calls N)) := (callsL_cons (fun _ => Enters.of (fn := Try.f83) (by kernel_rfl) (by kernel_rfl) (by kernel_rfl)) (f83ok N) callsL_nil)
@[reducible] noncomputable def f107l0c : Code := loopOf (codeOf (f107c) 26)
noncomputable def f107l0t : Tm := ⟨[0, 1, 7, 8], [], [.one (.v (.list T0)), .one (.fn 83 []), .one (.v (.int .i64)), .one (.v (.int .i64))]⟩
noncomputable def f107l0tv : Vw f107l0t := { Y := Yls × Int × Int, fromT := fun t => (t.1, t.2.2.1, t.2.2.2.1), outT := fun y => (y.1, (), y.2.1, y.2.2, ()), inv := fun _ => rfl }
noncomputable def f107l0e0 : Tm := ⟨[4], [], [.one (.v (.int .i64))]⟩
noncomputable def f107l0e0v : Vw f107l0e0 := { Y := Int, fromT := fun t => t.1, outT := fun y => (y, ()), inv := fun _ => rfl }
noncomputable def f107l0e1 : Tm := ⟨[], [], []⟩
noncomputable def f107l0e1v : Vw f107l0e1 := { Y := Unit, fromT := fun _ => (), outT := fun _ => (), inv := fun _ => rfl }
@[reducible] noncomputable def f107l0E : List Ex := [⟨.ret, f107l0e0, f107l0e0v⟩, ⟨(.ext 0), f107l0e1, f107l0e1v⟩]
noncomputable def f107l0B (N : Nat) (go : Yls → Int → Int → Option (((Int) ⊕ Unit))) (x0 : Yls) (x1 : Int) (x2 : Int) : Option (((Int) ⊕ Unit)) := (if (decide (x2 < x1)) = true then (if ((decide ((0 : Int) ≤ x2)) && (decide (x2 < ((List.length x0 : Nat) : Int)))) = true then (andThen (f83 N (List.getD x0 (Int.toNat x2) ((0 : Int), (0 : Int))).1 (List.getD x0 (Int.toNat x2) ((0 : Int), (0 : Int))).2) fun y1 => (if y1 = true then (some (Sum.inl x2)) else (go x0 x1 (Go.IntKind.wrap .i64 (x2 + (1 : Int)))))) else none) else (some (Sum.inr ())))
noncomputable def f107l0 (N : Nat) : Nat → Yls → Int → Int → Option (((Int) ⊕ Unit)) | 0 => fun _ _ _ => none | q + 1 => f107l0B N (f107l0 N q)
noncomputable def f107l0o (N : Nat) : List (Nat × Orc) := []
theorem f107l0eq (N : Nat) (go : Yls → Int → Int → Option (((Int) ⊕ Unit))) (x : f107l0tv.Y) : codeK Try.prog hint (callsL (f107calls N)) (orcsL (f107l0o N)) 19 f107l0c 1 (f107l0tv.enc x) (loopK f107l0tv f107l0E (fun x => go x.1 x.2.1 x.2.2)) = f107l0B N go x.1 x.2.1 x.2.2 := by kernel_rfl
theorem f107l0oOk (N : Nat) : OrcsOk Try.prog false 19 f107l0c (orcsL (f107l0o N)) := orcsL_nil
theorem f107l0ok (N : Nat) (M : Nat) : OrcOk Try.prog false 19 (.loop f107l0c) (cutOrc f107l0tv f107l0E (fun x => f107l0 N M x.1 x.2.1 x.2.2)) := loop_ok mixed eqOk (f107callsOk N) (f107l0oOk N) (fun _ => rfl) (fun q x o h => (f107l0eq N (f107l0 N q) x).trans h) M
noncomputable def f107 (N : Nat) (x0 : Yls) : Option (Int) := (andThen (f107l0 N N x0 ((List.length x0 : Nat) : Int) (0 : Int)) fun y2 => (either y2 (fun a3 => (some a3)) (fun b4 => (some (-1 : Int)))))
noncomputable def f107orc (N : Nat) : List (Nat × Orc) := [(26, cutOrc f107l0tv f107l0E (fun x => f107l0 N N x.1 x.2.1 x.2.2))]
theorem f107eq (N : Nat) (x : f107iv.Y) : codeK Try.prog hint (callsL (f107calls N)) (orcsL (f107orc N)) 19 f107c 1 (f107iv.enc x) (fnKv Try.prog [.tmp 4] f107ov) = f107 N x := by kernel_rfl
theorem f107orcOk (N : Nat) : OrcsOk Try.prog false 19 f107c (orcsL (f107orc N)) := (orcsL_cons (c := .loop f107l0c) (by kernel_rfl) (f107l0ok N N) orcsL_nil)
noncomputable def f107call (N : Nat) : CallS := callOf 19 f107iv f107ov (fun x => f107 N x)
theorem f107ok (N : Nat) : CallOk Try.prog 107 (f107call N) := fn_ok (g := 107) (fn := Try.f107) (body := f107c) (n := 19) (rs := [.tmp 4]) mixed eqOk (f107callsOk N) (by kernel_rfl) (by kernel_rfl) (by kernel_rfl) (by kernel_rfl) (f107orcOk N) (by kernel_rfl) (Vi := f107iv) (Vo := f107ov) (F := fun x => f107 N x) (fun x y h => (f107eq N x).trans h)
end Go.Proofs

namespace Go.Proofs
open Go.Al
/-! 82 slices.ContainsFunc[[]smalto/api.FurnaceWare,smalto/api.FurnaceWare] -/
noncomputable def f82i : Tm := ⟨[0, 1], [], [.one (.v (.list T0)), .one (.fn 83 [])]⟩
noncomputable def f82iv : Vw f82i := { Y := Yls, fromT := fun t => t.1, outT := fun y => (y, (), ()), inv := fun _ => rfl }
noncomputable def f82o : Tm := ⟨[0], [], [.one (.v .bool)]⟩
noncomputable def f82ov : Vw f82o := { Y := Bool, fromT := fun t => t.1, outT := fun y => (y, ()), inv := fun _ => rfl }
@[reducible] noncomputable def f82c : Code := bodyOf Try.f82
noncomputable def f82calls (N : Nat) : List (Nat × CallS) := [(107, f107call N)]
theorem f82callsOk (N : Nat) : CallsOk Try.prog (callsL (f82calls N)) := (callsL_cons (fun _ => Enters.of (fn := Try.f107) (by kernel_rfl) (by kernel_rfl) (by kernel_rfl)) (f107ok N) callsL_nil)
noncomputable def f82 (N : Nat) (x0 : Yls) : Option (Bool) := (andThen (f107 N x0) fun y1 => (some (decide (y1 ≥ (0 : Int)))))
noncomputable def f82orc (N : Nat) : List (Nat × Orc) := []
theorem f82eq (N : Nat) (x : f82iv.Y) : codeK Try.prog hint (callsL (f82calls N)) (orcsL (f82orc N)) 9 f82c 1 (f82iv.enc x) (fnKv Try.prog [.tmp 4] f82ov) = f82 N x := by kernel_rfl
theorem f82orcOk (N : Nat) : OrcsOk Try.prog false 9 f82c (orcsL (f82orc N)) := orcsL_nil
noncomputable def f82call (N : Nat) : CallS := callOf 9 f82iv f82ov (fun x => f82 N x)
theorem f82ok (N : Nat) : CallOk Try.prog 82 (f82call N) := fn_ok (g := 82) (fn := Try.f82) (body := f82c) (n := 9) (rs := [.tmp 4]) mixed eqOk (f82callsOk N) (by kernel_rfl) (by kernel_rfl) (by kernel_rfl) (by kernel_rfl) (f82orcOk N) (by kernel_rfl) (Vi := f82iv) (Vo := f82ov) (F := fun x => f82 N x) (fun x y h => (f82eq N x).trans h)
end Go.Proofs

namespace Go.Proofs
open Go.Al
/-! 84 smalto/furnace.Fill$2 -/
noncomputable def f84i : Tm := ⟨[0, 1, 2], [(.outer 0), (.outer 1)], [.one (.v (.int .i64)), .one (.ptr (.outer 0) 0 2), .one (.ptr (.outer 1) 0 10), .agg [.v (.int .i64), .v (.int .i64)], .arr (.int .i64) 10]⟩
noncomputable def f84iv : Vw f84i := { Y := Int × Int × Int × List Int, fromT := fun t => (t.1, t.2.2.2.1.1, t.2.2.2.1.2.1, t.2.2.2.2.1), outT := fun y => (y.1, (), (), (y.2.1, y.2.2.1, ()), y.2.2.2, ()), inv := fun _ => rfl }
noncomputable def f84o : Tm := ⟨[0, 1], [(.outer 0), (.outer 1)], [.one (.v .bool), .one (.v .bool), .agg [.v (.int .i64), .v (.int .i64)], .arr (.int .i64) 10]⟩
noncomputable def f84ov : Vw f84o := { Y := Bool × Bool × Int × Int × List Int, fromT := fun t => (t.1, t.2.1, t.2.2.1.1, t.2.2.1.2.1, t.2.2.2.1), outT := fun y => (y.1, y.2.1, (y.2.2.1, y.2.2.2.1, ()), y.2.2.2.2, ()), inv := fun _ => rfl }
@[reducible] noncomputable def f84c : Code := bodyOf Try.f84
noncomputable def f84calls (N : Nat) : List (Nat × CallS) := [(76, f76call N)]
theorem f84callsOk (N : Nat) : CallsOk Try.prog (callsL (f84calls N)) := (callsL_cons (fun _ => Enters.of (fn := Try.f76) (by kernel_rfl) (by kernel_rfl) (by kernel_rfl)) (f76ok N) callsL_nil)
noncomputable def f84 (N : Nat) (x0 : Int) (x1 : Int) (x2 : Int) (x3 : List Int) : Option (Bool × Bool × Int × Int × List Int) := (if ((decide ((0 : Int) ≤ x0)) && (decide (x0 < (5 : Int)))) = true then (andThen (f76 N x1 x2 (List.getD x3 ((0 + ((Int.toNat x0) * 2)) + 0) (0 : Int)) (List.getD x3 ((0 + ((Int.toNat x0) * 2)) + 1) (0 : Int))) fun y1 => (some (y1.1, y1.2, x1, x2, x3))) else none)
noncomputable def f84orc (N : Nat) : List (Nat × Orc) := []
theorem f84eq (N : Nat) (x : f84iv.Y) : codeK Try.prog hint (callsL (f84calls N)) (orcsL (f84orc N)) 13 f84c 1 (f84iv.enc x) (fnKv Try.prog [.tmp 4, .tmp 5] f84ov) = f84 N x.1 x.2.1 x.2.2.1 x.2.2.2 := by kernel_rfl
theorem f84orcOk (N : Nat) : OrcsOk Try.prog false 13 f84c (orcsL (f84orc N)) := orcsL_nil
noncomputable def f84call (N : Nat) : CallS := callOf 13 f84iv f84ov (fun x => f84 N x.1 x.2.1 x.2.2.1 x.2.2.2)
theorem f84ok (N : Nat) : CallOk Try.prog 84 (f84call N) := fn_ok (g := 84) (fn := Try.f84) (body := f84c) (n := 13) (rs := [.tmp 4, .tmp 5]) mixed eqOk (f84callsOk N) (by kernel_rfl) (by kernel_rfl) (by kernel_rfl) (by kernel_rfl) (f84orcOk N) (by kernel_rfl) (Vi := f84iv) (Vo := f84ov) (F := fun x => f84 N x.1 x.2.1 x.2.2.1 x.2.2.2) (fun x y h => (f84eq N x).trans h)
end Go.Proofs

namespace Go.Proofs
open Go.Al
/-! 74 (smalto/furnace.oven).split -/
noncomputable def f74bi : Tm := ⟨[0, 1], [(.outer 0), (.outer 1)], [.agg [.v (.list T0), .v T1, .v T3, .v (.list T4), .v (.list T5)], .one (.fn 84 [(.outer 0), (.outer 1)]), .agg [.v (.int .i64), .v (.int .i64)], .arr (.int .i64) 10]⟩
noncomputable def f74biv : Vw f74bi := { Y := Yls × Ylp × Ylc × Ylg × Yln × Int × Int × List Int, fromT := fun t => (t.1.1, t.1.2.1, t.1.2.2.1, t.1.2.2.2.1, t.1.2.2.2.2.1, t.2.2.1.1, t.2.2.1.2.1, t.2.2.2.1), outT := fun y => ((y.1, y.2.1, y.2.2.1, y.2.2.2.1, y.2.2.2.2.1, ()), (), (y.2.2.2.2.2.1, y.2.2.2.2.2.2.1, ()), y.2.2.2.2.2.2.2, ()), inv := fun _ => rfl }
noncomputable def f74bo : Tm := ⟨[0, 1], [(.outer 0), (.outer 1)], [.one (.own 4096 (.int .i64)), .one (.own 4097 (.int .i64)), .agg [.v (.int .i64), .v (.int .i64)], .arr (.int .i64) 10]⟩
noncomputable def f74bov : Vw f74bo := { Y := (List Int) × (List Int) × Int × Int × List Int, fromT := fun t => (t.1, t.2.1, t.2.2.1.1, t.2.2.1.2.1, t.2.2.2.1), outT := fun y => (y.1, y.2.1, (y.2.2.1, y.2.2.2.1, ()), y.2.2.2.2, ()), inv := fun _ => rfl }
@[reducible] noncomputable def f74bc : Code := bodyOf Try.f74
noncomputable def f74bcalls (N : Nat) : List (Nat × CallS) := [(84, f84call N)]
theorem f74bcallsOk (N : Nat) : CallsOk Try.prog (callsL (f74bcalls N)) := (callsL_cons (fun _ => Enters.of (fn := Try.f84) (by kernel_rfl) (by kernel_rfl) (by kernel_rfl)) (f84ok N) callsL_nil)
@[reducible] noncomputable def f74bl0c : Code := loopOf (codeOf (f74bc) 26)
noncomputable def f74bl0t : Tm := ⟨[1, 4, 5, 12, 13], [(.outer 0), (.outer 1)], [.one (.fn 84 [(.outer 0), (.outer 1)]), .one (.own 1000000 (.int .i64)), .one (.own 1000001 (.int .i64)), .one (.v (.int .i64)), .one (.v (.int .i64)), .agg [.v (.int .i64), .v (.int .i64)], .arr (.int .i64) 10]⟩
noncomputable def f74bl0tv : Vw f74bl0t := { Y := (List Int) × (List Int) × Int × Int × Int × Int × List Int, fromT := fun t => (t.2.1, t.2.2.1, t.2.2.2.1, t.2.2.2.2.1, t.2.2.2.2.2.1.1, t.2.2.2.2.2.1.2.1, t.2.2.2.2.2.2.1), outT := fun y => ((), y.1, y.2.1, y.2.2.1, y.2.2.2.1, (y.2.2.2.2.1, y.2.2.2.2.2.1, ()), y.2.2.2.2.2.2, ()), inv := fun _ => rfl }
noncomputable def f74bl0e0 : Tm := ⟨[4, 5], [(.outer 0), (.outer 1)], [.one (.own 1000000 (.int .i64)), .one (.own 1000001 (.int .i64)), .agg [.v (.int .i64), .v (.int .i64)], .arr (.int .i64) 10]⟩
noncomputable def f74bl0e0v : Vw f74bl0e0 := { Y := (List Int) × (List Int) × Int × Int × List Int, fromT := fun t => (t.1, t.2.1, t.2.2.1.1, t.2.2.1.2.1, t.2.2.2.1), outT := fun y => (y.1, y.2.1, (y.2.2.1, y.2.2.2.1, ()), y.2.2.2.2, ()), inv := fun _ => rfl }
@[reducible] noncomputable def f74bl0E : List Ex := [⟨(.ext 0), f74bl0e0, f74bl0e0v⟩]
noncomputable def f74bl0B (N : Nat) (go : (List Int) → (List Int) → Int → Int → Int → Int → List Int → Option ((List Int) × (List Int) × Int × Int × List Int)) (x0 : (List Int)) (x1 : (List Int)) (x2 : Int) (x3 : Int) (x4 : Int) (x5 : Int) (x6 : List Int) : Option ((List Int) × (List Int) × Int × Int × List Int) := (if (decide (x3 < x2)) = true then (andThen (f84 N x3 x4 x5 x6) fun y1 => (if y1.1 = true then (if (Nat.ble ((List.length x0) + (List.length ([x3] : List Int))) Go.Al.boundLen) = true then (if y1.2.1 = true then (if (Nat.ble ((List.length x1) + (List.length ([x3] : List Int))) Go.Al.boundLen) = true then (go (x0 ++ ([x3] : List Int)) (x1 ++ ([x3] : List Int)) x2 (Go.IntKind.wrap .i64 (x3 + (1 : Int))) y1.2.2.1 y1.2.2.2.1 y1.2.2.2.2) else none) else (go (x0 ++ ([x3] : List Int)) x1 x2 (Go.IntKind.wrap .i64 (x3 + (1 : Int))) y1.2.2.1 y1.2.2.2.1 y1.2.2.2.2)) else none) else (if y1.2.1 = true then (if (Nat.ble ((List.length x1) + (List.length ([x3] : List Int))) Go.Al.boundLen) = true then (go x0 (x1 ++ ([x3] : List Int)) x2 (Go.IntKind.wrap .i64 (x3 + (1 : Int))) y1.2.2.1 y1.2.2.2.1 y1.2.2.2.2) else none) else (go x0 x1 x2 (Go.IntKind.wrap .i64 (x3 + (1 : Int))) y1.2.2.1 y1.2.2.2.1 y1.2.2.2.2)))) else (some (x0, x1, x4, x5, x6)))
noncomputable def f74bl0 (N : Nat) : Nat → (List Int) → (List Int) → Int → Int → Int → Int → List Int → Option ((List Int) × (List Int) × Int × Int × List Int) | 0 => fun _ _ _ _ _ _ _ => none | q + 1 => f74bl0B N (f74bl0 N q)
noncomputable def f74bl0o (N : Nat) : List (Nat × Orc) := []
theorem f74bl0eq (N : Nat) (go : (List Int) → (List Int) → Int → Int → Int → Int → List Int → Option ((List Int) × (List Int) × Int × Int × List Int)) (x : f74bl0tv.Y) : codeK Try.prog hint (callsL (f74bcalls N)) (orcsL (f74bl0o N)) 35 f74bl0c 1 (f74bl0tv.enc x) (loopK f74bl0tv f74bl0E (fun x => go x.1 x.2.1 x.2.2.1 x.2.2.2.1 x.2.2.2.2.1 x.2.2.2.2.2.1 x.2.2.2.2.2.2)) = f74bl0B N go x.1 x.2.1 x.2.2.1 x.2.2.2.1 x.2.2.2.2.1 x.2.2.2.2.2.1 x.2.2.2.2.2.2 := by kernel_rfl
theorem f74bl0oOk (N : Nat) : OrcsOk Try.prog false 35 f74bl0c (orcsL (f74bl0o N)) := orcsL_nil
theorem f74bl0ok (N : Nat) (M : Nat) : OrcOk Try.prog false 35 (.loop f74bl0c) (cutOrc f74bl0tv f74bl0E (fun x => f74bl0 N M x.1 x.2.1 x.2.2.1 x.2.2.2.1 x.2.2.2.2.1 x.2.2.2.2.2.1 x.2.2.2.2.2.2)) := loop_ok mixed eqOk (f74bcallsOk N) (f74bl0oOk N) (fun _ => rfl) (fun q x o h => (f74bl0eq N (f74bl0 N q) x).trans h) M
noncomputable def f74b (N : Nat) (x0 : Yls) (x1 : Ylp) (x2 : Ylc) (x3 : Ylg) (x4 : Yln) (x5 : Int) (x6 : Int) (x7 : List Int) : Option ((List Int) × (List Int) × Int × Int × List Int) := (andThen (f74bl0 N N ([] : List Int) ([] : List Int) ((List.length x0 : Nat) : Int) (0 : Int) x5 x6 x7) fun y2 => (some (y2.1, y2.2.1, y2.2.2.1, y2.2.2.2.1, y2.2.2.2.2)))
noncomputable def f74borc (N : Nat) : List (Nat × Orc) := [(26, cutOrc f74bl0tv f74bl0E (fun x => f74bl0 N N x.1 x.2.1 x.2.2.1 x.2.2.2.1 x.2.2.2.2.1 x.2.2.2.2.2.1 x.2.2.2.2.2.2))]
theorem f74beq (N : Nat) (x : f74biv.Y) : codeK Try.prog hint (callsL (f74bcalls N)) (orcsL (f74borc N)) 35 f74bc 1 (f74biv.enc x) (fnKv Try.prog [.tmp 4, .tmp 5] f74bov) = f74b N x.1 x.2.1 x.2.2.1 x.2.2.2.1 x.2.2.2.2.1 x.2.2.2.2.2.1 x.2.2.2.2.2.2.1 x.2.2.2.2.2.2.2 := by kernel_rfl
theorem f74borcOk (N : Nat) : OrcsOk Try.prog false 35 f74bc (orcsL (f74borc N)) := (orcsL_cons (c := .loop f74bl0c) (by kernel_rfl) (f74bl0ok N N) orcsL_nil)
noncomputable def f74bcall (N : Nat) : CallS := callOf 35 f74biv f74bov (fun x => f74b N x.1 x.2.1 x.2.2.1 x.2.2.2.1 x.2.2.2.2.1 x.2.2.2.2.2.1 x.2.2.2.2.2.2.1 x.2.2.2.2.2.2.2)
theorem f74bok (N : Nat) : CallOk Try.prog 74 (f74bcall N) := fn_ok (g := 74) (fn := Try.f74) (body := f74bc) (n := 35) (rs := [.tmp 4, .tmp 5]) mixed eqOk (f74bcallsOk N) (by kernel_rfl) (by kernel_rfl) (by kernel_rfl) (by kernel_rfl) (f74borcOk N) (by kernel_rfl) (Vi := f74biv) (Vo := f74bov) (F := fun x => f74b N x.1 x.2.1 x.2.2.1 x.2.2.2.1 x.2.2.2.2.1 x.2.2.2.2.2.1 x.2.2.2.2.2.2.1 x.2.2.2.2.2.2.2) (fun x y h => (f74beq N x).trans h)
end Go.Proofs

namespace Go.Proofs
open Go.Al
/-! 93 slices.Clone[[]int,int] -/
noncomputable def f93i : Tm := ⟨[0], [], [.one (.vn (.int .i64))]⟩
noncomputable def f93iv : Vw f93i := { Y := (Bool × List Int), fromT := fun t => t.1, outT := fun y => (y, ()), inv := fun _ => rfl }
noncomputable def f93o : Tm := ⟨[0], [], [.one (.vn (.int .i64))]⟩
noncomputable def f93ov : Vw f93o := { Y := (Bool × List Int), fromT := fun t => t.1, outT := fun y => (y, ()), inv := fun _ => rfl }
@[reducible] noncomputable def f93c : Code := bodyOf Try.f93
noncomputable def f93calls (N : Nat) : List (Nat × CallS) := []
theorem f93callsOk (N : Nat) : CallsOk Try.prog (callsL (f93calls N)) := callsL_nil
noncomputable def f93 (N : Nat) (x0 : (Bool × List Int)) : Option ((Bool × List Int)) := (if x0.1 = true then (some (true, ([] : List Int))) else (if (Nat.ble ((List.length ([] : List Int)) + (List.length x0.2)) Go.Al.boundLen) = true then (some (false, (([] : List Int) ++ x0.2))) else none))
noncomputable def f93orc (N : Nat) : List (Nat × Orc) := []
theorem f93eq (N : Nat) (x : f93iv.Y) : codeK Try.prog hint (callsL (f93calls N)) (orcsL (f93orc N)) 8 f93c 1 (f93iv.enc x) (fnKv Try.prog [.tmp 2] f93ov) = f93 N x := by kernel_rfl
theorem f93orcOk (N : Nat) : OrcsOk Try.prog false 8 f93c (orcsL (f93orc N)) := orcsL_nil
noncomputable def f93call (N : Nat) : CallS := callOf 8 f93iv f93ov (fun x => f93 N x)
theorem f93ok (N : Nat) : CallOk Try.prog 93 (f93call N) := fn_ok (g := 93) (fn := Try.f93) (body := f93c) (n := 8) (rs := [.tmp 2]) mixed eqOk (f93callsOk N) (by kernel_rfl) (by kernel_rfl) (by kernel_rfl) (by kernel_rfl) (f93orcOk N) (by kernel_rfl) (Vi := f93iv) (Vo := f93ov) (F := fun x => f93 N x) (fun x y h => (f93eq N x).trans h)
end Go.Proofs

namespace Go.Proofs
open Go.Al
/-! 108 slices.Clip[[]int,int] -/
noncomputable def f108i : Tm := ⟨[0], [], [.one (.v (.list (.int .i64)))]⟩
noncomputable def f108iv : Vw f108i := { Y := (List Int), fromT := fun t => t.1, outT := fun y => (y, ()), inv := fun _ => rfl }
noncomputable def f108o : Tm := ⟨[0], [], [.one (.vx (.int .i64))]⟩
noncomputable def f108ov : Vw f108o := { Y := (List Int), fromT := fun t => t.1, outT := fun y => (y, ()), inv := fun _ => rfl }
@[reducible] noncomputable def f108c : Code := bodyOf Try.f108
noncomputable def f108calls (N : Nat) : List (Nat × CallS) := []
theorem f108callsOk (N : Nat) : CallsOk Try.prog (callsL (f108calls N)) := callsL_nil
noncomputable def f108 (N : Nat) (x0 : (List Int)) : Option ((List Int)) := (if ((((decide ((0 : Int) ≤ (0 : Int))) && (decide ((0 : Int) ≤ ((List.length x0 : Nat) : Int)))) && (decide (((List.length x0 : Nat) : Int) ≤ ((List.length x0 : Nat) : Int)))) && (((List.length x0 : Nat) : Int) == ((List.length x0 : Nat) : Int))) = true then (some (Go.Al.cut x0 (Int.toNat (0 : Int)) (Int.toNat ((List.length x0 : Nat) : Int)))) else none)
noncomputable def f108orc (N : Nat) : List (Nat × Orc) := []
theorem f108eq (N : Nat) (x : f108iv.Y) : codeK Try.prog hint (callsL (f108calls N)) (orcsL (f108orc N)) 9 f108c 1 (f108iv.enc x) (fnKv Try.prog [.tmp 2] f108ov) = f108 N x := by kernel_rfl
theorem f108orcOk (N : Nat) : OrcsOk Try.prog false 9 f108c (orcsL (f108orc N)) := orcsL_nil
noncomputable def f108call (N : Nat) : CallS := callOf 9 f108iv f108ov (fun x => f108 N x)
theorem f108ok (N : Nat) : CallOk Try.prog 108 (f108call N) := fn_ok (g := 108) (fn := Try.f108) (body := f108c) (n := 9) (rs := [.tmp 2]) mixed eqOk (f108callsOk N) (by kernel_rfl) (by kernel_rfl) (by kernel_rfl) (by kernel_rfl) (f108orcOk N) (by kernel_rfl) (Vi := f108iv) (Vo := f108ov) (F := fun x => f108 N x) (fun x y h => (f108eq N x).trans h)
end Go.Proofs

namespace Go.Proofs
open Go.Al
/-! 119 slices.Index[[]int,int] -/
noncomputable def f119i : Tm := ⟨[0, 1], [], [.one (.v (.list (.int .i64))), .one (.v (.int .i64))]⟩
noncomputable def f119iv : Vw f119i := { Y := (List Int) × Int, fromT := fun t => (t.1, t.2.1), outT := fun y => (y.1, y.2, ()), inv := fun _ => rfl }
noncomputable def f119o : Tm := ⟨[0], [], [.one (.v (.int .i64))]⟩
noncomputable def f119ov : Vw f119o := { Y := Int, fromT := fun t => t.1, outT := fun y => (y, ()), inv := fun _ => rfl }
@[reducible] noncomputable def f119c : Code := bodyOf Try.f119
noncomputable def f119calls (N : Nat) : List (Nat × CallS) := []
theorem f119callsOk (N : Nat) : CallsOk Try.prog (callsL (f119calls N)) := callsL_nil
@[reducible] noncomputable def f119l0c : Code := loopOf (codeOf (f119c) 26)
noncomputable def f119l0t : Tm := ⟨[0, 1, 7, 8], [], [.one (.v (.list (.int .i64))), .one (.v (.int .i64)), .one (.v (.int .i64)), .one (.v (.int .i64))]⟩
noncomputable def f119l0tv : Vw f119l0t := { Y := (List Int) × Int × Int × Int, fromT := fun t => (t.1, t.2.1, t.2.2.1, t.2.2.2.1), outT := fun y => (y.1, y.2.1, y.2.2.1, y.2.2.2, ()), inv := fun _ => rfl }
noncomputable def f119l0e0 : Tm := ⟨[4], [], [.one (.v (.int .i64))]⟩
noncomputable def f119l0e0v : Vw f119l0e0 := { Y := Int, fromT := fun t => t.1, outT := fun y => (y, ()), inv := fun _ => rfl }
noncomputable def f119l0e1 : Tm := ⟨[], [], []⟩
noncomputable def f119l0e1v : Vw f119l0e1 := { Y := Unit, fromT := fun _ => (), outT := fun _ => (), inv := fun _ => rfl }
@[reducible] noncomputable def f119l0E : List Ex := [⟨.ret, f119l0e0, f119l0e0v⟩, ⟨(.ext 0), f119l0e1, f119l0e1v⟩]
noncomputable def f119l0B (N : Nat) (go : (List Int) → Int → Int → Int → Option (((Int) ⊕ Unit))) (x0 : (List Int)) (x1 : Int) (x2 : Int) (x3 : Int) : Option (((Int) ⊕ Unit)) := (if (decide (x3 < x2)) = true then (if ((decide ((0 : Int) ≤ x3)) && (decide (x3 < ((List.length x0 : Nat) : Int)))) = true then (if (x1 == (List.getD x0 (Int.toNat x3) (0 : Int))) = true then (some (Sum.inl x3)) else (go x0 x1 x2 (Go.IntKind.wrap .i64 (x3 + (1 : Int))))) else none) else (some (Sum.inr ())))
noncomputable def f119l0 (N : Nat) : Nat → (List Int) → Int → Int → Int → Option (((Int) ⊕ Unit)) | 0 => fun _ _ _ _ => none | q + 1 => f119l0B N (f119l0 N q)
noncomputable def f119l0o (N : Nat) : List (Nat × Orc) := []
theorem f119l0eq (N : Nat) (go : (List Int) → Int → Int → Int → Option (((Int) ⊕ Unit))) (x : f119l0tv.Y) : codeK Try.prog hint (callsL (f119calls N)) (orcsL (f119l0o N)) 19 f119l0c 1 (f119l0tv.enc x) (loopK f119l0tv f119l0E (fun x => go x.1 x.2.1 x.2.2.1 x.2.2.2)) = f119l0B N go x.1 x.2.1 x.2.2.1 x.2.2.2 := by kernel_rfl
theorem f119l0oOk (N : Nat) : OrcsOk Try.prog false 19 f119l0c (orcsL (f119l0o N)) := orcsL_nil
theorem f119l0ok (N : Nat) (M : Nat) : OrcOk Try.prog false 19 (.loop f119l0c) (cutOrc f119l0tv f119l0E (fun x => f119l0 N M x.1 x.2.1 x.2.2.1 x.2.2.2)) := loop_ok mixed eqOk (f119callsOk N) (f119l0oOk N) (fun _ => rfl) (fun q x o h => (f119l0eq N (f119l0 N q) x).trans h) M
noncomputable def f119 (N : Nat) (x0 : (List Int)) (x1 : Int) : Option (Int) := (andThen (f119l0 N N x0 x1 ((List.length x0 : Nat) : Int) (0 : Int)) fun y1 => (either y1 (fun a2 => (some a2)) (fun b3 => (some (-1 : Int)))))
noncomputable def f119orc (N : Nat) : List (Nat × Orc) := [(26, cutOrc f119l0tv f119l0E (fun x => f119l0 N N x.1 x.2.1 x.2.2.1 x.2.2.2))]
theorem f119eq (N : Nat) (x : f119iv.Y) : codeK Try.prog hint (callsL (f119calls N)) (orcsL (f119orc N)) 19 f119c 1 (f119iv.enc x) (fnKv Try.prog [.tmp 4] f119ov) = f119 N x.1 x.2 := by kernel_rfl
theorem f119orcOk (N : Nat) : OrcsOk Try.prog false 19 f119c (orcsL (f119orc N)) := (orcsL_cons (c := .loop f119l0c) (by kernel_rfl) (f119l0ok N N) orcsL_nil)
noncomputable def f119call (N : Nat) : CallS := callOf 19 f119iv f119ov (fun x => f119 N x.1 x.2)
theorem f119ok (N : Nat) : CallOk Try.prog 119 (f119call N) := fn_ok (g := 119) (fn := Try.f119) (body := f119c) (n := 19) (rs := [.tmp 4]) mixed eqOk (f119callsOk N) (by kernel_rfl) (by kernel_rfl) (by kernel_rfl) (by kernel_rfl) (f119orcOk N) (by kernel_rfl) (Vi := f119iv) (Vo := f119ov) (F := fun x => f119 N x.1 x.2) (fun x y h => (f119eq N x).trans h)
end Go.Proofs

namespace Go.Proofs
open Go.Al
/-! 109 slices.Contains[[]int,int] -/
noncomputable def f109i : Tm := ⟨[0, 1], [], [.one (.v (.list (.int .i64))), .one (.v (.int .i64))]⟩
noncomputable def f109iv : Vw f109i := { Y := (List Int) × Int, fromT := fun t => (t.1, t.2.1), outT := fun y => (y.1, y.2, ()), inv := fun _ => rfl }
noncomputable def f109o : Tm := ⟨[0], [], [.one (.v .bool)]⟩
noncomputable def f109ov : Vw f109o := { Y := Bool, fromT := fun t => t.1, outT := fun y => (y, ()), inv := fun _ => rfl }
@[reducible] noncomputable def f109c : Code := bodyOf Try.f109
noncomputable def f109calls (N : Nat) : List (Nat × CallS) := [(119, f119call N)]
theorem f109callsOk (N : Nat) : CallsOk Try.prog (callsL (f109calls N)) := (callsL_cons (fun _ => Enters.of (fn := Try.f119) (by kernel_rfl) (by kernel_rfl) (by kernel_rfl)) (f119ok N) callsL_nil)
noncomputable def f109 (N : Nat) (x0 : (List Int)) (x1 : Int) : Option (Bool) := (andThen (f119 N x0 x1) fun y1 => (some (decide (y1 ≥ (0 : Int)))))
noncomputable def f109orc (N : Nat) : List (Nat × Orc) := []
theorem f109eq (N : Nat) (x : f109iv.Y) : codeK Try.prog hint (callsL (f109calls N)) (orcsL (f109orc N)) 9 f109c 1 (f109iv.enc x) (fnKv Try.prog [.tmp 4] f109ov) = f109 N x.1 x.2 := by kernel_rfl
theorem f109orcOk (N : Nat) : OrcsOk Try.prog false 9 f109c (orcsL (f109orc N)) := orcsL_nil
noncomputable def f109call (N : Nat) : CallS := callOf 9 f109iv f109ov (fun x => f109 N x.1 x.2)
theorem f109ok (N : Nat) : CallOk Try.prog 109 (f109call N) := fn_ok (g := 109) (fn := Try.f109) (body := f109c) (n := 9) (rs := [.tmp 4]) mixed eqOk (f109callsOk N) (by kernel_rfl) (by kernel_rfl) (by kernel_rfl) (by kernel_rfl) (f109orcOk N) (by kernel_rfl) (Vi := f109iv) (Vo := f109ov) (F := fun x => f109 N x.1 x.2) (fun x y h => (f109eq N x).trans h)
end Go.Proofs
