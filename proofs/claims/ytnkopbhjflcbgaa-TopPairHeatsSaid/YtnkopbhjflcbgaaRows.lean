/-
  No cell of these rows narrows 'for every input' (looked for: loops, veiled, ifaces, maps, wideKeys, modest, calm, conditions, laid).
  DERIVED. THE GIVEN ROWS OF THIS SEAT. 3 by the template 'for every input the law returns true; each argument reads behind the call as it read before'; 0 by the template 'total and deterministic' (their statements: YtnkopbhjflcbgaaTotals.lean).
  GIVEN WITH THE SEED: the statements are not yours to turn. If you find one false, say at which input.
  Laid BY PROGRAM, IN A SANDBOX (cutbox-rows.mjs): the forced cells as the released guide's own fill.sh prints them over the translation 69f82b5a80472dff… (all of the seat's roots in one cut). By AI agents, Wed Nov 11 2026. No macro, syntax, notation, axiom, sorry.
-/
import Derived.Test.YtnkopbhjflcbgaaChecked
import GoSem.Claim
import GoSem.ClaimJoined
import GoSem.ClaimMapViews
import Derived.JoinedTies
import Derived.KernelRfl
namespace Go.Proofs.Ytnkopbhjflcbgaa
/- THE CELL 'sum', in the pinned program and in every row, IS THE sha256 OF THE DUMP (.gsa) THAT YtnkopbhjflcbgaaProg.lean LOADS. Nothing in Lean hashes anything: it is a label: what it is worth is what the hold of that sum in a sandbox is worth. -/
noncomputable def Try.pinned : Pinned := { name := "ytnkopbhjflcbgaa", sum := "69f82b5a80472dffbd24833fc89afb9a9ab8286b62c328fc9c2d68d093e6a2b4", checked := Try.checked }
namespace Rows
def none {H : Type} : Left H := { results := [], args := [] }

/-- 'smaltotop.TopTurnRounds': WHATEVER THE INPUT: true; the input reads as it did. -/
def topTurnRoundsSpec : ChangeSpec := { name := "topTurnRounds", fn := fun _ => fun
  | [d] => { results := [.lit (.bool true)], args := [d] }
  | _ => none }
def topTurnRoundsRow : OpenClaim := { program := "ytnkopbhjflcbgaa", sum := "69f82b5a80472dffbd24833fc89afb9a9ab8286b62c328fc9c2d68d093e6a2b4", func := "smalto/smaltotop.TopTurnRounds", spec := "topTurnRounds", unfollowed := true, recurses := true, apart := false }
def TopTurnRoundsSaid : Prop := topTurnRoundsRow.holds Try.pinned (OpenSpec.ofChange topTurnRoundsSpec)

/-- ITS FALSE NEIGHBOUR: 'it returns false'. Refute it at one input. -/
def topTurnRoundsWrong : ChangeSpec := { name := "topTurnRounds", fn := fun _ => fun
  | [d] => { results := [.lit (.bool false)], args := [d] }
  | _ => none }
def TopTurnRoundsWrongFalsely : Prop := topTurnRoundsRow.holds Try.pinned (OpenSpec.ofChange topTurnRoundsWrong)

/-- 'smaltotop.TopPairHeats': WHATEVER THE INPUT: true; the input reads as it did. -/
def topPairHeatsSpec : ChangeSpec := { name := "topPairHeats", fn := fun _ => fun
  | [d1, d2, d3] => { results := [.lit (.bool true)], args := [d1, d2, d3] }
  | _ => none }
def topPairHeatsRow : OpenClaim := { program := "ytnkopbhjflcbgaa", sum := "69f82b5a80472dffbd24833fc89afb9a9ab8286b62c328fc9c2d68d093e6a2b4", func := "smalto/smaltotop.TopPairHeats", spec := "topPairHeats", unfollowed := true, recurses := true, apart := false }
def TopPairHeatsSaid : Prop := topPairHeatsRow.holds Try.pinned (OpenSpec.ofChange topPairHeatsSpec)

/-- ITS FALSE NEIGHBOUR: 'it returns false'. Refute it at one input. -/
def topPairHeatsWrong : ChangeSpec := { name := "topPairHeats", fn := fun _ => fun
  | [d1, d2, d3] => { results := [.lit (.bool false)], args := [d1, d2, d3] }
  | _ => none }
def TopPairHeatsWrongFalsely : Prop := topPairHeatsRow.holds Try.pinned (OpenSpec.ofChange topPairHeatsWrong)

/-- 'smaltotop.TopRoundWare': WHATEVER THE INPUT: true; the input reads as it did. -/
def topRoundWareSpec : ChangeSpec := { name := "topRoundWare", fn := fun _ => fun
  | [d1, d2] => { results := [.lit (.bool true)], args := [d1, d2] }
  | _ => none }
def topRoundWareRow : OpenClaim := { program := "ytnkopbhjflcbgaa", sum := "69f82b5a80472dffbd24833fc89afb9a9ab8286b62c328fc9c2d68d093e6a2b4", func := "smalto/smaltotop.TopRoundWare", spec := "topRoundWare", unfollowed := true, recurses := true, apart := false }
def TopRoundWareSaid : Prop := topRoundWareRow.holds Try.pinned (OpenSpec.ofChange topRoundWareSpec)

/-- ITS FALSE NEIGHBOUR: 'it returns false'. Refute it at one input. -/
def topRoundWareWrong : ChangeSpec := { name := "topRoundWare", fn := fun _ => fun
  | [d1, d2] => { results := [.lit (.bool false)], args := [d1, d2] }
  | _ => none }
def TopRoundWareWrongFalsely : Prop := topRoundWareRow.holds Try.pinned (OpenSpec.ofChange topRoundWareWrong)

/- THE SECOND FORM. 'bulk': how many values and letters a reading holds, each counted each time it is reached (what is shared counts as often as it is met; a slice's spare places count too). A statement '..UptoSaid' is the law's where the arguments, and the package variables that the reading takes, are together of bulk at most 1048576: NARROWER than '..Said'. Prove '..Said' where nothing that the law and all that it calls make is longer than what came in: it says more and counts as full. Else prove '..UptoSaid'. A law counts once. -/
mutual
def uptoBulk {H : Type} : DataW H → Nat
  | .lit (.string bytes) => bytes.length + 1
  | .lit _ => 1
  | .nil => 1
  | .ptr d => uptoBulk d + 1
  | .slice elems spare => uptoBulkAll elems + uptoBulkAll spare + 1
  | .agg parts => uptoBulkAll parts + 1
  | .iface _ d => uptoBulk d + 1
  | .map entries => uptoBulkEntries entries + 1
  | .held _ => 1
def uptoBulkAll {H : Type} : List (DataW H) → Nat
  | [] => 0
  | d :: r => uptoBulk d + uptoBulkAll r
def uptoBulkEntries {H : Type} : List (Lit × DataW H) → Nat
  | [] => 0
  | x :: r => uptoBulkEntry x + uptoBulkEntries r
def uptoBulkEntry {H : Type} : Lit × DataW H → Nat
  | (.string bytes, d) => bytes.length + uptoBulk d + 1
  | (_, d) => uptoBulk d + 1
 end
def uptoSmall : (H : Type) → List (DataW H) → Bool := fun _ ds => decide (uptoBulkAll ds ≤ 1048576)
def OpenSpec.upto (s : _root_.Go.ChangeSpec) : _root_.Go.OpenSpec := { _root_.Go.OpenSpec.ofChange s with cond := some uptoSmall }

/-- 'smaltotop.TopTurnRounds', WHERE WHAT IT READS IS OF BULK AT MOST 1048576: true; the input reads as it did. -/
def topTurnRoundsUptoRow : OpenClaim := { program := "ytnkopbhjflcbgaa", sum := "69f82b5a80472dffbd24833fc89afb9a9ab8286b62c328fc9c2d68d093e6a2b4", func := "smalto/smaltotop.TopTurnRounds", spec := "topTurnRounds", unfollowed := true, recurses := true, apart := false, narrowed := true }
def TopTurnRoundsUptoSaid : Prop := topTurnRoundsUptoRow.holds Try.pinned (OpenSpec.upto topTurnRoundsSpec)

/-- 'smaltotop.TopPairHeats', WHERE WHAT IT READS IS OF BULK AT MOST 1048576: true; the input reads as it did. -/
def topPairHeatsUptoRow : OpenClaim := { program := "ytnkopbhjflcbgaa", sum := "69f82b5a80472dffbd24833fc89afb9a9ab8286b62c328fc9c2d68d093e6a2b4", func := "smalto/smaltotop.TopPairHeats", spec := "topPairHeats", unfollowed := true, recurses := true, apart := false, narrowed := true }
def TopPairHeatsUptoSaid : Prop := topPairHeatsUptoRow.holds Try.pinned (OpenSpec.upto topPairHeatsSpec)

/-- 'smaltotop.TopRoundWare', WHERE WHAT IT READS IS OF BULK AT MOST 1048576: true; the input reads as it did. -/
def topRoundWareUptoRow : OpenClaim := { program := "ytnkopbhjflcbgaa", sum := "69f82b5a80472dffbd24833fc89afb9a9ab8286b62c328fc9c2d68d093e6a2b4", func := "smalto/smaltotop.TopRoundWare", spec := "topRoundWare", unfollowed := true, recurses := true, apart := false, narrowed := true }
def TopRoundWareUptoSaid : Prop := topRoundWareUptoRow.holds Try.pinned (OpenSpec.upto topRoundWareSpec)

end Rows
end Go.Proofs.Ytnkopbhjflcbgaa
