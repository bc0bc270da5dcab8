/-
  No cell of these rows narrows 'for every input' (looked for: loops, veiled, ifaces, maps, wideKeys, modest, calm, conditions, laid).
  DERIVED. THE GIVEN ROWS OF THIS SEAT. 12 by the template 'for every input the law returns true; each argument reads behind the call as it read before'; 0 by the template 'total and deterministic' (their statements: YtegckmajjklonaaTotals.lean).
  GIVEN WITH THE SEED: the statements are not yours to turn. If you find one false, say at which input.
  Laid BY PROGRAM, IN A SANDBOX (cutbox-rows.mjs): the forced cells as the released guide's own fill.sh prints them over the translation 1cb6bf99894e3b1e… (all of the seat's roots in one cut). By AI agents, Wed Nov 11 2026. No macro, syntax, notation, axiom, sorry.
-/
import Derived.Test.YtegckmajjklonaaChecked
import GoSem.Claim
import GoSem.ClaimJoined
import GoSem.ClaimMapViews
import Derived.JoinedTies
import Derived.KernelRfl
namespace Go.Proofs.Ytegckmajjklonaa
/- THE CELL 'sum', in the pinned program and in every row, IS THE sha256 OF THE DUMP (.gsa) THAT YtegckmajjklonaaProg.lean LOADS. Nothing in Lean hashes anything: it is a label: what it is worth is what the hold of that sum in a sandbox is worth. -/
noncomputable def Try.pinned : Pinned := { name := "ytegckmajjklonaa", sum := "1cb6bf99894e3b1e80aca4e47cfa9c98fd83e0feba84166b745d71ad36bf01e9", checked := Try.checked }
namespace Rows
def none {H : Type} : Left H := { results := [], args := [] }

/-- 'smaltolaw02.FurnaceHeats': WHATEVER THE INPUT: true; the input reads as it did. -/
def furnaceHeatsSpec : ChangeSpec := { name := "furnaceHeats", fn := fun _ => fun
  | [d1, d2, d3] => { results := [.lit (.bool true)], args := [d1, d2, d3] }
  | _ => none }
def furnaceHeatsRow : OpenClaim := { program := "ytegckmajjklonaa", sum := "1cb6bf99894e3b1e80aca4e47cfa9c98fd83e0feba84166b745d71ad36bf01e9", func := "smalto/smaltolaw02.FurnaceHeats", spec := "furnaceHeats", unfollowed := true, recurses := true, apart := false }
def FurnaceHeatsSaid : Prop := furnaceHeatsRow.holds Try.pinned (OpenSpec.ofChange furnaceHeatsSpec)

/-- ITS FALSE NEIGHBOUR: 'it returns false'. Refute it at one input. -/
def furnaceHeatsWrong : ChangeSpec := { name := "furnaceHeats", fn := fun _ => fun
  | [d1, d2, d3] => { results := [.lit (.bool false)], args := [d1, d2, d3] }
  | _ => none }
def FurnaceHeatsWrongFalsely : Prop := furnaceHeatsRow.holds Try.pinned (OpenSpec.ofChange furnaceHeatsWrong)

/-- 'smaltolaw02.FurnacePlaces': WHATEVER THE INPUT: true; the input reads as it did. -/
def furnacePlacesSpec : ChangeSpec := { name := "furnacePlaces", fn := fun _ => fun
  | [d1, d2] => { results := [.lit (.bool true)], args := [d1, d2] }
  | _ => none }
def furnacePlacesRow : OpenClaim := { program := "ytegckmajjklonaa", sum := "1cb6bf99894e3b1e80aca4e47cfa9c98fd83e0feba84166b745d71ad36bf01e9", func := "smalto/smaltolaw02.FurnacePlaces", spec := "furnacePlaces", unfollowed := true, recurses := true, apart := false }
def FurnacePlacesSaid : Prop := furnacePlacesRow.holds Try.pinned (OpenSpec.ofChange furnacePlacesSpec)

/-- ITS FALSE NEIGHBOUR: 'it returns false'. Refute it at one input. -/
def furnacePlacesWrong : ChangeSpec := { name := "furnacePlaces", fn := fun _ => fun
  | [d1, d2] => { results := [.lit (.bool false)], args := [d1, d2] }
  | _ => none }
def FurnacePlacesWrongFalsely : Prop := furnacePlacesRow.holds Try.pinned (OpenSpec.ofChange furnacePlacesWrong)

/-- 'smaltolaw02.FurnaceHottests': WHATEVER THE INPUT: true; the input reads as it did. -/
def furnaceHottestsSpec : ChangeSpec := { name := "furnaceHottests", fn := fun _ => fun
  | [d] => { results := [.lit (.bool true)], args := [d] }
  | _ => none }
def furnaceHottestsRow : OpenClaim := { program := "ytegckmajjklonaa", sum := "1cb6bf99894e3b1e80aca4e47cfa9c98fd83e0feba84166b745d71ad36bf01e9", func := "smalto/smaltolaw02.FurnaceHottests", spec := "furnaceHottests", unfollowed := true, recurses := true, apart := false }
def FurnaceHottestsSaid : Prop := furnaceHottestsRow.holds Try.pinned (OpenSpec.ofChange furnaceHottestsSpec)

/-- ITS FALSE NEIGHBOUR: 'it returns false'. Refute it at one input. -/
def furnaceHottestsWrong : ChangeSpec := { name := "furnaceHottests", fn := fun _ => fun
  | [d] => { results := [.lit (.bool false)], args := [d] }
  | _ => none }
def FurnaceHottestsWrongFalsely : Prop := furnaceHottestsRow.holds Try.pinned (OpenSpec.ofChange furnaceHottestsWrong)

/-- 'smaltolaw02.FurnaceFills': WHATEVER THE INPUT: true; the input reads as it did. -/
def furnaceFillsSpec : ChangeSpec := { name := "furnaceFills", fn := fun _ => fun
  | [d1, d2] => { results := [.lit (.bool true)], args := [d1, d2] }
  | _ => none }
def furnaceFillsRow : OpenClaim := { program := "ytegckmajjklonaa", sum := "1cb6bf99894e3b1e80aca4e47cfa9c98fd83e0feba84166b745d71ad36bf01e9", func := "smalto/smaltolaw02.FurnaceFills", spec := "furnaceFills", unfollowed := true, recurses := true, apart := false }
def FurnaceFillsSaid : Prop := furnaceFillsRow.holds Try.pinned (OpenSpec.ofChange furnaceFillsSpec)

/-- ITS FALSE NEIGHBOUR: 'it returns false'. Refute it at one input. -/
def furnaceFillsWrong : ChangeSpec := { name := "furnaceFills", fn := fun _ => fun
  | [d1, d2] => { results := [.lit (.bool false)], args := [d1, d2] }
  | _ => none }
def FurnaceFillsWrongFalsely : Prop := furnaceFillsRow.holds Try.pinned (OpenSpec.ofChange furnaceFillsWrong)

/-- 'smaltolaw02.FurnaceTurns': WHATEVER THE INPUT: true; the input reads as it did. -/
def furnaceTurnsSpec : ChangeSpec := { name := "furnaceTurns", fn := fun _ => fun
  | [d1, d2] => { results := [.lit (.bool true)], args := [d1, d2] }
  | _ => none }
def furnaceTurnsRow : OpenClaim := { program := "ytegckmajjklonaa", sum := "1cb6bf99894e3b1e80aca4e47cfa9c98fd83e0feba84166b745d71ad36bf01e9", func := "smalto/smaltolaw02.FurnaceTurns", spec := "furnaceTurns", unfollowed := true, recurses := true, apart := false }
def FurnaceTurnsSaid : Prop := furnaceTurnsRow.holds Try.pinned (OpenSpec.ofChange furnaceTurnsSpec)

/-- ITS FALSE NEIGHBOUR: 'it returns false'. Refute it at one input. -/
def furnaceTurnsWrong : ChangeSpec := { name := "furnaceTurns", fn := fun _ => fun
  | [d1, d2] => { results := [.lit (.bool false)], args := [d1, d2] }
  | _ => none }
def FurnaceTurnsWrongFalsely : Prop := furnaceTurnsRow.holds Try.pinned (OpenSpec.ofChange furnaceTurnsWrong)

/-- 'smaltolaw02.FurnaceWrongs': WHATEVER THE INPUT: true; the input reads as it did. -/
def furnaceWrongsSpec : ChangeSpec := { name := "furnaceWrongs", fn := fun _ => fun
  | [d] => { results := [.lit (.bool true)], args := [d] }
  | _ => none }
def furnaceWrongsRow : OpenClaim := { program := "ytegckmajjklonaa", sum := "1cb6bf99894e3b1e80aca4e47cfa9c98fd83e0feba84166b745d71ad36bf01e9", func := "smalto/smaltolaw02.FurnaceWrongs", spec := "furnaceWrongs", unfollowed := true, recurses := true, apart := false }
def FurnaceWrongsSaid : Prop := furnaceWrongsRow.holds Try.pinned (OpenSpec.ofChange furnaceWrongsSpec)

/-- ITS FALSE NEIGHBOUR: 'it returns false'. Refute it at one input. -/
def furnaceWrongsWrong : ChangeSpec := { name := "furnaceWrongs", fn := fun _ => fun
  | [d] => { results := [.lit (.bool false)], args := [d] }
  | _ => none }
def FurnaceWrongsWrongFalsely : Prop := furnaceWrongsRow.holds Try.pinned (OpenSpec.ofChange furnaceWrongsWrong)

/-- 'smaltolaw02.FurnaceTrials': WHATEVER THE INPUT: true; the input reads as it did. -/
def furnaceTrialsSpec : ChangeSpec := { name := "furnaceTrials", fn := fun _ => fun
  | [d] => { results := [.lit (.bool true)], args := [d] }
  | _ => none }
def furnaceTrialsRow : OpenClaim := { program := "ytegckmajjklonaa", sum := "1cb6bf99894e3b1e80aca4e47cfa9c98fd83e0feba84166b745d71ad36bf01e9", func := "smalto/smaltolaw02.FurnaceTrials", spec := "furnaceTrials", unfollowed := true, recurses := true, apart := false }
def FurnaceTrialsSaid : Prop := furnaceTrialsRow.holds Try.pinned (OpenSpec.ofChange furnaceTrialsSpec)

/-- ITS FALSE NEIGHBOUR: 'it returns false'. Refute it at one input. -/
def furnaceTrialsWrong : ChangeSpec := { name := "furnaceTrials", fn := fun _ => fun
  | [d] => { results := [.lit (.bool false)], args := [d] }
  | _ => none }
def FurnaceTrialsWrongFalsely : Prop := furnaceTrialsRow.holds Try.pinned (OpenSpec.ofChange furnaceTrialsWrong)

/-- 'smaltolaw02.FurnaceTruth': WHATEVER THE INPUT: true; the input reads as it did. -/
def furnaceTruthSpec : ChangeSpec := { name := "furnaceTruth", fn := fun _ => fun
  | [d] => { results := [.lit (.bool true)], args := [d] }
  | _ => none }
def furnaceTruthRow : OpenClaim := { program := "ytegckmajjklonaa", sum := "1cb6bf99894e3b1e80aca4e47cfa9c98fd83e0feba84166b745d71ad36bf01e9", func := "smalto/smaltolaw02.FurnaceTruth", spec := "furnaceTruth", unfollowed := true, recurses := true, apart := false }
def FurnaceTruthSaid : Prop := furnaceTruthRow.holds Try.pinned (OpenSpec.ofChange furnaceTruthSpec)

/-- ITS FALSE NEIGHBOUR: 'it returns false'. Refute it at one input. -/
def furnaceTruthWrong : ChangeSpec := { name := "furnaceTruth", fn := fun _ => fun
  | [d] => { results := [.lit (.bool false)], args := [d] }
  | _ => none }
def FurnaceTruthWrongFalsely : Prop := furnaceTruthRow.holds Try.pinned (OpenSpec.ofChange furnaceTruthWrong)

/-- 'smaltolaw02.FurnaceOne': WHATEVER THE INPUT: true; the input reads as it did. -/
def furnaceOneSpec : ChangeSpec := { name := "furnaceOne", fn := fun _ => fun
  | [d1, d2, d3] => { results := [.lit (.bool true)], args := [d1, d2, d3] }
  | _ => none }
def furnaceOneRow : OpenClaim := { program := "ytegckmajjklonaa", sum := "1cb6bf99894e3b1e80aca4e47cfa9c98fd83e0feba84166b745d71ad36bf01e9", func := "smalto/smaltolaw02.FurnaceOne", spec := "furnaceOne", unfollowed := true, recurses := true, apart := false }
def FurnaceOneSaid : Prop := furnaceOneRow.holds Try.pinned (OpenSpec.ofChange furnaceOneSpec)

/-- ITS FALSE NEIGHBOUR: 'it returns false'. Refute it at one input. -/
def furnaceOneWrong : ChangeSpec := { name := "furnaceOne", fn := fun _ => fun
  | [d1, d2, d3] => { results := [.lit (.bool false)], args := [d1, d2, d3] }
  | _ => none }
def FurnaceOneWrongFalsely : Prop := furnaceOneRow.holds Try.pinned (OpenSpec.ofChange furnaceOneWrong)

/-- 'smaltolaw02.FurnacePut': WHATEVER THE INPUT: true; the input reads as it did. -/
def furnacePutSpec : ChangeSpec := { name := "furnacePut", fn := fun _ => fun
  | [d1, d2, d3] => { results := [.lit (.bool true)], args := [d1, d2, d3] }
  | _ => none }
def furnacePutRow : OpenClaim := { program := "ytegckmajjklonaa", sum := "1cb6bf99894e3b1e80aca4e47cfa9c98fd83e0feba84166b745d71ad36bf01e9", func := "smalto/smaltolaw02.FurnacePut", spec := "furnacePut", unfollowed := true, recurses := true, apart := false }
def FurnacePutSaid : Prop := furnacePutRow.holds Try.pinned (OpenSpec.ofChange furnacePutSpec)

/-- ITS FALSE NEIGHBOUR: 'it returns false'. Refute it at one input. -/
def furnacePutWrong : ChangeSpec := { name := "furnacePut", fn := fun _ => fun
  | [d1, d2, d3] => { results := [.lit (.bool false)], args := [d1, d2, d3] }
  | _ => none }
def FurnacePutWrongFalsely : Prop := furnacePutRow.holds Try.pinned (OpenSpec.ofChange furnacePutWrong)

/-- 'smaltolaw02.FurnaceLies': WHATEVER THE INPUT: true; the input reads as it did. -/
def furnaceLiesSpec : ChangeSpec := { name := "furnaceLies", fn := fun _ => fun
  | [d1, d2] => { results := [.lit (.bool true)], args := [d1, d2] }
  | _ => none }
def furnaceLiesRow : OpenClaim := { program := "ytegckmajjklonaa", sum := "1cb6bf99894e3b1e80aca4e47cfa9c98fd83e0feba84166b745d71ad36bf01e9", func := "smalto/smaltolaw02.FurnaceLies", spec := "furnaceLies", unfollowed := true, recurses := true, apart := false }
def FurnaceLiesSaid : Prop := furnaceLiesRow.holds Try.pinned (OpenSpec.ofChange furnaceLiesSpec)

/-- ITS FALSE NEIGHBOUR: 'it returns false'. Refute it at one input. -/
def furnaceLiesWrong : ChangeSpec := { name := "furnaceLies", fn := fun _ => fun
  | [d1, d2] => { results := [.lit (.bool false)], args := [d1, d2] }
  | _ => none }
def FurnaceLiesWrongFalsely : Prop := furnaceLiesRow.holds Try.pinned (OpenSpec.ofChange furnaceLiesWrong)

/-- 'smaltolaw02.FurnaceTried': WHATEVER THE INPUT: true; the input reads as it did. -/
def furnaceTriedSpec : ChangeSpec := { name := "furnaceTried", fn := fun _ => fun
  | [d1, d2] => { results := [.lit (.bool true)], args := [d1, d2] }
  | _ => none }
def furnaceTriedRow : OpenClaim := { program := "ytegckmajjklonaa", sum := "1cb6bf99894e3b1e80aca4e47cfa9c98fd83e0feba84166b745d71ad36bf01e9", func := "smalto/smaltolaw02.FurnaceTried", spec := "furnaceTried", unfollowed := true, recurses := true, apart := false }
def FurnaceTriedSaid : Prop := furnaceTriedRow.holds Try.pinned (OpenSpec.ofChange furnaceTriedSpec)

/-- ITS FALSE NEIGHBOUR: 'it returns false'. Refute it at one input. -/
def furnaceTriedWrong : ChangeSpec := { name := "furnaceTried", fn := fun _ => fun
  | [d1, d2] => { results := [.lit (.bool false)], args := [d1, d2] }
  | _ => none }
def FurnaceTriedWrongFalsely : Prop := furnaceTriedRow.holds Try.pinned (OpenSpec.ofChange furnaceTriedWrong)

/- THE SECOND FORM. 'bulk': how many values and letters a reading holds, each counted each time it is reached (what is shared counts as often as it is met; a slice's spare places count too). A statement '..UptoSaid' is the law's where the arguments, and the package variables that the reading takes, are together of bulk at most 1048576: NARROWER than '..Said'. Prove '..Said' where nothing that the law and all that it calls make is longer than what came in: it says more and counts as full. Else prove '..UptoSaid'. A law counts once. -/
mutual
def uptoBulk {H : Type} : DataW H → Nat
  | .lit (.string bytes) => bytes.length + 1
  | .lit _ => 1
  | .nil => 1
  | .ptr d => uptoBulk d + 1
  | .slice elems spare => uptoBulkAll elems + uptoBulkAll spare + 1
  | .agg parts => uptoBulkAll parts + 1
  | .iface _ d => uptoBulk d + 1
  | .map entries => uptoBulkEntries entries + 1
  | .held _ => 1
def uptoBulkAll {H : Type} : List (DataW H) → Nat
  | [] => 0
  | d :: r => uptoBulk d + uptoBulkAll r
def uptoBulkEntries {H : Type} : List (Lit × DataW H) → Nat
  | [] => 0
  | x :: r => uptoBulkEntry x + uptoBulkEntries r
def uptoBulkEntry {H : Type} : Lit × DataW H → Nat
  | (.string bytes, d) => bytes.length + uptoBulk d + 1
  | (_, d) => uptoBulk d + 1
 end
def uptoSmall : (H : Type) → List (DataW H) → Bool := fun _ ds => decide (uptoBulkAll ds ≤ 1048576)
def OpenSpec.upto (s : _root_.Go.ChangeSpec) : _root_.Go.OpenSpec := { _root_.Go.OpenSpec.ofChange s with cond := some uptoSmall }

/-- 'smaltolaw02.FurnaceHeats', WHERE WHAT IT READS IS OF BULK AT MOST 1048576: true; the input reads as it did. -/
def furnaceHeatsUptoRow : OpenClaim := { program := "ytegckmajjklonaa", sum := "1cb6bf99894e3b1e80aca4e47cfa9c98fd83e0feba84166b745d71ad36bf01e9", func := "smalto/smaltolaw02.FurnaceHeats", spec := "furnaceHeats", unfollowed := true, recurses := true, apart := false, narrowed := true }
def FurnaceHeatsUptoSaid : Prop := furnaceHeatsUptoRow.holds Try.pinned (OpenSpec.upto furnaceHeatsSpec)

/-- 'smaltolaw02.FurnacePlaces', WHERE WHAT IT READS IS OF BULK AT MOST 1048576: true; the input reads as it did. -/
def furnacePlacesUptoRow : OpenClaim := { program := "ytegckmajjklonaa", sum := "1cb6bf99894e3b1e80aca4e47cfa9c98fd83e0feba84166b745d71ad36bf01e9", func := "smalto/smaltolaw02.FurnacePlaces", spec := "furnacePlaces", unfollowed := true, recurses := true, apart := false, narrowed := true }
def FurnacePlacesUptoSaid : Prop := furnacePlacesUptoRow.holds Try.pinned (OpenSpec.upto furnacePlacesSpec)

/-- 'smaltolaw02.FurnaceHottests', WHERE WHAT IT READS IS OF BULK AT MOST 1048576: true; the input reads as it did. -/
def furnaceHottestsUptoRow : OpenClaim := { program := "ytegckmajjklonaa", sum := "1cb6bf99894e3b1e80aca4e47cfa9c98fd83e0feba84166b745d71ad36bf01e9", func := "smalto/smaltolaw02.FurnaceHottests", spec := "furnaceHottests", unfollowed := true, recurses := true, apart := false, narrowed := true }
def FurnaceHottestsUptoSaid : Prop := furnaceHottestsUptoRow.holds Try.pinned (OpenSpec.upto furnaceHottestsSpec)

/-- 'smaltolaw02.FurnaceFills', WHERE WHAT IT READS IS OF BULK AT MOST 1048576: true; the input reads as it did. -/
def furnaceFillsUptoRow : OpenClaim := { program := "ytegckmajjklonaa", sum := "1cb6bf99894e3b1e80aca4e47cfa9c98fd83e0feba84166b745d71ad36bf01e9", func := "smalto/smaltolaw02.FurnaceFills", spec := "furnaceFills", unfollowed := true, recurses := true, apart := false, narrowed := true }
def FurnaceFillsUptoSaid : Prop := furnaceFillsUptoRow.holds Try.pinned (OpenSpec.upto furnaceFillsSpec)

/-- 'smaltolaw02.FurnaceTurns', WHERE WHAT IT READS IS OF BULK AT MOST 1048576: true; the input reads as it did. -/
def furnaceTurnsUptoRow : OpenClaim := { program := "ytegckmajjklonaa", sum := "1cb6bf99894e3b1e80aca4e47cfa9c98fd83e0feba84166b745d71ad36bf01e9", func := "smalto/smaltolaw02.FurnaceTurns", spec := "furnaceTurns", unfollowed := true, recurses := true, apart := false, narrowed := true }
def FurnaceTurnsUptoSaid : Prop := furnaceTurnsUptoRow.holds Try.pinned (OpenSpec.upto furnaceTurnsSpec)

/-- 'smaltolaw02.FurnaceWrongs', WHERE WHAT IT READS IS OF BULK AT MOST 1048576: true; the input reads as it did. -/
def furnaceWrongsUptoRow : OpenClaim := { program := "ytegckmajjklonaa", sum := "1cb6bf99894e3b1e80aca4e47cfa9c98fd83e0feba84166b745d71ad36bf01e9", func := "smalto/smaltolaw02.FurnaceWrongs", spec := "furnaceWrongs", unfollowed := true, recurses := true, apart := false, narrowed := true }
def FurnaceWrongsUptoSaid : Prop := furnaceWrongsUptoRow.holds Try.pinned (OpenSpec.upto furnaceWrongsSpec)

/-- 'smaltolaw02.FurnaceTrials', WHERE WHAT IT READS IS OF BULK AT MOST 1048576: true; the input reads as it did. -/
def furnaceTrialsUptoRow : OpenClaim := { program := "ytegckmajjklonaa", sum := "1cb6bf99894e3b1e80aca4e47cfa9c98fd83e0feba84166b745d71ad36bf01e9", func := "smalto/smaltolaw02.FurnaceTrials", spec := "furnaceTrials", unfollowed := true, recurses := true, apart := false, narrowed := true }
def FurnaceTrialsUptoSaid : Prop := furnaceTrialsUptoRow.holds Try.pinned (OpenSpec.upto furnaceTrialsSpec)

/-- 'smaltolaw02.FurnaceTruth', WHERE WHAT IT READS IS OF BULK AT MOST 1048576: true; the input reads as it did. -/
def furnaceTruthUptoRow : OpenClaim := { program := "ytegckmajjklonaa", sum := "1cb6bf99894e3b1e80aca4e47cfa9c98fd83e0feba84166b745d71ad36bf01e9", func := "smalto/smaltolaw02.FurnaceTruth", spec := "furnaceTruth", unfollowed := true, recurses := true, apart := false, narrowed := true }
def FurnaceTruthUptoSaid : Prop := furnaceTruthUptoRow.holds Try.pinned (OpenSpec.upto furnaceTruthSpec)

/-- 'smaltolaw02.FurnaceOne', WHERE WHAT IT READS IS OF BULK AT MOST 1048576: true; the input reads as it did. -/
def furnaceOneUptoRow : OpenClaim := { program := "ytegckmajjklonaa", sum := "1cb6bf99894e3b1e80aca4e47cfa9c98fd83e0feba84166b745d71ad36bf01e9", func := "smalto/smaltolaw02.FurnaceOne", spec := "furnaceOne", unfollowed := true, recurses := true, apart := false, narrowed := true }
def FurnaceOneUptoSaid : Prop := furnaceOneUptoRow.holds Try.pinned (OpenSpec.upto furnaceOneSpec)

/-- 'smaltolaw02.FurnacePut', WHERE WHAT IT READS IS OF BULK AT MOST 1048576: true; the input reads as it did. -/
def furnacePutUptoRow : OpenClaim := { program := "ytegckmajjklonaa", sum := "1cb6bf99894e3b1e80aca4e47cfa9c98fd83e0feba84166b745d71ad36bf01e9", func := "smalto/smaltolaw02.FurnacePut", spec := "furnacePut", unfollowed := true, recurses := true, apart := false, narrowed := true }
def FurnacePutUptoSaid : Prop := furnacePutUptoRow.holds Try.pinned (OpenSpec.upto furnacePutSpec)

/-- 'smaltolaw02.FurnaceLies', WHERE WHAT IT READS IS OF BULK AT MOST 1048576: true; the input reads as it did. -/
def furnaceLiesUptoRow : OpenClaim := { program := "ytegckmajjklonaa", sum := "1cb6bf99894e3b1e80aca4e47cfa9c98fd83e0feba84166b745d71ad36bf01e9", func := "smalto/smaltolaw02.FurnaceLies", spec := "furnaceLies", unfollowed := true, recurses := true, apart := false, narrowed := true }
def FurnaceLiesUptoSaid : Prop := furnaceLiesUptoRow.holds Try.pinned (OpenSpec.upto furnaceLiesSpec)

/-- 'smaltolaw02.FurnaceTried', WHERE WHAT IT READS IS OF BULK AT MOST 1048576: true; the input reads as it did. -/
def furnaceTriedUptoRow : OpenClaim := { program := "ytegckmajjklonaa", sum := "1cb6bf99894e3b1e80aca4e47cfa9c98fd83e0feba84166b745d71ad36bf01e9", func := "smalto/smaltolaw02.FurnaceTried", spec := "furnaceTried", unfollowed := true, recurses := true, apart := false, narrowed := true }
def FurnaceTriedUptoSaid : Prop := furnaceTriedUptoRow.holds Try.pinned (OpenSpec.upto furnaceTriedSpec)

end Rows
end Go.Proofs.Ytegckmajjklonaa
