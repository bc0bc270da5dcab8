/-
  DERIVED. GIVEN WITH THE SEED: THE CARDS: each row of YtcgmelealalhhaaGreatDoorRows.lean that lists a variable, with what it lists TIED to the program's text (the seventh form; the later family's looks); each row that meets fmt, with fmt's text TOLD by the authors' own Lean function (tested against real Go, not proved from fmt's source: count such statements apart). THE CARD IS WHAT COUNTS. Prove the row's statement (the work); the ties are given (YtcgmelealalhhaaGreatDoorTie.lean); close each card by the builder's one call (the guide's Derived/Test/ToyasCard.lean, 'card_holds'). Laid BY PROGRAM, IN A SANDBOX (cutbox-door.mjs). By AI agents, Wed Nov 11 2026. No macro, syntax, notation, axiom, sorry.
-/
import Derived.Test.YtcgmelealalhhaaGreatDoorRows
import GoSem.ClaimSeven
namespace Go.Proofs.YtcgmelealalhhaaGreatDoor
namespace Rows

/-- THE TIED CARD OF 'smaltotop.TopLoadPlace'. -/
def topLoadPlaceCard : Claim7 := { stood := { row := topLoadPlaceRow, standIns := [], harness := (true, "9a4ecbd70f853c9715da6c00e76d496c4f5c1c4109924e56c5c776359b307af8"), looks := false }, kinds := [], alts := [], laidByText := true, laidKinds := [.data, .data], laidTests := true, laidLooks := .later }
def TopLoadPlaceCardSaid : Prop := Claim7.holds Tryz.pinned (.plain (OpenSpec.ofChange topLoadPlaceSpec)) topLoadPlaceCard

/-- THE SECOND FORM's CARD OF 'smaltotop.TopLoadPlace'. -/
def topLoadPlaceUptoCard : Claim7 := { stood := { row := topLoadPlaceUptoRow, standIns := [], harness := (true, "9a4ecbd70f853c9715da6c00e76d496c4f5c1c4109924e56c5c776359b307af8"), looks := false }, kinds := [], alts := [], laidByText := true, laidKinds := [.data, .data], laidTests := true, laidLooks := .later }
def TopLoadPlaceUptoCardSaid : Prop := Claim7.holds Tryz.pinned (.plain (OpenSpec.upto topLoadPlaceSpec)) topLoadPlaceUptoCard
end Rows
end Go.Proofs.YtcgmelealalhhaaGreatDoor
