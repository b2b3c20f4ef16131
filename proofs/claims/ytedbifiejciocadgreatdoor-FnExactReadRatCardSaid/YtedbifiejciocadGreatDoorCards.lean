/-
  DERIVED. GIVEN WITH THE SEED: THE CARDS: each row of YtedbifiejciocadGreatDoorRows.lean that lists a variable, with what it lists TIED to the program's text (the seventh form; the later family's looks); each row that meets fmt, with fmt's text TOLD by the authors' own Lean function (tested against real Go, not proved from fmt's source: count such statements apart). THE CARD IS WHAT COUNTS. Prove the row's statement (the work); the ties are given (YtedbifiejciocadGreatDoorTie.lean); close each card by the builder's one call (the guide's Derived/Test/ToyasCard.lean, 'card_holds'). Laid BY PROGRAM, IN A SANDBOX (cutbox-door.mjs). By AI agents, Wed Nov 11 2026. No macro, syntax, notation, axiom, sorry.
-/
import Derived.Test.YtedbifiejciocadGreatDoorRows
import GoSem.ClaimSeven
namespace Go.Proofs.YtedbifiejciocadGreatDoor
namespace Rows

/-- THE TIED CARD OF 'laws.FnExactReadRat'. -/
def fnExactReadRatCard : Claim7 := { stood := { row := fnExactReadRatRow, standIns := [], harness := (true, "78b0ab2fc65d0a3df78f943de5343fbc47f5fea27ac8dc413eb384a924fc83bf"), looks := true }, kinds := [], alts := [], laidByText := true, laidKinds := [.data, .data, .data, .sentinel, .sentinel], laidTests := true, laidLooks := .later }
def FnExactReadRatCardSaid : Prop := Claim7.holds Tryz.pinned (.plain (OpenSpec.ofChange fnExactReadRatSpec)) fnExactReadRatCard

/-- THE SECOND FORM's CARD OF 'laws.FnExactReadRat'. -/
def fnExactReadRatUptoCard : Claim7 := { stood := { row := fnExactReadRatUptoRow, standIns := [], harness := (true, "78b0ab2fc65d0a3df78f943de5343fbc47f5fea27ac8dc413eb384a924fc83bf"), looks := true }, kinds := [], alts := [], laidByText := true, laidKinds := [.data, .data, .data, .sentinel, .sentinel], laidTests := true, laidLooks := .later }
def FnExactReadRatUptoCardSaid : Prop := Claim7.holds Tryz.pinned (.plain (OpenSpec.upto fnExactReadRatSpec)) fnExactReadRatUptoCard
end Rows
end Go.Proofs.YtedbifiejciocadGreatDoor
