/-
  DERIVED. GIVEN WITH THE SEED: THE CARDS: each row of YtedbifiejciocaeGreatDoorRows.lean that lists a variable, with what it lists TIED to the program's text (the seventh form; the later family's looks); each row that meets fmt, with fmt's text TOLD by the authors' own Lean function (tested against real Go, not proved from fmt's source: count such statements apart). THE CARD IS WHAT COUNTS. Prove the row's statement (the work); the ties are given (YtedbifiejciocaeGreatDoorTie.lean); close each card by the builder's one call (the guide's Derived/Test/ToyasCard.lean, 'card_holds'). Laid BY PROGRAM, IN A SANDBOX (cutbox-door.mjs). By AI agents, Wed Nov 11 2026. No macro, syntax, notation, axiom, sorry.
-/
import Derived.Test.YtedbifiejciocaeGreatDoorRows
import GoSem.ClaimSeven
namespace Go.Proofs.YtedbifiejciocaeGreatDoor
namespace Rows

/-- THE TIED CARD OF 'laws.FnRat'. -/
def fnRatCard : Claim7 := { stood := { row := fnRatRow, standIns := [], harness := (true, "b0b3855b6e1c40f609bc7d2f993f25dc28e58e94ab46cf8f39d682c6f48f5daf"), looks := true }, kinds := [], alts := [], laidByText := true, laidKinds := [.data, .data, .data, .sentinel, .sentinel], laidTests := true, laidLooks := .later }
def FnRatCardSaid : Prop := Claim7.holds Tryz.pinned (.plain (OpenSpec.ofChange fnRatSpec)) fnRatCard

/-- THE SECOND FORM's CARD OF 'laws.FnRat'. -/
def fnRatUptoCard : Claim7 := { stood := { row := fnRatUptoRow, standIns := [], harness := (true, "b0b3855b6e1c40f609bc7d2f993f25dc28e58e94ab46cf8f39d682c6f48f5daf"), looks := true }, kinds := [], alts := [], laidByText := true, laidKinds := [.data, .data, .data, .sentinel, .sentinel], laidTests := true, laidLooks := .later }
def FnRatUptoCardSaid : Prop := Claim7.holds Tryz.pinned (.plain (OpenSpec.upto fnRatSpec)) fnRatUptoCard
end Rows
end Go.Proofs.YtedbifiejciocaeGreatDoor
