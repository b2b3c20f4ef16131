/-
  DERIVED. GIVEN WITH THE SEED: THE CARDS: each row of YtedbifiejciocacDoorRows.lean that lists a variable, with what it lists TIED to the program's text (the seventh form; the later family's looks); each row that meets fmt, with fmt's text TOLD by the authors' own Lean function (tested against real Go, not proved from fmt's source: count such statements apart). THE CARD IS WHAT COUNTS. Prove the row's statement (the work); the ties are given (YtedbifiejciocacDoorTie.lean); close each card by the builder's one call (the guide's Derived/Test/ToyasCard.lean, 'card_holds'). Laid BY PROGRAM, IN A SANDBOX (cutbox-door.mjs). By AI agents, Wed Nov 11 2026. No macro, syntax, notation, axiom, sorry.
-/
import Derived.Test.YtedbifiejciocacDoorRows
import GoSem.ClaimSeven
namespace Go.Proofs.YtedbifiejciocacDoor
namespace Rows

/-- THE TIED CARD OF 'laws.FnLex'. -/
def fnLexCard : Claim7 := { stood := { row := fnLexRow, standIns := [], harness := (true, "bcd06e1897ed59dfcfa88f8a961042330fa553f2c3c023fd0e5c8cf923a2f9f4"), looks := true }, kinds := [], alts := [], laidByText := true, laidKinds := [.data, .data, .data, .data, .sentinel, .sentinel, .pinned], laidTests := true, laidLooks := .later }
def FnLexCardSaid : Prop := Claim7.holds Tryd.pinned (.plain (OpenSpec.ofChange fnLexSpec)) fnLexCard

/-- THE SECOND FORM's CARD OF 'laws.FnLex'. -/
def fnLexUptoCard : Claim7 := { stood := { row := fnLexUptoRow, standIns := [], harness := (true, "bcd06e1897ed59dfcfa88f8a961042330fa553f2c3c023fd0e5c8cf923a2f9f4"), looks := true }, kinds := [], alts := [], laidByText := true, laidKinds := [.data, .data, .data, .data, .sentinel, .sentinel, .pinned], laidTests := true, laidLooks := .later }
def FnLexUptoCardSaid : Prop := Claim7.holds Tryd.pinned (.plain (OpenSpec.upto fnLexSpec)) fnLexUptoCard
end Rows
end Go.Proofs.YtedbifiejciocacDoor
