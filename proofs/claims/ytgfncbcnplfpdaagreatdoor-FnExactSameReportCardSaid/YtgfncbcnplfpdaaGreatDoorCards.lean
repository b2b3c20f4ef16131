/-
  DERIVED. GIVEN WITH THE SEED: THE CARDS: each row of YtgfncbcnplfpdaaGreatDoorRows.lean that lists a variable, with what it lists TIED to the program's text (the seventh form; the later family's looks); each row that meets fmt, with fmt's text TOLD by the authors' own Lean function (tested against real Go, not proved from fmt's source: count such statements apart). THE CARD IS WHAT COUNTS. Prove the row's statement (the work); the ties are given (YtgfncbcnplfpdaaGreatDoorTie.lean); close each card by the builder's one call (the guide's Derived/Test/ToyasCard.lean, 'card_holds'). Laid BY PROGRAM, IN A SANDBOX (cutbox-door.mjs). By AI agents, Wed Nov 11 2026. No macro, syntax, notation, axiom, sorry.
-/
import Derived.Test.YtgfncbcnplfpdaaGreatDoorRows
import GoSem.ClaimSeven
namespace Go.Proofs.YtgfncbcnplfpdaaGreatDoor
namespace Rows

/-- THE TIED CARD OF 'laws.FnExactSameReport'. -/
def fnExactSameReportCard : Claim7 := { stood := { row := fnExactSameReportRow, standIns := [], harness := (true, "ac2938fb347a3ac81272b75ec27fe44dddc2b541c9765123dbef325e8d2afd90"), looks := false }, kinds := [], alts := [], laidByText := true, laidKinds := [.data, .data, .data, .widerDeep], laidTests := true, laidLooks := .later }
def FnExactSameReportCardSaid : Prop := Claim7.holds Tryz.pinned (.plain (OpenSpec.ofChange fnExactSameReportSpec)) fnExactSameReportCard

/-- THE SECOND FORM's CARD OF 'laws.FnExactSameReport'. -/
def fnExactSameReportUptoCard : Claim7 := { stood := { row := fnExactSameReportUptoRow, standIns := [], harness := (true, "ac2938fb347a3ac81272b75ec27fe44dddc2b541c9765123dbef325e8d2afd90"), looks := false }, kinds := [], alts := [], laidByText := true, laidKinds := [.data, .data, .data, .widerDeep], laidTests := true, laidLooks := .later }
def FnExactSameReportUptoCardSaid : Prop := Claim7.holds Tryz.pinned (.plain (OpenSpec.upto fnExactSameReportSpec)) fnExactSameReportUptoCard
end Rows
end Go.Proofs.YtgfncbcnplfpdaaGreatDoor
