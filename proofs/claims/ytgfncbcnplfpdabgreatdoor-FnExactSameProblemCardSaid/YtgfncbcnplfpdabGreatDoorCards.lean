/-
  DERIVED. GIVEN WITH THE SEED: THE CARDS: each row of YtgfncbcnplfpdabGreatDoorRows.lean that lists a variable, with what it lists TIED to the program's text (the seventh form; the later family's looks); each row that meets fmt, with fmt's text TOLD by the authors' own Lean function (tested against real Go, not proved from fmt's source: count such statements apart). THE CARD IS WHAT COUNTS. Prove the row's statement (the work); the ties are given (YtgfncbcnplfpdabGreatDoorTie.lean); close each card by the builder's one call (the guide's Derived/Test/ToyasCard.lean, 'card_holds'). Laid BY PROGRAM, IN A SANDBOX (cutbox-door.mjs). By AI agents, Wed Nov 11 2026. No macro, syntax, notation, axiom, sorry.
-/
import Derived.Test.YtgfncbcnplfpdabGreatDoorRows
import GoSem.ClaimSeven
namespace Go.Proofs.YtgfncbcnplfpdabGreatDoor
namespace Rows

/-- THE TIED CARD OF 'laws.FnExactSameProblem'. -/
def fnExactSameProblemCard : Claim7 := { stood := { row := fnExactSameProblemRow, standIns := [], harness := (true, "dd9b0fc26f63cd3d01bbd80851814c746278b44826520698c7410a6841d1f824"), looks := false }, kinds := [], alts := [], laidByText := true, laidKinds := [.data, .data, .data, .widerDeep], laidTests := true, laidLooks := .later }
def FnExactSameProblemCardSaid : Prop := Claim7.holds Tryz.pinned (.plain (OpenSpec.ofChange fnExactSameProblemSpec)) fnExactSameProblemCard

/-- THE SECOND FORM's CARD OF 'laws.FnExactSameProblem'. -/
def fnExactSameProblemUptoCard : Claim7 := { stood := { row := fnExactSameProblemUptoRow, standIns := [], harness := (true, "dd9b0fc26f63cd3d01bbd80851814c746278b44826520698c7410a6841d1f824"), looks := false }, kinds := [], alts := [], laidByText := true, laidKinds := [.data, .data, .data, .widerDeep], laidTests := true, laidLooks := .later }
def FnExactSameProblemUptoCardSaid : Prop := Claim7.holds Tryz.pinned (.plain (OpenSpec.upto fnExactSameProblemSpec)) fnExactSameProblemUptoCard
end Rows
end Go.Proofs.YtgfncbcnplfpdabGreatDoor
