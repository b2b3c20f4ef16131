/-
  DERIVED. GIVEN WITH THE SEED: THE CARDS: each row of YticeamhfobihpaaDoorRows.lean that lists a variable, with what it lists TIED to the program's text (the seventh form; the later family's looks); each row that meets fmt, with fmt's text TOLD by the authors' own Lean function (tested against real Go, not proved from fmt's source: count such statements apart). THE CARD IS WHAT COUNTS. Prove the row's statement (the work); the ties are given (YticeamhfobihpaaDoorTie.lean); close each card by the builder's one call (the guide's Derived/Test/ToyasCard.lean, 'card_holds'). Laid BY PROGRAM, IN A SANDBOX (cutbox-door.mjs). By AI agents, Wed Nov 11 2026. No macro, syntax, notation, axiom, sorry.
-/
import Derived.Test.YticeamhfobihpaaDoorRows
import GoSem.ClaimSeven
namespace Go.Proofs.YticeamhfobihpaaDoor
namespace Rows

/-- THE TIED CARD OF 'laws.FnExactTokenText'. -/
def fnExactTokenTextCard : Claim7 := { stood := { row := fnExactTokenTextRow, standIns := [], harness := (true, "434cebb21488a853ee45327b171ec0755a28ec94dab36a75d125fd10886f404e"), looks := false }, kinds := [], alts := [], laidByText := true, laidKinds := [.data, .data, .data], laidTests := true, laidLooks := .later }
def FnExactTokenTextCardSaid : Prop := Claim7.holds Tryd.pinned (.plain (OpenSpec.ofChange fnExactTokenTextSpec)) fnExactTokenTextCard

/-- THE TIED CARD OF 'laws.FnExactPrintExpr'. -/
def fnExactPrintExprCard : Claim7 := { stood := { row := fnExactPrintExprRow, standIns := [], harness := (true, "434cebb21488a853ee45327b171ec0755a28ec94dab36a75d125fd10886f404e"), looks := false }, kinds := [], alts := [], laidByText := true, laidKinds := [.data, .data, .data], laidTests := true, laidLooks := .later }
def FnExactPrintExprCardSaid : Prop := Claim7.holds Tryd.pinned (.plain (OpenSpec.ofChange fnExactPrintExprSpec)) fnExactPrintExprCard

/-- THE SECOND FORM's CARD OF 'laws.FnExactTokenText'. -/
def fnExactTokenTextUptoCard : Claim7 := { stood := { row := fnExactTokenTextUptoRow, standIns := [], harness := (true, "434cebb21488a853ee45327b171ec0755a28ec94dab36a75d125fd10886f404e"), looks := false }, kinds := [], alts := [], laidByText := true, laidKinds := [.data, .data, .data], laidTests := true, laidLooks := .later }
def FnExactTokenTextUptoCardSaid : Prop := Claim7.holds Tryd.pinned (.plain (OpenSpec.upto fnExactTokenTextSpec)) fnExactTokenTextUptoCard

/-- THE SECOND FORM's CARD OF 'laws.FnExactPrintExpr'. -/
def fnExactPrintExprUptoCard : Claim7 := { stood := { row := fnExactPrintExprUptoRow, standIns := [], harness := (true, "434cebb21488a853ee45327b171ec0755a28ec94dab36a75d125fd10886f404e"), looks := false }, kinds := [], alts := [], laidByText := true, laidKinds := [.data, .data, .data], laidTests := true, laidLooks := .later }
def FnExactPrintExprUptoCardSaid : Prop := Claim7.holds Tryd.pinned (.plain (OpenSpec.upto fnExactPrintExprSpec)) fnExactPrintExprUptoCard
end Rows
end Go.Proofs.YticeamhfobihpaaDoor
