/-
  No cell of these rows narrows 'for every input' (looked for: loops, veiled, ifaces, maps, wideKeys, modest, calm, conditions, laid).
  DERIVED. THE GIVEN ROWS OF THIS SEAT. 3 by the template 'for every input the law returns true; each argument reads behind the call as it read before'; 0 by the template 'total and deterministic' (their statements: YticeamhfobihpaaTotals.lean).
  GIVEN WITH THE SEED: the statements are not yours to turn. If you find one false, say at which input.
  Laid BY PROGRAM, IN A SANDBOX (cutbox-rows.mjs): the forced cells as the released guide's own fill.sh prints them over the translation 28b61c07077b172e… (all of the seat's roots in one cut). By AI agents, Wed Nov 11 2026. No macro, syntax, notation, axiom, sorry.
-/
import Derived.Test.YticeamhfobihpaaChecked
import GoSem.Claim
import GoSem.ClaimJoined
import GoSem.ClaimMapViews
import Derived.JoinedTies
import Derived.KernelRfl
namespace Go.Proofs.Yticeamhfobihpaa
/- THE CELL 'sum', in the pinned program and in every row, IS THE sha256 OF THE DUMP (.gsa) THAT YticeamhfobihpaaProg.lean LOADS. Nothing in Lean hashes anything: it is a label: what it is worth is what the hold of that sum in a sandbox is worth. -/
noncomputable def Try.pinned : Pinned := { name := "yticeamhfobihpaa", sum := "28b61c07077b172e1369dde2ab5de1df512035b81f12118fa5bcc70d004b6ebd", checked := Try.checked }
namespace Rows
def none {H : Type} : Left H := { results := [], args := [] }

/-- 'laws.FnExactPlainProblem': WHATEVER THE INPUT: true; the input reads as it did. -/
def fnExactPlainProblemSpec : ChangeSpec := { name := "fnExactPlainProblem", fn := fun _ => fun
  | [] => { results := [.lit (.bool true)], args := [] }
  | _ => none }
def fnExactPlainProblemRow : OpenClaim := { program := "yticeamhfobihpaa", sum := "28b61c07077b172e1369dde2ab5de1df512035b81f12118fa5bcc70d004b6ebd", func := "loop.example/g00615/laws.FnExactPlainProblem", spec := "fnExactPlainProblem", apart := false }
def FnExactPlainProblemSaid : Prop := fnExactPlainProblemRow.holds Try.pinned (OpenSpec.ofChange fnExactPlainProblemSpec)

/-- ITS FALSE NEIGHBOUR: 'it returns false'. Refute it at one input. -/
def fnExactPlainProblemWrong : ChangeSpec := { name := "fnExactPlainProblem", fn := fun _ => fun
  | [] => { results := [.lit (.bool false)], args := [] }
  | _ => none }
def FnExactPlainProblemWrongFalsely : Prop := fnExactPlainProblemRow.holds Try.pinned (OpenSpec.ofChange fnExactPlainProblemWrong)

/-- 'laws.FnExactRecordOK': WHATEVER THE INPUT: true; the input reads as it did. -/
def fnExactRecordOKSpec : ChangeSpec := { name := "fnExactRecordOK", fn := fun _ => fun
  | [d] => { results := [.lit (.bool true)], args := [d] }
  | _ => none }
def fnExactRecordOKRow : OpenClaim := { program := "yticeamhfobihpaa", sum := "28b61c07077b172e1369dde2ab5de1df512035b81f12118fa5bcc70d004b6ebd", func := "loop.example/g00615/laws.FnExactRecordOK", spec := "fnExactRecordOK", unfollowed := true, recurses := true, apart := false }
def FnExactRecordOKSaid : Prop := fnExactRecordOKRow.holds Try.pinned (OpenSpec.ofChange fnExactRecordOKSpec)

/-- ITS FALSE NEIGHBOUR: 'it returns false'. Refute it at one input. -/
def fnExactRecordOKWrong : ChangeSpec := { name := "fnExactRecordOK", fn := fun _ => fun
  | [d] => { results := [.lit (.bool false)], args := [d] }
  | _ => none }
def FnExactRecordOKWrongFalsely : Prop := fnExactRecordOKRow.holds Try.pinned (OpenSpec.ofChange fnExactRecordOKWrong)

/-- 'laws.FnExactReportOK': WHATEVER THE INPUT: true; the input reads as it did. -/
def fnExactReportOKSpec : ChangeSpec := { name := "fnExactReportOK", fn := fun _ => fun
  | [d] => { results := [.lit (.bool true)], args := [d] }
  | _ => none }
def fnExactReportOKRow : OpenClaim := { program := "yticeamhfobihpaa", sum := "28b61c07077b172e1369dde2ab5de1df512035b81f12118fa5bcc70d004b6ebd", func := "loop.example/g00615/laws.FnExactReportOK", spec := "fnExactReportOK", unfollowed := true, recurses := true, apart := false }
def FnExactReportOKSaid : Prop := fnExactReportOKRow.holds Try.pinned (OpenSpec.ofChange fnExactReportOKSpec)

/-- ITS FALSE NEIGHBOUR: 'it returns false'. Refute it at one input. -/
def fnExactReportOKWrong : ChangeSpec := { name := "fnExactReportOK", fn := fun _ => fun
  | [d] => { results := [.lit (.bool false)], args := [d] }
  | _ => none }
def FnExactReportOKWrongFalsely : Prop := fnExactReportOKRow.holds Try.pinned (OpenSpec.ofChange fnExactReportOKWrong)

/- THE SECOND FORM. 'bulk': how many values and letters a reading holds, each counted each time it is reached (what is shared counts as often as it is met; a slice's spare places count too). A statement '..UptoSaid' is the law's where the arguments, and the package variables that the reading takes, are together of bulk at most 1048576: NARROWER than '..Said'. Prove '..Said' where nothing that the law and all that it calls make is longer than what came in: it says more and counts as full. Else prove '..UptoSaid'. A law counts once. -/
mutual
def uptoBulk {H : Type} : DataW H → Nat
  | .lit (.string bytes) => bytes.length + 1
  | .lit _ => 1
  | .nil => 1
  | .ptr d => uptoBulk d + 1
  | .slice elems spare => uptoBulkAll elems + uptoBulkAll spare + 1
  | .agg parts => uptoBulkAll parts + 1
  | .iface _ d => uptoBulk d + 1
  | .map entries => uptoBulkEntries entries + 1
  | .held _ => 1
def uptoBulkAll {H : Type} : List (DataW H) → Nat
  | [] => 0
  | d :: r => uptoBulk d + uptoBulkAll r
def uptoBulkEntries {H : Type} : List (Lit × DataW H) → Nat
  | [] => 0
  | x :: r => uptoBulkEntry x + uptoBulkEntries r
def uptoBulkEntry {H : Type} : Lit × DataW H → Nat
  | (.string bytes, d) => bytes.length + uptoBulk d + 1
  | (_, d) => uptoBulk d + 1
 end
def uptoSmall : (H : Type) → List (DataW H) → Bool := fun _ ds => decide (uptoBulkAll ds ≤ 1048576)
def OpenSpec.upto (s : _root_.Go.ChangeSpec) : _root_.Go.OpenSpec := { _root_.Go.OpenSpec.ofChange s with cond := some uptoSmall }

/-- 'laws.FnExactPlainProblem', WHERE WHAT IT READS IS OF BULK AT MOST 1048576: true; the input reads as it did. -/
def fnExactPlainProblemUptoRow : OpenClaim := { program := "yticeamhfobihpaa", sum := "28b61c07077b172e1369dde2ab5de1df512035b81f12118fa5bcc70d004b6ebd", func := "loop.example/g00615/laws.FnExactPlainProblem", spec := "fnExactPlainProblem", apart := false, narrowed := true }
def FnExactPlainProblemUptoSaid : Prop := fnExactPlainProblemUptoRow.holds Try.pinned (OpenSpec.upto fnExactPlainProblemSpec)

/-- 'laws.FnExactRecordOK', WHERE WHAT IT READS IS OF BULK AT MOST 1048576: true; the input reads as it did. -/
def fnExactRecordOKUptoRow : OpenClaim := { program := "yticeamhfobihpaa", sum := "28b61c07077b172e1369dde2ab5de1df512035b81f12118fa5bcc70d004b6ebd", func := "loop.example/g00615/laws.FnExactRecordOK", spec := "fnExactRecordOK", unfollowed := true, recurses := true, apart := false, narrowed := true }
def FnExactRecordOKUptoSaid : Prop := fnExactRecordOKUptoRow.holds Try.pinned (OpenSpec.upto fnExactRecordOKSpec)

/-- 'laws.FnExactReportOK', WHERE WHAT IT READS IS OF BULK AT MOST 1048576: true; the input reads as it did. -/
def fnExactReportOKUptoRow : OpenClaim := { program := "yticeamhfobihpaa", sum := "28b61c07077b172e1369dde2ab5de1df512035b81f12118fa5bcc70d004b6ebd", func := "loop.example/g00615/laws.FnExactReportOK", spec := "fnExactReportOK", unfollowed := true, recurses := true, apart := false, narrowed := true }
def FnExactReportOKUptoSaid : Prop := fnExactReportOKUptoRow.holds Try.pinned (OpenSpec.upto fnExactReportOKSpec)

end Rows
end Go.Proofs.Yticeamhfobihpaa
