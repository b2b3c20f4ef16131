/- A plain machine, sound for the given model, and contracts of functions over it, part 36: ARX. Nothing is assumed. -/
import Derived.Test.YticeamhfobihpaaDoorAXE
import Derived.Test.YticeamhfobihpaaDoorRows
import Derived.Test.YticeamhfobihpaaDoorCards
import Derived.Test.YticeamhfobihpaaDoorTie
import Derived.Lay
import Derived.Lib.LaidTab
import Derived.LaidLaws
import Derived.LaidSub
import Derived.MakeChecks
import Derived.SevenTiedAt
set_option linter.unusedSimpArgs false
set_option linter.unusedVariables false
set_option linter.unusedSectionVars false
/- ARX -/
namespace Go.PL
open Go Go.Proofs
section
variable {H : Type} {enc : TypeId × Value → H} {w : World}
theorem rdNode : Rd enc Tryd.prog w 62 (fun k : Nd => [.i k.op, .i k.a, .i k.b, .i k.n]) (fun _ => True) :=
  (Rd.struct Tryd.underlying62 (by kernel_rfl) (RdF.cons (n := 1) rfl (by kernel_rfl) (Rd.int Tryd.underlying3) (RdF.cons (n := 1) rfl (by kernel_rfl) (Rd.int Tryd.underlying3) (RdF.cons (n := 1) rfl (by kernel_rfl) (Rd.int Tryd.underlying3) (RdF.cons (n := 1) rfl (by kernel_rfl) (Rd.int Tryd.underlying3) RdF.nil))))).map
    (fun x => (⟨x.1, x.2.1, x.2.2.1, x.2.2.2.1⟩ : Nd)) (fun _ => rfl) (fun _ _ => trivial)
theorem rdNodes : Rd enc Tryd.prog w 30 (fun l : List Nd => [.sl (l.map encNd)]) (fun l => l.length < 1152921504606846976) :=
  (Rd.slice (sz := 4) (by_ := 32) encNd Tryd.underlying30 (by kernel_rfl) (by kernel_rfl) (by decide) (fun _ => rfl) (fun _ => rfl) rdNode).map id (fun _ => rfl) fun l h => by have e : reachBytes ≤ 1152921504606846976 := (by decide); have := h.1; simp only [id]; omega
theorem rdExpr : Rd enc Tryd.prog w 32 (fun l : List Nd => [.sl (l.map encNd)]) (fun l => l.length < 1152921504606846976) :=
  (Rd.struct Tryd.underlying32 (by kernel_rfl) (RdF.cons (n := 1) rfl (by kernel_rfl) rdNodes RdF.nil)).map
    (fun x => x.1) (fun _ => rfl) (fun x h => h.1)
end
/-- The law's contract as the machine bears it, where the table lies. -/
theorem callTrueT {f : FuncId} {x : D} (h : CC f [.d x] [] (.d (.b true)) []) {g : Nat} (hg : Tryd.prog.globalNamed tabName = some g) {W : World} (ht : Lib.TabIs Tryd.prog W tabName .u64 Lib.pow10Tab) {v : Value} (hv : RelD W (PrW W) x v) :
    Calls Tryd.prog f #[v] W fun e W' => e = .returned (.bool true) ∧ RowKit.Below W.heap.size W W' := by
  obtain ⟨et, fr, hG⟩ := gok_of hg ht ⟨fun _ => 0, fun _ => 0⟩
  have hs := Den.says (T := TT) (gl := glT g et fr) (by kernel_rfl) (xn_says rfl hg) h
  refine (hs.2 W (PrW W) ⟨fun _ => 0, fun _ => 0⟩ #[v] (memW W _) (hG _) rfl fun i hi => ?_).mono fun e W' ⟨u, Pr', p', h1, h2, h3⟩ => ?_
  · obtain rfl : i = 0 := by simpa using hi
    exact .d hv
  · subst h1
    cases h3 with
    | d h3 => cases h3; exact ⟨rfl, Below.of_inv h2⟩
end Go.PL
