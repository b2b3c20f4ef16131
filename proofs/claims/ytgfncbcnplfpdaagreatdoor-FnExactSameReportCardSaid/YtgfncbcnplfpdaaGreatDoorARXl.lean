/- A plain machine, sound for the given model, and contracts of functions over it, part 50: ARXl. Nothing is assumed. -/
import Derived.Test.YtgfncbcnplfpdaaGreatDoorPlLaid
import Derived.Test.YtgfncbcnplfpdaaGreatDoorRows
import Derived.Test.YtgfncbcnplfpdaaGreatDoorCards
import Derived.Test.YtgfncbcnplfpdaaGreatDoorTie
import Derived.Lay
import Derived.Lib.LaidTab
import Derived.LaidLaws
import Derived.LaidSub
import Derived.MakeChecks
import Derived.SevenTiedAt
import Derived.OpenVars
set_option linter.unusedSimpArgs false
set_option linter.unusedVariables false
set_option linter.unusedSectionVars false
/- ARXl -/
namespace Go.PL
open Go Go.Proofs
/-- What is laid, as the machine reads it. -/
structure LaidOk (W : World) : Prop where
  ex : ∃ g, Tryz.prog.globalNamed tabName = some g ∧ Lib.TabIs Tryz.prog W tabName .u64 Lib.pow10Tab
  dat : ∀ x ∈ TT.gs, RelD W (PrW W) (.ptr x.2) (.pointer (some ⟨x.1, 0, none⟩))
theorem callTrueV {f : FuncId} {xs : List D} (h : CC f (xs.map .d) [] (.d (.b true)) []) {W : World} (hL : LaidOk W) {vs : Array Value} (hl : vs.size = xs.length) (hv : ∀ i (hi : i < xs.length), RelD W (PrW W) xs[i] (vs[i]'(by omega))) :
    Calls Tryz.prog f vs W fun e W' => e = .returned (.bool true) ∧ RowKit.Below W.heap.size W W' := by
  obtain ⟨g, hg, ht⟩ := hL.ex
  obtain ⟨et, fr, hG⟩ := gok_of hg ht ⟨fun _ => 0, fun _ => 0⟩ hL.dat
  have hs := Den.says (T := TT) (gl := glT g et fr) (by kernel_rfl) (xn_says rfl hg) h
  refine (hs.2 W (PrW W) ⟨fun _ => 0, fun _ => 0⟩ vs (memW W _) hG (by simpa using hl) fun i hi => ?_).mono fun e W' ⟨u, Pr', p', h1, h2, h3⟩ => ?_
  · have hi' : i < xs.length := by simpa using hi
    have e1 : ∀ (y : V) (q : y = .d xs[i]), RelV W (PrW W) ⟨fun _ => 0, fun _ => 0⟩ [] y (vs[i]'(by omega)) := by rintro _ rfl; exact .d (hv i hi')
    exact e1 _ (by rw [List.getElem_map])
  · subst h1
    cases h3 with
    | d h3 => cases h3; exact ⟨rfl, Below.of_inv h2⟩
/-- The law's contract as the machine bears it. -/
theorem callTrueL {f : FuncId} {x : D} (h : CC f [.d x] [] (.d (.b true)) []) {W : World} (hL : LaidOk W) {v : Value} (hv : RelD W (PrW W) x v) : Calls Tryz.prog f #[v] W fun e W' => e = .returned (.bool true) ∧ RowKit.Below W.heap.size W W' :=
  callTrueV (xs := [x]) h hL rfl fun i hi => by
    obtain rfl : i = 0 := by simpa using hi
    exact hv
theorem callTrueL2 {f : FuncId} {x y : D} (h : CC f [.d x, .d y] [] (.d (.b true)) []) {W : World} (hL : LaidOk W) {v u : Value} (hv : RelD W (PrW W) x v) (hu : RelD W (PrW W) y u) : Calls Tryz.prog f #[v, u] W fun e W' => e = .returned (.bool true) ∧ RowKit.Below W.heap.size W W' :=
  callTrueV (xs := [x, y]) h hL rfl fun i hi => by
    rcases (show i = 0 ∨ i = 1 by simp at hi; omega) with rfl | rfl
    · exact hv
    · exact hu
end Go.PL
