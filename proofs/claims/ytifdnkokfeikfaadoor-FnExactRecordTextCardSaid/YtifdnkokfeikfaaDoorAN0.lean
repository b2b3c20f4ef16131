/- A plain machine, sound for the given model, and contracts of functions over it, part 41: AN0. Nothing is assumed. -/
import Derived.Test.YtifdnkokfeikfaaDoorAShelf
import Derived.RangeFuncKeeps
import Derived.RangeFuncNested
import Derived.RegionIn
import Derived.Shelf.RegionOpen
import Derived.Test.YtifdnkokfeikfaaDoorRows
set_option linter.unusedSimpArgs false
set_option linter.unusedVariables false
set_option linter.unusedSectionVars false
/- AN0 -/
namespace Go.PL
open Go Go.Proofs
set_option maxRecDepth 10000
set_option linter.unusedSimpArgs false
set_option linter.unusedVariables false
set_option maxRecDepth 100000
attribute [local go_sem] Oper.semAt_some
/-- The table's name, as the given row has it. -/
def tabName : String := ((YtifdnkokfeikfaaDoor.Rows.fnExactRatTextRow.laid[2]?).map (·.1)).getD default
/-- What slices.Backward hands back. -/
theorem back_calls (A : Option Addr) (len cap : Nat) (n : Nat) (w : World) :
    CallsIn Fence.wide n Tryd.prog 54 #[.slice A len cap] w fun e w' => e = .returned (.func (.func 68) #[] #[.pointer (some ⟨w.heap.size, 0, none⟩)]) ∧ w' = w.alloc (.cells #[.slice A len cap] 22) := by
  refine callsIn_of_wp Tryd.func54 rfl trivial ?_ rfl
  simp only [Tryd.ntmps54, List.size_toArray, List.length_cons, List.length_nil, Nat.reduceAdd, Nat.reduceSub, Array.replicate_succ, Array.replicate_zero, List.push_toArray, List.append_toArray, List.nil_append, List.cons_append]
  gi_wp2
  go_ret
  exact ⟨rfl, rfl⟩
end Go.PL
