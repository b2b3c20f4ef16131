/- A plain machine, sound for the given model, and contracts of functions over it, part 42: ES. Nothing is assumed. -/
import Derived.Test.YtgfncbcnplfpdabGreatDoorG41
import Derived.KernelRfl
import Derived.Shelf.Abstract
import Derived.WalkKit
import Derived.OwnWalkIn
import Derived.TacticsInMore
import Derived.Test.YtgfncbcnplfpdabGreatDoorProg
set_option linter.unusedSimpArgs false
set_option linter.unusedVariables false
set_option linter.unusedSectionVars false
/- ES -/
namespace Go.PL
open Go Go.Proofs Go.RowKit
set_option maxRecDepth 100000
set_option linter.unusedSimpArgs false
set_option linter.unusedVariables false
attribute [local go_sem] Oper.semAt_some
theorem signOf_calls (o a b n : Int) (h : 3 ≤ o ∧ o ≤ 6) (w : World) :
    Calls Tryz.prog 99 #[.agg #[.int .i64 o, .int .i64 a, .int .i64 b, .int .i64 n]] w fun e w' => e = .returned (.string (signB o)) ∧ Below w.heap.size w w' := by
  refine (callsIn_wide (n := 1)).1 ?_
  refine callsIn_of_wp Tryz.func99 rfl trivial ?_ rfl
  simp only [Tryz.ntmps99, List.size_toArray, List.length_cons, List.length_nil, Nat.reduceAdd, Nat.reduceSub, Array.replicate_succ, Array.replicate_zero, List.push_toArray, List.append_toArray, List.nil_append, List.cons_append]
  have hc : o = 3 ∨ o = 4 ∨ o = 5 ∨ o = 6 := by omega
  rcases hc with rfl | rfl | rfl | rfl
  all_goals gi_wp2
  all_goals refine bodyPost_ret (results_tmp rfl _ _ _) rfl ⟨?_, (Below.refl _ _).alloc (Nat.le_refl _) _⟩
  all_goals kernel_rfl
end Go.PL
