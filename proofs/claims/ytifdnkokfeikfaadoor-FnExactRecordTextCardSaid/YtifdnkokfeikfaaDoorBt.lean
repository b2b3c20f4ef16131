/- A plain machine, sound for the given model, and contracts of functions over it, part 25: Bt. Nothing is assumed. -/
import Derived.Test.YtifdnkokfeikfaaDoorBk
set_option linter.unusedSimpArgs false
set_option linter.unusedVariables false
set_option linter.unusedSectionVars false
/- Bt -/
namespace Go.PL
open Go Go.Proofs
instance : ItOk TT Tryd.prog where
  ok := by
    intro g hg
    have : g = 68 := List.mem_singleton.1 hg
    subst this
    exact ⟨⟨_, Tryd.func68, by decide, rfl⟩, Tryd.backSays⟩
end Go.PL
