/- A plain machine, sound for the given model, and contracts of functions over it, part 22: Bt. Nothing is assumed. -/
import Derived.Test.YtnenklihacmkfaaBk
set_option linter.unusedSimpArgs false
set_option linter.unusedVariables false
set_option linter.unusedSectionVars false
/- Bt -/
namespace Go.PL
open Go Go.Proofs
instance : ItOk TT Try.prog where
  ok := by
    intro g hg
    have : g = 87 := by simpa [TT] using hg
    subst this
    exact ⟨⟨_, rfl, by decide, rfl⟩, Try.backSays⟩
end Go.PL
