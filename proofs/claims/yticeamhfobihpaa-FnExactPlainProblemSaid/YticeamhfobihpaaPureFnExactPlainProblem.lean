import Derived.Test.YticeamhfobihpaaPFnExactPlainProblemx1
namespace Go.Proofs.Yticeamhfobihpaa.Pure
open Go.RowKit Go.Proofs.Yticeamhfobihpaa.PFnExactPlainProblem Go.Proofs.YticeamhfobihpaaW.PrintWords Go.Proofs.YticeamhfobihpaaW.PrintLast

/-- YOURS: ∃ k, laws_FnExactPlainProblem.f k  = some true
What it reaches (each with k first where it has rounds; `.mono`: more rounds tell the same; `.l0`, ..: its loops, with `.mono_l`): spec_PlainProblem.f, impl_PlainProblem.f, laws_eqStringS.f, laws_markText.f, laws_markStringS.f, laws_heldStringS.f, laws_FnExactPlainProblem.f -/
theorem FnExactPlainProblem : laws_FnExactPlainProblem.Pure := by
  exact ⟨20, by decide +kernel⟩

end Go.Proofs.Yticeamhfobihpaa.Pure
