/- A plain machine, sound for the given model, and contracts of functions over it, part 34: AR2. Nothing is assumed. -/
import Derived.Test.YtnenklihacmkfaaAD
set_option linter.unusedSimpArgs false
set_option linter.unusedVariables false
set_option linter.unusedSectionVars false
/- AR2 -/
namespace Go.PL
open Go Go.Proofs
section
variable {H : Type} {enc : TypeId × Value → H} {w : World}
theorem rdRecords : Rd enc Try.prog w 22 (fun l : List Rc => [.sl (l.map encRc)]) pRcs :=
  (Rd.slice (sz := 6) (by_ := 96) (fun r : Rc => encRc r) Try.underlying22 (by kernel_rfl) (by kernel_rfl) (by decide) (fun _ => rfl) (fun _ => rfl) rdRecord).map id (fun _ => rfl) (fun l h => ⟨by have := h.1; unfold reachBytes at this; simp only [id]; omega, h.2⟩)
theorem rdReport : Rd enc Try.prog w 24 (fun r : Rp => [.i r.status, .sl (r.recs.map encRc)]) (fun r => pRcs r.recs) :=
  (Rd.struct Try.underlying24 (by kernel_rfl) (RdF.cons (n := 1) rfl (by kernel_rfl) (Rd.int Try.underlying3) (RdF.cons (n := 1) rfl (by kernel_rfl) rdRecords RdF.nil))).map
    (fun x => (⟨x.1, x.2.1⟩ : Rp)) (fun _ => rfl) (fun x h => h.2.1)
end
end Go.PL
