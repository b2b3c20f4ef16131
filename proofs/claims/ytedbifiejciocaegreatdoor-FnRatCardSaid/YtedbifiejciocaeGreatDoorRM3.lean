/- A plain machine, sound for the given model, and contracts of functions over it, part 37: RM3. Nothing is assumed. -/
import Derived.Test.YtedbifiejciocaeGreatDoorG36
set_option linter.unusedSimpArgs false
set_option linter.unusedVariables false
set_option linter.unusedSectionVars false
/- RM3 -/
namespace Go.PL
open Go Go.Proofs
set_option maxRecDepth 10000
set_option maxHeartbeats 4000000
set_option linter.unusedSimpArgs false
set_option linter.unusedVariables false
/-- Marks. -/
def mkL (k : Int) (n : Nat) : List Int := (List.range n).map fun i : Nat => k + (i : Int)
theorem mkL_len (k : Int) (n : Nat) : (mkL k n).length = n := by simp [mkL]
theorem mkL_succ (k : Int) (n : Nat) : mkL k (n + 1) = mkL k n ++ [k + (n : Int)] := by simp [mkL, List.range_succ]
theorem mkL_get {k : Int} {n i : Nat} (h : i < n) : (mkL k n).getD i 0 = k + (i : Int) := by simp [mkL, List.getD, h]
theorem mkL_set {k : Int} {es : List Int} {i : Nat} (h : i < es.length) : (mkL k i ++ es.drop i).set i (k + (i : Int)) = mkL k (i + 1) ++ es.drop (i + 1) := by
  rw [List.set_append_right _ _ (by rw [mkL_len]; exact Nat.le_refl _), mkL_len, Nat.sub_self, List.drop_eq_getElem_cons h, List.set_cons_zero, mkL_succ]; simp
theorem all_set {n : Nat} {os : List Ob} {o : Nat} {X : Ob} (h : os.all (Ob.bnd n) = true) (hx : Ob.bnd n X = true) : (os.set o X).all (Ob.bnd n) = true := by
  rw [List.all_eq_true] at h ⊢
  intro y hy
  rcases List.mem_or_eq_of_mem_set hy with h1 | h1
  · exact h y h1
  · rw [h1]; exact hx
end Go.PL
