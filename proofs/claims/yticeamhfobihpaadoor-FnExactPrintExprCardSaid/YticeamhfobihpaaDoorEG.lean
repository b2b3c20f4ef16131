/- A plain machine, sound for the given model, and contracts of functions over it, part 26: EG. Nothing is assumed. -/
import Derived.Test.YticeamhfobihpaaDoorEF
set_option linter.unusedSimpArgs false
set_option linter.unusedVariables false
set_option linter.unusedSectionVars false
/- EG -/
namespace Go.PL
open Go Go.Proofs
set_option maxRecDepth 10000
set_option linter.unusedSimpArgs false
set_option linter.unusedVariables false
theorem l05_plOk {x : Nd} {i : Nat} (h : l05N x i = true) (h2 : 3 ≤ x.op ∧ x.op ≤ 6 → x.b = (i : Int) - 1) : plOk x i = true ∧ (kidsN x.op = 1 → x.a = (i : Int) - 1) := by
  obtain ⟨op, a, b, n⟩ := x
  simp only at h2
  by_cases ho : op < 1 ∨ 8 < op
  · unfold l05N at h; rw [if_pos ho] at h; cases h
  have hc : op = 1 ∨ op = 2 ∨ op = 3 ∨ op = 4 ∨ op = 5 ∨ op = 6 ∨ op = 7 ∨ op = 8 := by omega
  rcases hc with rfl | rfl | rfl | rfl | rfl | rfl | rfl | rfl <;> simp [l05N] at h <;> simp [plOk, numOk, chOk, kidsN] <;> (try simp at h2) <;> omega
theorem plOk_l05 {x : Nd} {i : Nat} (h : plOk x i = true) (h1 : kidsN x.op = 1 → x.a = (i : Int) - 1) (h2 : kidsN x.op = 2 → x.b = (i : Int) - 1 ∧ x.a < x.b) : l05N x i = true := by
  obtain ⟨op, a, b, n⟩ := x
  simp only at h1 h2
  by_cases ho : op < 1 ∨ 8 < op
  · unfold plOk at h
    rw [decide_eq_false (by simp only; omega)] at h
    simp at h
  have hc : op = 1 ∨ op = 2 ∨ op = 3 ∨ op = 4 ∨ op = 5 ∨ op = 6 ∨ op = 7 ∨ op = 8 := by omega
  rcases hc with rfl | rfl | rfl | rfl | rfl | rfl | rfl | rfl <;> simp [plOk, numOk, chOk, kidsN] at h <;> (try simp [kidsN] at h1 h2) <;> simp [l05N] <;> omega
end Go.PL
