/- A plain machine, sound for the given model, and contracts of functions over it, part 21: PlIdx. Nothing is assumed. -/
import Derived.Test.YtgfncbcnplfpdaaGreatDoorA5
set_option linter.unusedSimpArgs false
set_option linter.unusedVariables false
set_option linter.unusedSectionVars false
/- PlIdx -/
/- The place of the first that is so. -/
namespace Go.PL
/-- The place of the first that is so, -1 of none. -/
def idxOf {α : Type} (p : α → Bool) : List α → Int
  | [] => -1
  | x :: r => if p x then 0 else if idxOf p r < 0 then -1 else idxOf p r + 1
theorem idxOf_ge {α : Type} {p : α → Bool} : ∀ (l : List α), -1 ≤ idxOf p l
  | [] => by simp [idxOf]
  | x :: r => by have := idxOf_ge (p := p) r; simp only [idxOf]; split <;> (try split) <;> omega
theorem idxOf_at {α : Type} {p : α → Bool} (d : α) : ∀ (l : List α) (i : Nat), i < l.length → (∀ t, t < i → p (l.getD t d) = false) → p (l.getD i d) = true → idxOf p l = i
  | [], i, h, _, _ => by simp at h
  | x :: r, 0, _, _, hp => by simp only [idxOf]; rw [if_pos (by simpa using hp)]; rfl
  | x :: r, i + 1, h, hn, hp => by
    have h0 := hn 0 (by omega)
    have ih := idxOf_at d r i (by simpa using h) (fun t ht => by simpa using hn (t + 1) (by omega)) (by simpa using hp)
    simp only [idxOf]
    rw [if_neg (by simpa using h0), ih, if_neg (by omega)]; omega
theorem idxOf_none {α : Type} {p : α → Bool} (d : α) : ∀ (l : List α), (∀ t, t < l.length → p (l.getD t d) = false) → idxOf p l = -1
  | [], _ => rfl
  | x :: r, hn => by
    have h0 := hn 0 (by simp)
    have ih := idxOf_none d r (fun t ht => by simpa using hn (t + 1) (by simpa using ht))
    simp only [idxOf]
    rw [if_neg (by simpa using h0), ih, if_pos (by omega)]
theorem idxOf_any {α : Type} {p : α → Bool} : ∀ (l : List α), decide (0 ≤ idxOf p l) = l.any p
  | [] => rfl
  | x :: r => by
    have ih := idxOf_any (p := p) r
    have := idxOf_ge (p := p) r
    simp only [idxOf, List.any_cons]
    by_cases hp : p x = true
    · simp [hp]
    · simp only [Bool.not_eq_true] at hp
      simp only [hp, Bool.false_eq_true, if_false, Bool.false_or, ← ih]
      by_cases h : idxOf p r < 0
      · rw [if_pos h]; rw [decide_eq_false (by omega), decide_eq_false (by omega)]
      · rw [if_neg h]; rw [decide_eq_true (by omega), decide_eq_true (by omega)]
end Go.PL
