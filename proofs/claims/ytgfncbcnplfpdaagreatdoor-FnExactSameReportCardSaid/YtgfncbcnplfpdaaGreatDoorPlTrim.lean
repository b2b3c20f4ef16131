/- A plain machine, sound for the given model, and contracts of functions over it, part 8: PlTrim. Nothing is assumed. -/
import Derived.Test.YtgfncbcnplfpdaaGreatDoorPlLoop
set_option linter.unusedSimpArgs false
set_option linter.unusedVariables false
set_option linter.unusedSectionVars false
/- PlTrim -/
namespace Go.PL

/-- Without the zeros at the end. -/
def trim : List Int → List Int
  | [] => []
  | x :: r => match trim r with
    | [] => if x = 0 then [] else [x]
    | y :: t => x :: y :: t

theorem trim_zero (l : List Int) : trim (l ++ [0]) = trim l := by
  induction l with
  | nil => rfl
  | cons x r ih => simp only [List.cons_append, trim, ih]

theorem trim_ne {x : Int} (h : x ≠ 0) (l : List Int) : trim (l ++ [x]) = l ++ [x] := by
  induction l with
  | nil => simp [trim, h]
  | cons y r ih =>
    simp only [List.cons_append, trim, ih]
    cases r <;> rfl

theorem take_last {a : List Int} {k : Nat} (h0 : 0 < k) (hk : k ≤ a.length) : a.take k = a.take (k - 1) ++ [a.getD (k - 1) 0] := by
  obtain ⟨m, rfl⟩ : ∃ m, k = m + 1 := ⟨k - 1, by omega⟩
  simp only [Nat.add_sub_cancel]
  rw [List.take_add_one]
  congr 1
  simp [List.getD, List.getElem?_eq_getElem (show m < a.length by omega)]

theorem trim_take_zero {a : List Int} {k : Nat} (h0 : 0 < k) (hk : k ≤ a.length) (hz : a.getD (k - 1) 0 = 0) : trim (a.take (k - 1)) = trim (a.take k) := by
  rw [take_last h0 hk, hz, trim_zero]

theorem trim_take_ne {a : List Int} {k : Nat} (h0 : 0 < k) (hk : k ≤ a.length) (hz : a.getD (k - 1) 0 ≠ 0) : trim (a.take k) = a.take k := by
  conv => lhs; rw [take_last h0 hk, trim_ne hz]
  rw [take_last h0 hk]

end Go.PL
