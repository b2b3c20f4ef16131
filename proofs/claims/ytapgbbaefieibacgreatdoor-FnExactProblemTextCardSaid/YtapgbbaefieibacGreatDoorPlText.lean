/- A plain machine, sound for the given model, and contracts of functions over it, part 0: PlText. Nothing is assumed. -/
import Derived.Lib.ItoaNum
set_option linter.unusedSimpArgs false
set_option linter.unusedVariables false
set_option linter.unusedSectionVars false
/- PlText -/
/- Decimal texts of naturals by limbs of four digits. -/
namespace Go.PL
open Go
/-- A limb's four digits. -/
def pad4 (x : Int) : List UInt8 := List.replicate (4 - (Lib.decDigits x.toNat).length) 48 ++ Lib.decDigits x.toNat
/-- Limbs' digits, the top first. -/
def textR : List Int → List UInt8
  | [] => []
  | x :: r => Lib.decDigits x.toNat ++ (r.map pad4).flatten
/-- A natural's text. -/
def natTB (a : List Int) : ByteArray := if a = [] then ⟨#[48]⟩ else ⟨(textR a.reverse).toArray⟩

theorem textR_one (x : Int) : textR [x] = Lib.decDigits x.toNat := by simp [textR]
theorem textR_snoc {r : List Int} (x : Int) (h : r ≠ []) : textR (r ++ [x]) = textR r ++ pad4 x := by
  cases r with
  | nil => exact absurd rfl h
  | cons y r => simp [textR]
theorem drop_rev {a : List Int} {k : Nat} (h : k < a.length) : (a.drop k).reverse = (a.drop (k + 1)).reverse ++ [a.getD k 0] := by
  rw [List.drop_eq_getElem_cons h, List.reverse_cons, List.getD, List.getElem?_eq_getElem h]; rfl
theorem textR_drop {a : List Int} {k : Nat} (h : k + 1 < a.length) : textR (a.drop k).reverse = textR (a.drop (k + 1)).reverse ++ pad4 (a.getD k 0) := by
  rw [drop_rev (by omega)]
  refine textR_snoc _ fun e => ?_
  have := congrArg List.length e
  simp at this; omega
theorem textR_top {a : List Int} (h : 0 < a.length) : textR (a.drop (a.length - 1)).reverse = Lib.decDigits (a.getD (a.length - 1) 0).toNat := by
  rw [drop_rev (by omega), List.drop_eq_nil_of_le (by omega), List.reverse_nil, List.nil_append, textR_one]
theorem dec_step {n : Nat} (h : 10 ≤ n) : Lib.decDigits n = Lib.decDigits (n / 10) ++ [UInt8.ofNat (48 + n % 10)] := by
  rw [Lib.decDigits, dif_neg (by omega)]
theorem dec_small {n : Nat} (h : n < 10) : Lib.decDigits n = [UInt8.ofNat (48 + n)] := by
  rw [Lib.decDigits, dif_pos h]
theorem dec_len {n : Nat} (h : n < 10000) : 1 ≤ (Lib.decDigits n).length ∧ (Lib.decDigits n).length ≤ 4 := by
  by_cases h1 : n < 10
  · rw [dec_small h1]; simp
  by_cases h2 : n < 100
  · rw [dec_step (by omega), dec_small (by omega)]; simp
  by_cases h3 : n < 1000
  · rw [dec_step (by omega), dec_step (by omega), dec_small (by omega)]; simp
  · rw [dec_step (by omega), dec_step (by omega), dec_step (by omega), dec_small (by omega)]; simp
theorem pad4_len {x : Int} (h : 0 ≤ x ∧ x ≤ 9999) : (pad4 x).length = 4 := by
  have := dec_len (n := x.toNat) (by omega)
  rw [pad4, List.length_append, List.length_replicate]; omega
theorem ofNat48 : (48 : UInt8) = UInt8.ofNat (48 + 0) := rfl
theorem pad4_eq {n : Nat} (h : n < 10000) : pad4 n = [UInt8.ofNat (48 + n / 1000), UInt8.ofNat (48 + n / 100 % 10), UInt8.ofNat (48 + n / 10 % 10), UInt8.ofNat (48 + n % 10)] := by
  unfold pad4
  simp only [Int.toNat_natCast]
  have d2 : n / 10 / 10 = n / 100 := by omega
  have d3 : n / 100 / 10 = n / 1000 := by omega
  by_cases h1 : n < 10
  · rw [dec_small h1, show n / 1000 = 0 by omega, show n / 100 = 0 by omega, show n / 10 = 0 by omega, show n % 10 = n by omega]; rfl
  by_cases h2 : n < 100
  · rw [dec_step (n := n) (by omega), dec_small (n := n / 10) (by omega), show n / 1000 = 0 by omega, show n / 100 = 0 by omega, show n / 10 % 10 = n / 10 by omega]; rfl
  by_cases h3 : n < 1000
  · rw [dec_step (n := n) (by omega), dec_step (n := n / 10) (by omega), d2, dec_small (n := n / 100) (by omega), show n / 1000 = 0 by omega, show n / 100 % 10 = n / 100 by omega]; rfl
  · rw [dec_step (n := n) (by omega), dec_step (n := n / 10) (by omega), d2, dec_step (n := n / 100) (by omega), d3, dec_small (n := n / 1000) (by omega)]; rfl
theorem dec_over {n : Nat} (h : n < 10000) : Lib.decDigits (10000 + n) = 49 :: pad4 n := by
  rw [pad4_eq h, dec_step (n := 10000 + n) (by omega), show (10000 + n) / 10 = 1000 + n / 10 by omega, show (10000 + n) % 10 = n % 10 by omega,
    dec_step (n := 1000 + n / 10) (by omega), show (1000 + n / 10) / 10 = 100 + n / 100 by omega, show (1000 + n / 10) % 10 = n / 10 % 10 by omega,
    dec_step (n := 100 + n / 100) (by omega), show (100 + n / 100) / 10 = 10 + n / 1000 by omega, show (100 + n / 100) % 10 = n / 100 % 10 by omega,
    dec_step (n := 10 + n / 1000) (by omega), show (10 + n / 1000) / 10 = 1 by omega, show (10 + n / 1000) % 10 = n / 1000 by omega, dec_small (n := 1) (by omega)]
  rfl
theorem pad4_lim {x : Int} (h : 0 ≤ x ∧ x ≤ 9999) : Lib.decDigits (10000 + x).toNat = 49 :: pad4 x := by
  obtain ⟨n, rfl⟩ : ∃ n : Nat, x = n := ⟨x.toNat, by omega⟩
  rw [show (10000 + (n : Int)).toNat = 10000 + n by omega, dec_over (by omega)]
theorem textR_len : ∀ {l : List Int}, (∀ x ∈ l, 0 ≤ x ∧ x ≤ 9999) → (textR l).length ≤ 4 * l.length
  | [], _ => by simp [textR]
  | x :: r, h => by
    have h1 := dec_len (n := x.toNat) (by have := h x (by simp); omega)
    have h2 : (r.map pad4).flatten.length = 4 * r.length := by
      have : ∀ l : List Int, (∀ x ∈ l, 0 ≤ x ∧ x ≤ 9999) → (l.map pad4).flatten.length = 4 * l.length := by
        intro l hl
        induction l with
        | nil => rfl
        | cons y s ih =>
          rw [List.map_cons, List.flatten_cons, List.length_append, pad4_len (hl y (by simp)), ih fun z hz => hl z (by simp [hz]), List.length_cons]; omega
      exact this r fun z hz => h z (by simp [hz])
    rw [textR, List.length_append, h2, List.length_cons]; omega
end Go.PL
