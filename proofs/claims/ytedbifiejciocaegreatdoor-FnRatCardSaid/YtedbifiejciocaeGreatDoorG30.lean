/- A plain machine, sound for the given model, and contracts of functions over it, part 30: RN3 RN4d. Nothing is assumed. -/
import Derived.Test.YtedbifiejciocaeGreatDoorRN2
set_option linter.unusedSimpArgs false
set_option linter.unusedVariables false
set_option linter.unusedSectionVars false
/- RN3 -/
namespace Go.PL
open Go Go.Proofs
set_option maxRecDepth 10000
set_option maxHeartbeats 4000000
set_option linter.unusedSimpArgs false
set_option linter.unusedVariables false
theorem take_next {l : List UInt8} {j i : Nat} (hj : j ≤ i) (hi : i < l.length) : (l.drop j).take (i + 1 - j) = (l.drop j).take (i - j) ++ [l.getD i 0] := by
  rw [show i + 1 - j = i - j + 1 by omega, List.take_add_one, List.getElem?_drop, show j + (i - j) = i by omega, List.getElem?_eq_getElem hi, Option.toList_some, List.getD, List.getElem?_eq_getElem hi]; rfl
theorem drop_at {l : List UInt8} {j i : Nat} (hj : j ≤ i) (hi : i < l.length) : l.drop j = (l.drop j).take (i - j) ++ l.getD i 0 :: l.drop (i + 1) := by
  have e : l.drop i = l.getD i 0 :: l.drop (i + 1) := by
    rw [List.drop_eq_getElem_cons hi, List.getD, List.getElem?_eq_getElem hi]; rfl
  rw [← e]
  have := List.take_append_drop (i - j) (l.drop j)
  rw [List.drop_drop, show j + (i - j) = i by omega] at this
  exact this.symm
theorem spl_len_le (c : UInt8) : ∀ l, (spl c l).length ≤ l.length + 1
  | [] => by simp [spl]
  | x :: r => by
    have ih := spl_len_le c r
    by_cases h : x = c
    · subst h; rw [spl_eq]; simp; omega
    · obtain ⟨a, t, h1, h2⟩ := spl_cons r h
      rw [h1] at ih; rw [h2]; simp at *; omega
end Go.PL

/- RN4d -/
namespace Go.PL
open Go Go.Proofs
set_option maxRecDepth 10000
set_option maxHeartbeats 4000000
set_option linter.unusedSimpArgs false
set_option linter.unusedVariables false
/-- A rational's text: is there a sign, and the rest. -/
def ngT (t : List UInt8) : Bool := decide (t.getD 0 0 = 45)
def bdT (t : List UInt8) : List UInt8 := if ngT t then t.drop 1 else t
def rdOk (t : List UInt8) : Bool := match spl 47 (bdT t) with
  | [a] => okN a && okRat ⟨ngT t, digs (rdN a), [1]⟩
  | [a, b] => okN a && (okN b && (!(cmpN (rdN b) 1 == 0) && okRat ⟨ngT t, digs (rdN a), digs (rdN b)⟩))
  | _ => false
def rdVal (t : List UInt8) : Rt := match spl 47 (bdT t) with
  | [a] => ⟨ngT t, digs (rdN a), [1]⟩
  | [a, b] => ⟨ngT t, digs (rdN a), digs (rdN b)⟩
  | _ => ⟨false, [], []⟩
def outR (t : List UInt8) : Rt := if rdOk t = true then rdVal t else ⟨false, [], []⟩
theorem rdN_len (l : List UInt8) : (digs (rdN l)).length ≤ 40 := by
  cases h : okN l with
  | false => rw [rdN_no h, digs_zero]; simp
  | true =>
    rw [rdN_yes h]
    obtain ⟨h1, h2, h3, h4⟩ := okN_iff.1 h
    have := dv_lt h4
    have e : (10 : Nat) ^ l.length ≤ 10000 ^ 40 := by
      rw [show (10000 : Nat) = 10 ^ 4 from rfl, ← Nat.pow_mul]; exact Nat.pow_le_pow_right (by omega) (by omega)
    exact digs_len_le (Nat.lt_of_lt_of_le this e)
theorem spl_el {c : UInt8} : ∀ {l w : List UInt8}, w ∈ spl c l → w.length ≤ l.length
  | [], w, h => by rw [spl_nil, List.mem_singleton] at h; subst h; simp
  | x :: r, w, h => by
    by_cases hx : x = c
    · subst hx
      rw [spl_eq] at h
      rcases List.mem_cons.1 h with h | h
      · subst h; simp
      · have := spl_el h; simp; omega
    · obtain ⟨a, t, h1, h2⟩ := spl_cons r hx
      rw [h2] at h
      have ih : ∀ w ∈ a :: t, w.length ≤ r.length := fun w hw => spl_el (c := c) (by rw [h1]; exact hw)
      rcases List.mem_cons.1 h with h | h
      · subst h; have := ih a (by simp); simp; omega
      · have := ih w (by simp [h]); simp; omega
theorem u45 {c : UInt8} : ((c.toNat : Nat) : Int) = 45 ↔ c = 45 := by
  constructor
  · intro h
    have h2 : c.toNat = 45 := by omega
    exact UInt8.toNat_inj.1 (by rw [h2]; rfl)
  · rintro rfl; rfl
theorem bd_len (t : List UInt8) : (bdT t).length ≤ t.length := by unfold bdT; split <;> simp
end Go.PL
