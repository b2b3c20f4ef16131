/- A plain machine, sound for the given model, and contracts of functions over it, part 20: A5 PlIdx. Nothing is assumed. -/
import Derived.Test.YtedbifiejciocaeGreatDoorA4
import Derived.KernelRfl
import Derived.Test.YtedbifiejciocaeGreatDoorProg
set_option linter.unusedSimpArgs false
set_option linter.unusedVariables false
set_option linter.unusedSectionVars false
/- A5 -/
namespace Go.PL
open Go Go.Proofs
set_option maxRecDepth 10000
set_option maxHeartbeats 4000000
set_option linter.unusedSimpArgs false
set_option linter.unusedVariables false
def bR (r : Rt) : Prop := r.num.length ≤ 1048576 ∧ r.den.length ≤ 1048576
def bV (l : List Rt) : Prop := l.length ≤ 1048576 ∧ ∀ r ∈ l, bR r
theorem bV.get {l : List Rt} (h : bV l) (i : Nat) : bR (l.getD i ⟨false, [], []⟩) := by
  rw [List.getD]
  cases hi : l[i]? with
  | none => exact ⟨by simp, by simp⟩
  | some r => exact h.2 r (List.mem_of_getElem? hi)
def okVec (l : List Rt) : Bool := decide (1 ≤ l.length ∧ l.length ≤ 4 ∧ ∀ t, t < l.length → okRat (l.getD t ⟨false, [], []⟩) = true)

structure Rc where
  iter : Int
  count : Int
  x : List Rt
  f : Rt
deriving DecidableEq
abbrev encRc (r : Rc) : D := .agg [.i r.iter, .i r.count, .sl (r.x.map encR), .b r.f.neg, encD r.f.num, encD r.f.den]
def okRc (r : Rc) : Bool := decide (0 ≤ r.iter ∧ r.iter ≤ 6 ∧ 0 ≤ r.count ∧ r.count ≤ 30) && okVec r.x && okRat r.f
def bRc (r : Rc) : Prop := bV r.x ∧ bR r.f

def szR (r : Rt) : Nat := r.num.length + r.den.length
def szV (l : List Rt) : Nat := l.length + sumOf szR l
def pR (r : Rt) : Prop := r.num.length < 1152921504606846976 ∧ r.den.length < 1152921504606846976
def pV (l : List Rt) : Prop := l.length < 1152921504606846976 ∧ ∀ r ∈ l, pR r
theorem pV.get {l : List Rt} (h : pV l) (i : Nat) : pR (l.getD i ⟨false, [], []⟩) := by
  rw [List.getD]
  cases hi : l[i]? with
  | none => exact ⟨by simp, by simp⟩
  | some r => exact h.2 r (List.mem_of_getElem? hi)
def szRc (r : Rc) : Nat := szV r.x + szR r.f
def pRc (r : Rc) : Prop := pV r.x ∧ pR r.f
end Go.PL

/- PlIdx -/
/- The place of the first that is so. -/
namespace Go.PL
/-- The place of the first that is so, -1 of none. -/
def idxOf {α : Type} (p : α → Bool) : List α → Int
  | [] => -1
  | x :: r => if p x then 0 else if idxOf p r < 0 then -1 else idxOf p r + 1
theorem idxOf_ge {α : Type} {p : α → Bool} : ∀ (l : List α), -1 ≤ idxOf p l
  | [] => by simp [idxOf]
  | x :: r => by have := idxOf_ge (p := p) r; simp only [idxOf]; split <;> (try split) <;> omega
theorem idxOf_at {α : Type} {p : α → Bool} (d : α) : ∀ (l : List α) (i : Nat), i < l.length → (∀ t, t < i → p (l.getD t d) = false) → p (l.getD i d) = true → idxOf p l = i
  | [], i, h, _, _ => by simp at h
  | x :: r, 0, _, _, hp => by simp only [idxOf]; rw [if_pos (by simpa using hp)]; rfl
  | x :: r, i + 1, h, hn, hp => by
    have h0 := hn 0 (by omega)
    have ih := idxOf_at d r i (by simpa using h) (fun t ht => by simpa using hn (t + 1) (by omega)) (by simpa using hp)
    simp only [idxOf]
    rw [if_neg (by simpa using h0), ih, if_neg (by omega)]; omega
theorem idxOf_none {α : Type} {p : α → Bool} (d : α) : ∀ (l : List α), (∀ t, t < l.length → p (l.getD t d) = false) → idxOf p l = -1
  | [], _ => rfl
  | x :: r, hn => by
    have h0 := hn 0 (by simp)
    have ih := idxOf_none d r (fun t ht => by simpa using hn (t + 1) (by simpa using ht))
    simp only [idxOf]
    rw [if_neg (by simpa using h0), ih, if_pos (by omega)]
theorem idxOf_any {α : Type} {p : α → Bool} : ∀ (l : List α), decide (0 ≤ idxOf p l) = l.any p
  | [] => rfl
  | x :: r => by
    have ih := idxOf_any (p := p) r
    have := idxOf_ge (p := p) r
    simp only [idxOf, List.any_cons]
    by_cases hp : p x = true
    · simp [hp]
    · simp only [Bool.not_eq_true] at hp
      simp only [hp, Bool.false_eq_true, if_false, Bool.false_or, ← ih]
      by_cases h : idxOf p r < 0
      · rw [if_pos h]; rw [decide_eq_false (by omega), decide_eq_false (by omega)]
      · rw [if_neg h]; rw [decide_eq_true (by omega), decide_eq_true (by omega)]
end Go.PL
