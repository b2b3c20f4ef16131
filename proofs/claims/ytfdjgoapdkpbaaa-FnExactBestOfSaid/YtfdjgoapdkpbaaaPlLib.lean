/- A plain machine, sound for the given model, and contracts of functions over it, part 12: PlLib. Nothing is assumed. -/
import Derived.Test.YtfdjgoapdkpbaaaPlVal
import Derived.Test.YtfdjgoapdkpbaaaPlAttr
set_option linter.unusedSimpArgs false
set_option linter.unusedVariables false
set_option linter.unusedSectionVars false
/- PlLib -/
/- Lists and the weakening of objects, for the contracts. -/
namespace Go.PL
open Go

inductive ObsLe : List Ob → List Ob → Prop where
  | nil : ObsLe [] []
  | cons {a b : Ob} {r s : List Ob} (h : ObLe a b) (t : ObsLe r s) : ObsLe (a :: r) (b :: s)
theorem ObsLe.get : ∀ {a b : List Ob}, ObsLe a b → ∃ h : a.length = b.length, ∀ i (hi : i < a.length), ObLe a[i] (b[i]'(by omega))
  | _, _, .nil => ⟨rfl, fun i hi => by simp at hi⟩
  | _, _, .cons h t => by
    obtain ⟨h1, h2⟩ := t.get
    refine ⟨by simp [h1], fun i hi => ?_⟩
    cases i with
    | zero => exact h
    | succ i => exact h2 i (by simpa using hi)
theorem Weak.obj {nF : Nat} {env : List (Nat × V)} {os os' : List Ob} (h : ObsLe os os') : Weak nF ⟨env, os⟩ ⟨env, os'⟩ := by
  obtain ⟨h1, h2⟩ := h.get
  exact .le (fun t => .refl _) h1 h2
theorem ObLe.rep {sz n : Nat} {x y : D} {fz : Bool} (h : DLe x y) : ObLe (.arr sz (List.replicate n x) fz) (.arr sz (List.replicate n y) fz) :=
  .arr (by simp) fun i hi => by simpa using h
theorem ObLe.repN {sz n : Nat} {x : D} {fz : Bool} : ObLe (.arr sz (List.replicate n x) fz) (.arr sz (List.replicate n (nnD x)) fz) := .rep (nnD_le x)
theorem ObLe.repM {α : Type} {f : α → D} {z : α} {sz n : Nat} {x : D} {fz : Bool} (h : nnD x = f z) : ObLe (.arr sz (List.replicate n x) fz) (.arr sz ((List.replicate n z).map f) fz) := by
  rw [List.map_replicate, ← h]; exact .repN
/-- One array of noughts, to begin a loop with. -/
theorem Weak.rep1 {α : Type} {f : α → D} {z : α} {nF : Nat} {env : List (Nat × V)} {sz n : Nat} {x : D} {s' : St} (h : nnD x = f z) (hs : Weak nF ⟨env, [.arr sz ((List.replicate n z).map f) false]⟩ s') : Weak nF ⟨env, [.arr sz (List.replicate n x) false]⟩ s' :=
  .trans (Weak.obj (.cons (.repM h) .nil)) hs

theorem mapL_dV {os : List Ob} : ∀ {l : List D}, mapL (leaf os) (dV l) = some (l, [])
  | [] => rfl
  | x :: r => by simp only [dV, mapL, leaf_d, mapL_dV (l := r), List.append_nil]
attribute [go_sem] mapL_dV

section
variable {α : Type}
/-- Sums over lists. -/
def sumOf (f : α → Nat) : List α → Nat
  | [] => 0
  | x :: r => f x + sumOf f r
theorem sumOf_app {f : α → Nat} : ∀ {l m : List α}, sumOf f (l ++ m) = sumOf f l + sumOf f m
  | [], m => by simp [sumOf]
  | x :: r, m => by simp only [List.cons_append, sumOf, sumOf_app (l := r)]; omega
theorem take_succD {l : List α} {i : Nat} (d : α) (h : i < l.length) : l.take (i + 1) = l.take i ++ [l.getD i d] := by
  rw [List.take_add_one]; simp [List.getD, h]
theorem sumOf_succ {f : α → Nat} {l : List α} {i : Nat} (d : α) (h : i < l.length) : sumOf f (l.take (i + 1)) = sumOf f (l.take i) + f (l.getD i d) := by
  rw [take_succD d h, sumOf_app]; simp [sumOf]
theorem sumOf_le {f : α → Nat} (l : List α) (i : Nat) : sumOf f (l.take i) ≤ sumOf f l := by
  have := sumOf_app (f := f) (l := l.take i) (m := l.drop i)
  rw [List.take_append_drop] at this; omega
theorem sumOf_mem {f : α → Nat} {l : List α} {x : α} (h : x ∈ l) : f x ≤ sumOf f l := by
  induction l with
  | nil => cases h
  | cons y r ih =>
    rcases List.mem_cons.1 h with rfl | h
    · simp [sumOf]
    · have := ih h; simp only [sumOf]; omega
theorem getD_mem {l : List α} {i : Nat} (d : α) (h : i < l.length) : l.getD i d ∈ l := by
  simp [List.getD, h]
theorem take_set_succ {l o : List α} {i : Nat} (d : α) (hi : i < l.length) (hl : o.length = l.length) (h : o.take i = l.take i) : (o.set i (l.getD i d)).take (i + 1) = l.take (i + 1) := by
  rw [take_succD d hi, take_succD d (by simp; omega)]
  congr 1
  · rw [List.take_set_of_le (by omega), h]
  · simp [List.getD, show i < o.length by omega]
theorem take_all {l o : List α} {i : Nat} (hl : o.length = l.length) (hi : l.length ≤ i) (h : o.take i = l.take i) : o = l := by
  rwa [List.take_of_length_le (by omega), List.take_of_length_le hi] at h
theorem take_eq_succ {l o : List α} {i : Nat} (d : α) (hi : i < l.length) (hj : i < o.length) (h : o.take i = l.take i) (he : o.getD i d = l.getD i d) : o.take (i + 1) = l.take (i + 1) := by
  rw [take_succD d hi, take_succD d hj, h, he]
theorem ne_of_getD {l o : List α} {i : Nat} {d : α} (h : o.getD i d ≠ l.getD i d) : o ≠ l := fun e => h (by rw [e])
end

/-- What is left of a room. -/
def szL (left : Int) (n : Nat) : Int := if left < n then -1 else left - n
abbrev rm (left : Int) : Prop := -1 ≤ left ∧ left ≤ 1048576
theorem szL_neg {left : Int} {m n : Nat} (h : szL left m < 0) : szL left (m + n) = -1 := by
  unfold szL at *; split at h
  · rw [if_pos (by omega)]
  · omega
theorem szL_neg' {left : Int} {n : Nat} (h : szL left n < 0) : szL left n = -1 := by
  unfold szL at *; split at h
  · rw [if_pos (by omega)]
  · omega
theorem szL_add {left : Int} {m n : Nat} : szL (szL left m) n = szL left (m + n) := by
  unfold szL; split <;> split <;> split <;> omega
theorem szL_pos {left : Int} {n : Nat} (h : n ≤ left) : szL left n = left - n := by unfold szL; rw [if_neg (by omega)]
theorem szL_of {left : Int} {n : Nat} (h : 0 ≤ szL left n) : n ≤ left ∧ szL left n = left - n := by
  unfold szL at *; split at h
  · omega
  · rw [if_neg (by omega)]; omega
theorem szL_rm {left : Int} {n : Nat} (h : rm left) : rm (szL left n) := by
  obtain ⟨h1, h2⟩ := h
  unfold szL; split <;> constructor <;> omega
theorem szL_sum {α : Type} {left : Int} {f : α → Nat} {l : List α} {i : Nat} (h : szL left (l.length + sumOf f (l.take i)) < 0) : szL left (l.length + sumOf f l) = -1 := by
  have h := szL_neg (n := sumOf f (l.drop i)) h
  have e := sumOf_app (f := f) (l := l.take i) (m := l.drop i)
  rw [List.take_append_drop] at e
  rwa [Nat.add_assoc, ← e] at h
end Go.PL
