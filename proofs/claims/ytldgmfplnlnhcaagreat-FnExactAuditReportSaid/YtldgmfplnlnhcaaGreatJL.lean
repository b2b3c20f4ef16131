/- A plain machine, sound for the given model, and contracts of functions over it, part 30: JL. Nothing is assumed. -/
import Derived.Test.YtldgmfplnlnhcaaGreatG27
import Derived.Test.YtldgmfplnlnhcaaGreatEA
set_option linter.unusedSimpArgs false
set_option linter.unusedVariables false
set_option linter.unusedSectionVars false
/- JL -/
namespace Go.PL
/-- A jet along one axis: a value and a slope. -/
abbrev J := Rat × Rat
def jAdd (a b : J) : J := (a.1 + b.1, a.2 + b.2)
def jNeg (a : J) : J := (-a.1, -a.2)
def jMul (a b : J) : J := (a.1 * b.1, a.2 * b.1 + a.1 * b.2)
def jOver (a : J) : J := (1 / a.1, -(a.2 * (1 / a.1 * (1 / a.1))))
def jPow (a : J) : Nat → J
  | 0 => (1, 0)
  | k + 1 => jMul (jPow a k) a
/-- The slope of a power. -/
def dPow (f : Rat) : Nat → Rat
  | 0 => 0
  | k + 1 => f ^ k * ((k + 1 : Nat) : Rat)
theorem jPow_eq (a : J) (k : Nat) : jPow a k = (a.1 ^ k, dPow a.1 k * a.2) := by
  induction k with
  | zero => simp [jPow, dPow]
  | succ k ih =>
    rw [jPow, ih, jMul]
    simp only [Prod.mk.injEq]
    refine ⟨by rw [Rat.pow_succ], ?_⟩
    cases k with
    | zero => simp [dPow, Rat.zero_add]
    | succ k =>
      simp only [dPow]
      have e : ((k + 1 + 1 : Nat) : Rat) = ((k + 1 : Nat) : Rat) + 1 := by simp
      rw [e]
      generalize ((k + 1 : Nat) : Rat) = c
      have e2 : a.1 ^ (k + 1) = a.1 ^ k * a.1 := Rat.pow_succ _ _
      grind
/-- The program's 1 over a jet. -/
theorem jOver_eq {a : J} : jOver a = (1 / a.1, -(1 / a.1 * (1 / a.1)) * a.2) := by
  unfold jOver
  simp only [Prod.mk.injEq, true_and]
  grind
section
variable (fit : Rat → Bool)
/-- A node's jet along an axis, of the jets ahead of it: as the reference has it (10: over 0, 7: too long). -/
def sNode (x v : List Rat) (out : List J) (n : Nd) : Except Int J :=
  let a := out.getD n.a.toNat (0, 0)
  let b := out.getD n.b.toNat (0, 0)
  if n.op = 1 then .ok ((n.n : Rat), 0)
  else if n.op = 2 then .ok (x.getD n.n.toNat 0, v.getD n.n.toNat 0)
  else if n.op = 3 then .ok (jAdd a b)
  else if n.op = 4 then .ok (jAdd a (jNeg b))
  else if n.op = 5 then .ok (jMul a b)
  else if n.op = 6 then (if b.1 = 0 then .error 10 else .ok (jMul a (jOver b)))
  else if n.op = 7 then .ok (jNeg a)
  else .ok (jPow a n.n.toNat)
def sStep (x v : List Rat) (out : List J) (n : Nd) : Except Int J :=
  match sNode x v out n with
  | .ok j => if fit j.1 && fit j.2 then .ok j else .error 7
  | .error e => .error e
def sEval (x v : List Rat) : List Nd → List J → Except Int (List J)
  | [], out => .ok out
  | n :: r, out => match sStep fit x v out n with
    | .ok j => sEval x v r (out ++ [j])
    | .error e => .error e
/-- A node's jet along all axes, as the program has it. -/
abbrev I := Rat × List Rat
def along (m : Nat) (f : Nat → Rat) : List Rat := (List.range m).map f
def iNode (m : Nat) (x : List Rat) (out : List I) (n : Nd) : Except Int I :=
  let a := out.getD n.a.toNat (0, [])
  let b := out.getD n.b.toNat (0, [])
  let g := fun (c : I) i => c.2.getD i 0
  if n.op = 1 then .ok ((n.n : Rat), along m fun _ => 0)
  else if n.op = 2 then .ok (x.getD n.n.toNat 0, along m fun i => if i = n.n.toNat then 1 else 0)
  else if n.op = 3 then .ok (a.1 + b.1, along m fun i => g a i + g b i)
  else if n.op = 4 then .ok (a.1 + b.1 * -1, along m fun i => g a i + g b i * -1)
  else if n.op = 5 then .ok (a.1 * b.1, along m fun i => g a i * b.1 + a.1 * g b i)
  else if n.op = 6 then (if b.1 = 0 then .error 10 else .ok (a.1 * (1 / b.1), along m fun i => g a i * (1 / b.1) + a.1 * (-(1 / b.1 * (1 / b.1)) * g b i)))
  else if n.op = 7 then .ok (a.1 * -1, along m fun i => g a i * -1)
  else .ok (a.1 ^ n.n.toNat, along m fun i => dPow a.1 n.n.toNat * g a i)
/-- One axis of it. -/
def ax (i : Nat) (c : I) : J := (c.1, c.2.getD i 0)
theorem along_get {m i : Nat} {f : Nat → Rat} (h : i < m) : (along m f).getD i 0 = f i := by
  unfold along
  simp [List.getD, h]
theorem ax_getD {out : List I} {i k : Nat} : (out.map (ax i)).getD k (0, 0) = ax i (out.getD k (0, [])) := by
  unfold ax
  simp only [List.getD, List.getElem?_map]
  cases out[k]? <;> simp
theorem ax_mk {m i : Nat} (hi : i < m) {c : Rat} {f : Nat → Rat} : ax i (c, along m f) = (c, f i) := by unfold ax; rw [along_get hi]
theorem unit_get {m i k : Nat} (hk : k < m) : ((List.range m).map fun t => if t = i then (1 : Rat) else 0).getD k 0 = if i = k then 1 else 0 := by
  simp only [List.getD, List.getElem?_map, List.getElem?_range hk, Option.map_some, Option.getD_some]
  by_cases h : k = i
  · subst h; simp
  · rw [if_neg h, if_neg (Ne.symm h)]
theorem node_ax {m i : Nat} (hi : i < m) (x : List Rat) (out : List I) (n : Nd) (hn : n.op = 2 → n.n.toNat < m) :
    sNode x ((List.range m).map fun k => if k = i then 1 else 0) (out.map (ax i)) n = (iNode m x out n).map (ax i) := by
  unfold sNode iNode
  simp only [ax_getD]
  generalize out.getD n.a.toNat (0, []) = a
  generalize out.getD n.b.toNat (0, []) = b
  by_cases h1 : n.op = 1
  · simp only [if_pos h1, Except.map, ax_mk hi]
  by_cases h2 : n.op = 2
  · simp only [if_neg h1, if_pos h2, Except.map, unit_get (hn h2)]; rw [ax_mk hi]
  by_cases h3 : n.op = 3
  · simp only [if_neg h1, if_neg h2, if_pos h3, Except.map]; rw [ax_mk hi]; rfl
  by_cases h4 : n.op = 4
  · simp only [if_neg h1, if_neg h2, if_neg h3, if_pos h4, Except.map]
    rw [ax_mk hi]
    simp only [jAdd, jNeg, ax, Except.ok.injEq, Prod.mk.injEq]
    grind
  by_cases h5 : n.op = 5
  · simp only [if_neg h1, if_neg h2, if_neg h3, if_neg h4, if_pos h5, Except.map]; rw [ax_mk hi]; rfl
  by_cases h6 : n.op = 6
  · simp only [if_neg h1, if_neg h2, if_neg h3, if_neg h4, if_neg h5, if_pos h6]
    by_cases h0 : b.1 = 0
    · simp [ax, h0, Except.map]
    · simp only [ax, h0, if_false, Except.map, jOver_eq, jMul]
      rw [along_get hi]
  by_cases h7 : n.op = 7
  · simp only [if_neg h1, if_neg h2, if_neg h3, if_neg h4, if_neg h5, if_neg h6, if_pos h7, Except.map]
    rw [ax_mk hi]
    simp only [jNeg, ax, Except.ok.injEq, Prod.mk.injEq]
    grind
  · simp only [if_neg h1, if_neg h2, if_neg h3, if_neg h4, if_neg h5, if_neg h6, if_neg h7, Except.map, jPow_eq]; rw [ax_mk hi]; rfl
end
section
variable (fit : Rat → Bool)
def iStep (m : Nat) (x : List Rat) (out : List I) (n : Nd) : Except Int I :=
  match iNode m x out n with
  | .ok c => if fit c.1 && c.2.all fit then .ok c else .error 7
  | .error e => .error e
def iEval (m : Nat) (x : List Rat) : List Nd → List I → Except Int (List I)
  | [], out => .ok out
  | n :: r, out => match iStep fit m x out n with
    | .ok j => iEval m x r (out ++ [j])
    | .error e => .error e
abbrev unitV (m i : Nat) : List Rat := (List.range m).map fun k => if k = i then 1 else 0
theorem node_len {m : Nat} {x : List Rat} {out : List I} {n : Nd} {c : I} (h : iNode m x out n = .ok c) : ∃ f, c.2 = along m f := by
  unfold iNode at h
  simp only at h
  repeat' split at h
  all_goals first
    | (cases h; exact ⟨_, rfl⟩)
    | cases h
theorem all_along {m : Nat} {f : Nat → Rat} : (along m f).all fit = true ↔ ∀ i, i < m → fit (f i) = true := by
  unfold along
  simp
theorem step_ok {m : Nat} {x : List Rat} {out : List I} {n : Nd} {c : I} (hn : n.op = 2 → n.n.toNat < m) (h : iStep fit m x out n = .ok c) : ∀ i, i < m → sStep fit x (unitV m i) (out.map (ax i)) n = .ok (ax i c) := by
  intro i hi
  unfold iStep at h
  unfold sStep
  rw [node_ax hi x out n hn]
  cases hc : iNode m x out n with
  | error e => rw [hc] at h; cases h
  | ok d =>
    rw [hc] at h
    obtain ⟨f, hf⟩ := node_len hc
    simp only at h
    split at h
    · rename_i hfit
      cases h
      rw [Bool.and_eq_true, hf, all_along] at hfit
      have : (ax i c) = (c.1, f i) := by unfold ax; rw [hf, along_get hi]
      simp only [Except.map, this, hfit.1, hfit.2 i hi, Bool.and_self, if_true]
    · cases h
theorem step_err {m : Nat} {x : List Rat} {out : List I} {n : Nd} {e : Int} (hm : 0 < m) (hn : n.op = 2 → n.n.toNat < m) (h : iStep fit m x out n = .error e) : ∃ i, i < m ∧ ∃ e', sStep fit x (unitV m i) (out.map (ax i)) n = .error e' := by
  unfold iStep at h
  cases hc : iNode m x out n with
  | error e' =>
    refine ⟨0, hm, e', ?_⟩
    unfold sStep
    rw [node_ax hm x out n hn, hc]; rfl
  | ok d =>
    rw [hc] at h
    obtain ⟨f, hf⟩ := node_len hc
    simp only at h
    split at h
    · cases h
    · rename_i hfit
      by_cases h1 : fit d.1 = true
      · have : ∃ i, i < m ∧ ¬ fit (f i) = true := by
          rw [Bool.and_eq_true, hf, all_along] at hfit
          refine Classical.byContradiction fun q => hfit ⟨h1, fun i hi => Classical.byContradiction fun p => q ⟨i, hi, p⟩⟩
        obtain ⟨i, hi, hne⟩ := this
        refine ⟨i, hi, 7, ?_⟩
        unfold sStep
        rw [node_ax hi x out n hn, hc]
        have : (ax i d) = (d.1, f i) := by unfold ax; rw [hf, along_get hi]
        simp [Except.map, this, hne]
      · refine ⟨0, hm, 7, ?_⟩
        unfold sStep
        rw [node_ax hm x out n hn, hc]
        simp [Except.map, ax, h1]
end
section
variable (fit : Rat → Bool)
theorem eval_ok {m : Nat} {x : List Rat} : ∀ {l : List Nd} {out R : List I}, (∀ n ∈ l, n.op = 2 → n.n.toNat < m) → iEval fit m x l out = .ok R → ∀ i, i < m → sEval fit x (unitV m i) l (out.map (ax i)) = .ok (R.map (ax i))
  | [], out, R, _, h, i, _ => by cases h; rfl
  | n :: r, out, R, hn, h, i, hi => by
    unfold iEval at h
    unfold sEval
    cases hc : iStep fit m x out n with
    | error e => rw [hc] at h; cases h
    | ok c =>
      rw [hc] at h
      rw [step_ok fit (hn n (by simp)) hc i hi]
      have := eval_ok (fun k hk => hn k (by simp [hk])) h i hi
      rw [List.map_append] at this
      exact this
theorem eval_err {m : Nat} {x : List Rat} (hm : 0 < m) : ∀ {l : List Nd} {out : List I} {e : Int}, (∀ n ∈ l, n.op = 2 → n.n.toNat < m) → iEval fit m x l out = .error e → ∃ i, i < m ∧ ∃ e', sEval fit x (unitV m i) l (out.map (ax i)) = .error e'
  | [], out, e, _, h => by cases h
  | n :: r, out, e, hn, h => by
    unfold iEval at h
    cases hc : iStep fit m x out n with
    | error e2 =>
      obtain ⟨i, hi, e3, h3⟩ := step_err fit hm (hn n (by simp)) hc
      refine ⟨i, hi, e3, ?_⟩
      unfold sEval
      rw [h3]
    | ok c =>
      rw [hc] at h
      obtain ⟨i, hi, e3, h3⟩ := eval_err hm (fun k hk => hn k (by simp [hk])) h
      refine ⟨i, hi, e3, ?_⟩
      unfold sEval
      rw [step_ok fit (hn n (by simp)) hc i hi]
      rw [List.map_append] at h3
      exact h3
end
end Go.PL
