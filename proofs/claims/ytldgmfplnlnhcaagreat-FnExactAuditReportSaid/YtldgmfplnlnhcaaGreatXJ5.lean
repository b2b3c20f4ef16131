/- A plain machine, sound for the given model, and contracts of functions over it, part 42: XJ5. Nothing is assumed. -/
import Derived.Test.YtldgmfplnlnhcaaGreatXJ4
set_option linter.unusedSimpArgs false
set_option linter.unusedVariables false
set_option linter.unusedSectionVars false
/- XJ5 -/
namespace Go.PL
open Go Go.Proofs
set_option maxRecDepth 10000
set_option maxHeartbeats 4000000
set_option linter.unusedSimpArgs false
set_option linter.unusedVariables false
abbrev zjD : D := .agg [.b false, .nil, .nil, .nil, .nil, .b false, .nil, .nil]
def givV : Except Int (Rat × List Rat) → V
  | .ok c => .tup [jV c.1 c.2, .d (.i 0)]
  | .error e => .tup [.d zjD, .d (.i e)]
/-- What a node and the jets ahead of it have to be. -/
structure GP (m : Nat) (x : List Rat) (out : List (Rat × List Rat)) (n : Nd) : Prop where
  m4 : m ≤ 4
  x4 : x.length ≤ 4
  xl : LnV 40 x
  jl : ∀ j ∈ out, Ln 40 j.1 ∧ LnV 40 j.2 ∧ j.2.length = m
  o1 : 1 ≤ n.op
  o8 : n.op ≤ 8
  c : n.op = 1 → 0 ≤ n.n ∧ n.n ≤ 999999999
  v : n.op = 2 → 0 ≤ n.n ∧ n.n < x.length
  p : n.op = 8 → 0 ≤ n.n ∧ n.n ≤ 8
  k : 3 ≤ n.op → 0 ≤ n.a ∧ n.a < out.length ∧ 0 ≤ n.b ∧ n.b < out.length
abbrev j00 : Rat × List Rat := (0, [])
/-- As the program has a node: a power is looked at first. -/
def iNodeF (m : Nat) (x : List Rat) (out : List (Rat × List Rat)) (n : Nd) : Except Int (Rat × List Rat) :=
  if n.op = 8 ∧ fitX ((out.getD n.a.toNat j00).1 ^ n.n.toNat) = false then .error 7 else iNode m x out n
theorem map_along {al : List Rat} {m : Nat} {p : Rat → Rat} (h : al.length = m) : al.map p = alongX m fun i => p (al.getD i 0) := by
  have := congrArg (List.map p) (alongX_get h)
  rw [← this, List.map_map]; rfl
theorem along_eq {m : Nat} {p q : Nat → Rat} (h : ∀ i, i < m → p i = q i) : alongX m p = along m q := List.map_congr_left fun i hi => h i (List.mem_range.1 hi)
theorem map_get {al : List Rat} {p : Rat → Rat} {i : Nat} (h : i < al.length) : (al.map p).getD i 0 = p (al.getD i 0) := by simp [List.getD, List.getElem?_eq_getElem h]
theorem jV_e {f g : Rat} {al bl : List Rat} (h1 : f = g) (h2 : al = bl) : V.tup [jV f al, .d (.i 0)] = .tup [jV g bl, .d (.i 0)] := by rw [h1, h2]
theorem LnV_map {a b : Nat} {l : List Rat} {p : Rat → Rat} (h : LnV a l) (hp : ∀ x, Ln a x → Ln b (p x)) : LnV b (l.map p) := by
  intro y hy
  obtain ⟨x, hx, rfl⟩ := List.mem_map.1 hy
  exact hp x (h x hx)
theorem LnV_along {b m : Nat} {p : Nat → Rat} (h : ∀ i, i < m → Ln b (p i)) : LnV b (alongX m p) := alongX_Ln h
theorem lm1 : Ln 1 (-1) := Ln.int (z := -1) (by decide)
theorem cm1 : ((-1 : Int) : Rat) = -1 := rfl
section
variable {m : Nat} {x : List Rat} {out : List (Rat × List Rat)} {a b n : Int}
abbrev gArgs (m : Nat) (x : List Rat) (out : List (Rat × List Rat)) (o a b n : Int) : List V := [.d (.agg [.i m, .nil]), .d (.agg [.i o, .i a, .i b, .i n]), vV x, .d (.sl (out.map encJ))]
theorem giv1 (h : GP m x out ⟨1, a, b, n⟩) : CC 154 (gArgs m x out 1 a b n) [] (givV (iNodeF m x out ⟨1, a, b, n⟩)) [] := by
  have hk : kidsN 1 = 0 := rfl
  have hc := h.c rfl
  simp only at hc
  obtain ⟨c0, c1⟩ := hc
  have m4 := h.m4
  have e : iNodeF m x out ⟨1, a, b, n⟩ = .ok ((n : Rat), along m fun _ => 0) := rfl
  rw [e]
  unfold givV
  refine Den.pureP Tryz.func154 rfl 4 [.cell 8 120, .tmp 9] (by kernel_rfl) rfl rfl (by simp only [initE_nil, initE_cons, Nat.reduceAdd]; exact rfl) ?_
  repeat' first | (with_reducible first | refine nx' ?_ (by simp -implicitDefEqProofs (disch := omega) only [go_sem, hk]; exact rfl) | refine n0 ?_ | refine Wp.drawR (by decide +kernel) ?_ | refine Wp.drawSR [2, 3, 4, 5, 6] [false, false, true, true, true, true, true] (.op 2 [0,1] (.op 3 [0] (.op 4 [] (.op 5 [] (.op 6 [] .done))))) (by decide +kernel) ?_ | refine Wp.drawSR [3, 4, 5, 6] [false, false, false, true, true, true, true] (.op 3 [0] (.op 4 [] (.op 5 [] (.op 6 [] .done)))) (by decide +kernel) ?_ | refine Wp.drawSR [2, 3, 4, 5] [false, false, true, true, true, true] (.op 2 [0] (.op 3 [] (.op 4 [] (.op 5 [] .done)))) (by decide +kernel) ?_ | refine Wp.drawSR [1, 2, 3, 4] [false, true, true, true, true] (.op 1 [0] (.op 2 [] (.op 3 [] (.op 4 [] .done)))) (by decide +kernel) ?_ | refine Wp.drawSR [10, 11] [false, false, false, false, false, false, false, false, false, false, true, true] (.op 10 [5,6,7,8,9] (.op 11 [] .done)) (by decide +kernel) ?_ | refine n1 ?_ | refine nilB_i fun b hb => ?_ | refine nP ?_ ?_ | refine nS fun K hK => ?_ | (refine n2 ?_ ?_ <;> intro h <;> first | subst (h : _ = true) | subst (h : _ = false) | (simp only [FX, LX, hk] at h) | skip) | refine And.intro ?_ ?_ | refine nK ‹Imp _ _› ?_) | exact nl | fail
  rfl
theorem giv2 (h : GP m x out ⟨2, a, b, n⟩) : CC 154 (gArgs m x out 2 a b n) [] (givV (iNodeF m x out ⟨2, a, b, n⟩)) [] := by
  have hk : kidsN 2 = 0 := rfl
  have hc := h.v rfl
  simp only at hc
  obtain ⟨c0, c1⟩ := hc
  have m4 := h.m4
  have e : iNodeF m x out ⟨2, a, b, n⟩ = .ok (x.getD n.toNat 0, along m fun i => if i = n.toNat then 1 else 0) := rfl
  rw [e]
  unfold givV
  refine Den.pureP Tryz.func154 rfl 4 [.cell 8 120, .tmp 9] (by kernel_rfl) rfl rfl (by simp only [initE_nil, initE_cons, Nat.reduceAdd]; exact rfl) ?_
  repeat' first | (with_reducible first | refine nx' ?_ (by simp -implicitDefEqProofs (disch := omega) only [go_sem, hk]; exact rfl) | refine n0 ?_ | refine Wp.drawR (by decide +kernel) ?_ | refine Wp.drawSR [2, 3, 4, 5, 6] [false, false, true, true, true, true, true] (.op 2 [0,1] (.op 3 [0] (.op 4 [] (.op 5 [] (.op 6 [] .done))))) (by decide +kernel) ?_ | refine Wp.drawSR [3, 4, 5, 6] [false, false, false, true, true, true, true] (.op 3 [0] (.op 4 [] (.op 5 [] (.op 6 [] .done)))) (by decide +kernel) ?_ | refine Wp.drawSR [2, 3, 4, 5] [false, false, true, true, true, true] (.op 2 [0] (.op 3 [] (.op 4 [] (.op 5 [] .done)))) (by decide +kernel) ?_ | refine Wp.drawSR [1, 2, 3, 4] [false, true, true, true, true] (.op 1 [0] (.op 2 [] (.op 3 [] (.op 4 [] .done)))) (by decide +kernel) ?_ | refine Wp.drawSR [10, 11] [false, false, false, false, false, false, false, false, false, false, true, true] (.op 10 [5,6,7,8,9] (.op 11 [] .done)) (by decide +kernel) ?_ | refine n1 ?_ | refine nilB_i fun b hb => ?_ | refine nP ?_ ?_ | refine nS fun K hK => ?_ | (refine n2 ?_ ?_ <;> intro h <;> first | subst (h : _ = true) | subst (h : _ = false) | (simp only [FX, LX, hk] at h) | skip) | refine And.intro ?_ ?_ | refine nK ‹Imp _ _› ?_) | exact nl | fail
  rfl
theorem giv3 (h : GP m x out ⟨3, a, b, n⟩) : CC 154 (gArgs m x out 3 a b n) [] (givV (iNodeF m x out ⟨3, a, b, n⟩)) [] := by
  have hk : kidsN 3 = 2 := rfl
  have hK := h.k (show (3 : Int) ≤ 3 by decide)
  simp only at hK
  obtain ⟨a0, a1, b0, b1⟩ := hK
  obtain ⟨ja1, ja2, ja3⟩ := h.jl _ (getD_mem j00 (show a.toNat < out.length by omega))
  obtain ⟨jb1, jb2, jb3⟩ := h.jl _ (getD_mem j00 (show b.toNat < out.length by omega))
  have m4 := h.m4
  have fa := ja1.mono (show 40 ≤ 300 by omega)
  have fb := jb1.mono (show 40 ≤ 300 by omega)
  have la := ja2.mono (show 40 ≤ 300 by omega)
  have lb := jb2.mono (show 40 ≤ 300 by omega)
  have na : (out.getD a.toNat j00).2.length ≤ 4 := by omega
  have nb : (out.getD b.toNat j00).2.length ≤ 4 := by omega
  have nab : (out.getD b.toNat j00).2.length = (out.getD a.toNat j00).2.length := by omega
  have e : iNodeF m x out ⟨3, a, b, n⟩ = .ok ((out.getD a.toNat j00).1 + (out.getD b.toNat j00).1, along m fun i => (out.getD a.toNat j00).2.getD i 0 + (out.getD b.toNat j00).2.getD i 0) := rfl
  rw [e]
  unfold givV
  refine Den.pureP Tryz.func154 rfl 4 [.cell 8 120, .tmp 9] (by kernel_rfl) rfl rfl (by simp only [initE_nil, initE_cons, Nat.reduceAdd]; exact rfl) ?_
  repeat' first | (with_reducible first | refine nx' ?_ (by simp -implicitDefEqProofs (disch := omega) only [go_sem, hk]; exact rfl) | refine n0 ?_ | refine Wp.drawR (by decide +kernel) ?_ | refine Wp.drawSR [2, 3, 4, 5, 6] [false, false, true, true, true, true, true] (.op 2 [0,1] (.op 3 [0] (.op 4 [] (.op 5 [] (.op 6 [] .done))))) (by decide +kernel) ?_ | refine Wp.drawSR [3, 4, 5, 6] [false, false, false, true, true, true, true] (.op 3 [0] (.op 4 [] (.op 5 [] (.op 6 [] .done)))) (by decide +kernel) ?_ | refine Wp.drawSR [2, 3, 4, 5] [false, false, true, true, true, true] (.op 2 [0] (.op 3 [] (.op 4 [] (.op 5 [] .done)))) (by decide +kernel) ?_ | refine Wp.drawSR [1, 2, 3, 4] [false, true, true, true, true] (.op 1 [0] (.op 2 [] (.op 3 [] (.op 4 [] .done)))) (by decide +kernel) ?_ | refine Wp.drawSR [10, 11] [false, false, false, false, false, false, false, false, false, false, true, true] (.op 10 [5,6,7,8,9] (.op 11 [] .done)) (by decide +kernel) ?_ | refine n1 ?_ | refine nilB_i fun b hb => ?_ | refine nP ?_ ?_ | refine nS fun K hK => ?_ | (refine n2 ?_ ?_ <;> intro h <;> first | subst (h : _ = true) | subst (h : _ = false) | (simp only [FX, LX, hk] at h) | skip) | refine And.intro ?_ ?_ | refine nK ‹Imp _ _› ?_) | exact nl | fail
  rw [ja3]; rfl
theorem giv4 (h : GP m x out ⟨4, a, b, n⟩) : CC 154 (gArgs m x out 4 a b n) [] (givV (iNodeF m x out ⟨4, a, b, n⟩)) [] := by
  have hk : kidsN 4 = 2 := rfl
  have hK := h.k (show (3 : Int) ≤ 4 by decide)
  simp only at hK
  obtain ⟨a0, a1, b0, b1⟩ := hK
  obtain ⟨ja1, ja2, ja3⟩ := h.jl _ (getD_mem j00 (show a.toNat < out.length by omega))
  obtain ⟨jb1, jb2, jb3⟩ := h.jl _ (getD_mem j00 (show b.toNat < out.length by omega))
  have m4 := h.m4
  have fa := ja1.mono (show 40 ≤ 300 by omega)
  have fb := jb1.mono (show 40 ≤ 300 by omega)
  have la := ja2.mono (show 40 ≤ 300 by omega)
  have lb := jb2.mono (show 40 ≤ 300 by omega)
  have na : (out.getD a.toNat j00).2.length ≤ 4 := by omega
  have nb : (out.getD b.toNat j00).2.length ≤ 4 := by omega
  have nab : (out.getD b.toNat j00).2.length = (out.getD a.toNat j00).2.length := by omega
  have lm : Ln 300 (-1) := lm1.mono (by omega)
  have f1 : Ln 300 ((out.getD b.toNat j00).1 * -1) := (jb1.mul lm1).mono (by omega)
  have l1 : LnV 300 ((out.getD b.toNat j00).2.map fun x => x * -1) := LnV_map jb2 fun x hx => (hx.mul lm1).mono (by omega)
  have n1' : ((out.getD b.toNat j00).2.map fun x => x * -1).length = (out.getD a.toNat j00).2.length := by rw [List.length_map, nab]
  have e : iNodeF m x out ⟨4, a, b, n⟩ = .ok ((out.getD a.toNat j00).1 + (out.getD b.toNat j00).1 * -1, along m fun i => (out.getD a.toNat j00).2.getD i 0 + (out.getD b.toNat j00).2.getD i 0 * -1) := rfl
  rw [e]
  unfold givV
  refine Den.pureP Tryz.func154 rfl 4 [.cell 8 120, .tmp 9] (by kernel_rfl) rfl rfl (by simp only [initE_nil, initE_cons, Nat.reduceAdd]; exact rfl) ?_
  repeat' first | (with_reducible first | refine nx' ?_ (by simp -implicitDefEqProofs (disch := omega) only [go_sem, hk, cm1]; exact rfl) | refine n0 ?_ | refine Wp.drawR (by decide +kernel) ?_ | refine Wp.drawSR [2, 3, 4, 5, 6] [false, false, true, true, true, true, true] (.op 2 [0,1] (.op 3 [0] (.op 4 [] (.op 5 [] (.op 6 [] .done))))) (by decide +kernel) ?_ | refine Wp.drawSR [3, 4, 5, 6] [false, false, false, true, true, true, true] (.op 3 [0] (.op 4 [] (.op 5 [] (.op 6 [] .done)))) (by decide +kernel) ?_ | refine Wp.drawSR [2, 3, 4, 5] [false, false, true, true, true, true] (.op 2 [0] (.op 3 [] (.op 4 [] (.op 5 [] .done)))) (by decide +kernel) ?_ | refine Wp.drawSR [1, 2, 3, 4] [false, true, true, true, true] (.op 1 [0] (.op 2 [] (.op 3 [] (.op 4 [] .done)))) (by decide +kernel) ?_ | refine Wp.drawSR [10, 11] [false, false, false, false, false, false, false, false, false, false, true, true] (.op 10 [5,6,7,8,9] (.op 11 [] .done)) (by decide +kernel) ?_ | refine n1 ?_ | refine nilB_i fun b hb => ?_ | refine nP ?_ ?_ | refine nS fun K hK => ?_ | (refine n2 ?_ ?_ <;> intro h <;> first | subst (h : _ = true) | subst (h : _ = false) | (simp only [FX, LX, hk, cm1] at h) | skip) | refine And.intro ?_ ?_ | refine nK ‹Imp _ _› ?_) | exact nl | fail
  refine jV_e rfl ?_
  rw [ja3]
  exact along_eq fun i hi => by rw [map_get (show i < (out.getD b.toNat j00).2.length by omega)]
theorem giv5 (h : GP m x out ⟨5, a, b, n⟩) : CC 154 (gArgs m x out 5 a b n) [] (givV (iNodeF m x out ⟨5, a, b, n⟩)) [] := by
  have hk : kidsN 5 = 2 := rfl
  have hK := h.k (show (3 : Int) ≤ 5 by decide)
  simp only at hK
  obtain ⟨a0, a1, b0, b1⟩ := hK
  obtain ⟨ja1, ja2, ja3⟩ := h.jl _ (getD_mem j00 (show a.toNat < out.length by omega))
  obtain ⟨jb1, jb2, jb3⟩ := h.jl _ (getD_mem j00 (show b.toNat < out.length by omega))
  have m4 := h.m4
  have fa := ja1.mono (show 40 ≤ 300 by omega)
  have fb := jb1.mono (show 40 ≤ 300 by omega)
  have la := ja2.mono (show 40 ≤ 300 by omega)
  have lb := jb2.mono (show 40 ≤ 300 by omega)
  have na : (out.getD a.toNat j00).2.length ≤ 4 := by omega
  have nb : (out.getD b.toNat j00).2.length ≤ 4 := by omega
  have nab : (out.getD b.toNat j00).2.length = (out.getD a.toNat j00).2.length := by omega
  have e : iNodeF m x out ⟨5, a, b, n⟩ = .ok ((out.getD a.toNat j00).1 * (out.getD b.toNat j00).1, along m fun i => (out.getD a.toNat j00).2.getD i 0 * (out.getD b.toNat j00).1 + (out.getD a.toNat j00).1 * (out.getD b.toNat j00).2.getD i 0) := rfl
  rw [e]
  unfold givV
  refine Den.pureP Tryz.func154 rfl 4 [.cell 8 120, .tmp 9] (by kernel_rfl) rfl rfl (by simp only [initE_nil, initE_cons, Nat.reduceAdd]; exact rfl) ?_
  repeat' first | (with_reducible first | refine nx' ?_ (by simp -implicitDefEqProofs (disch := omega) only [go_sem, hk]; exact rfl) | refine n0 ?_ | refine Wp.drawR (by decide +kernel) ?_ | refine Wp.drawSR [2, 3, 4, 5, 6] [false, false, true, true, true, true, true] (.op 2 [0,1] (.op 3 [0] (.op 4 [] (.op 5 [] (.op 6 [] .done))))) (by decide +kernel) ?_ | refine Wp.drawSR [3, 4, 5, 6] [false, false, false, true, true, true, true] (.op 3 [0] (.op 4 [] (.op 5 [] (.op 6 [] .done)))) (by decide +kernel) ?_ | refine Wp.drawSR [2, 3, 4, 5] [false, false, true, true, true, true] (.op 2 [0] (.op 3 [] (.op 4 [] (.op 5 [] .done)))) (by decide +kernel) ?_ | refine Wp.drawSR [1, 2, 3, 4] [false, true, true, true, true] (.op 1 [0] (.op 2 [] (.op 3 [] (.op 4 [] .done)))) (by decide +kernel) ?_ | refine Wp.drawSR [10, 11] [false, false, false, false, false, false, false, false, false, false, true, true] (.op 10 [5,6,7,8,9] (.op 11 [] .done)) (by decide +kernel) ?_ | refine n1 ?_ | refine nilB_i fun b hb => ?_ | refine nP ?_ ?_ | refine nS fun K hK => ?_ | (refine n2 ?_ ?_ <;> intro h <;> first | subst (h : _ = true) | subst (h : _ = false) | (simp only [FX, LX, hk] at h) | skip) | refine And.intro ?_ ?_ | refine nK ‹Imp _ _› ?_) | exact nl | fail
  rw [ja3]; rfl
theorem giv6 (h : GP m x out ⟨6, a, b, n⟩) : CC 154 (gArgs m x out 6 a b n) [] (givV (iNodeF m x out ⟨6, a, b, n⟩)) [] := by
  have hk : kidsN 6 = 2 := rfl
  have hK := h.k (show (3 : Int) ≤ 6 by decide)
  simp only at hK
  obtain ⟨a0, a1, b0, b1⟩ := hK
  obtain ⟨ja1, ja2, ja3⟩ := h.jl _ (getD_mem j00 (show a.toNat < out.length by omega))
  obtain ⟨jb1, jb2, jb3⟩ := h.jl _ (getD_mem j00 (show b.toNat < out.length by omega))
  have m4 := h.m4
  have fa := ja1.mono (show 40 ≤ 300 by omega)
  have fb := jb1.mono (show 40 ≤ 300 by omega)
  have la := ja2.mono (show 40 ≤ 300 by omega)
  have lb := jb2.mono (show 40 ≤ 300 by omega)
  have na : (out.getD a.toNat j00).2.length ≤ 4 := by omega
  have nb : (out.getD b.toNat j00).2.length ≤ 4 := by omega
  have nab : (out.getD b.toNat j00).2.length = (out.getD a.toNat j00).2.length := by omega
  have nu0 := nuX_zero (x := (out.getD b.toNat j00).1)
  by_cases h0 : (out.getD b.toNat j00).1 = 0
  · have e : iNodeF m x out ⟨6, a, b, n⟩ = .error 10 := by
      show (if (out.getD b.toNat j00).1 = 0 then _ else _) = _
      rw [if_pos h0]
    have hz : (((nuX (out.getD b.toNat j00).1).length : Int) == 0) = true := by
      rw [beq_iff_eq]; have := nu0.2 h0; omega
    rw [e]
    unfold givV
    refine Den.pureP Tryz.func154 rfl 4 [.cell 8 120, .tmp 9] (by kernel_rfl) rfl rfl (by simp only [initE_nil, initE_cons, Nat.reduceAdd]; exact rfl) ?_
    repeat' first | (with_reducible first | refine nx' ?_ (by simp -implicitDefEqProofs (disch := omega) only [go_sem, hk, hz]; exact rfl) | refine n0 ?_ | refine Wp.drawR (by decide +kernel) ?_ | refine Wp.drawSR [2, 3, 4, 5, 6] [false, false, true, true, true, true, true] (.op 2 [0,1] (.op 3 [0] (.op 4 [] (.op 5 [] (.op 6 [] .done))))) (by decide +kernel) ?_ | refine Wp.drawSR [3, 4, 5, 6] [false, false, false, true, true, true, true] (.op 3 [0] (.op 4 [] (.op 5 [] (.op 6 [] .done)))) (by decide +kernel) ?_ | refine Wp.drawSR [2, 3, 4, 5] [false, false, true, true, true, true] (.op 2 [0] (.op 3 [] (.op 4 [] (.op 5 [] .done)))) (by decide +kernel) ?_ | refine Wp.drawSR [1, 2, 3, 4] [false, true, true, true, true] (.op 1 [0] (.op 2 [] (.op 3 [] (.op 4 [] .done)))) (by decide +kernel) ?_ | refine Wp.drawSR [10, 11] [false, false, false, false, false, false, false, false, false, false, true, true] (.op 10 [5,6,7,8,9] (.op 11 [] .done)) (by decide +kernel) ?_ | refine n1 ?_ | refine nilB_i fun b hb => ?_ | refine nP ?_ ?_ | refine nS fun K hK => ?_ | (refine n2 ?_ ?_ <;> intro h <;> first | subst (h : _ = true) | subst (h : _ = false) | (simp only [FX, LX, hk, hz] at h) | skip) | refine And.intro ?_ ?_ | refine nK ‹Imp _ _› ?_) | exact nl | fail
  · have e : iNodeF m x out ⟨6, a, b, n⟩ = .ok ((out.getD a.toNat j00).1 * (1 / (out.getD b.toNat j00).1), along m fun i => (out.getD a.toNat j00).2.getD i 0 * (1 / (out.getD b.toNat j00).1) + (out.getD a.toNat j00).1 * (-(1 / (out.getD b.toNat j00).1 * (1 / (out.getD b.toNat j00).1)) * (out.getD b.toNat j00).2.getD i 0)) := by
      show (if (out.getD b.toNat j00).1 = 0 then _ else _) = _
      rw [if_neg h0]
    have hz : (((nuX (out.getD b.toNat j00).1).length : Int) == 0) = false := by
      rw [beq_eq_false_iff_ne]; intro q; exact h0 (nu0.1 (by omega))
    have i1 : Ln (1 + 40) (1 / (out.getD b.toNat j00).1) := (Ln.int (z := 1) (by decide)).div jb1 h0
    have f1 : Ln 300 (1 / (out.getD b.toNat j00).1) := i1.mono (by omega)
    have l1 : LnV 300 ((out.getD b.toNat j00).2.map fun x => -(1 / (out.getD b.toNat j00).1 * (1 / (out.getD b.toNat j00).1)) * x) := LnV_map jb2 fun x hx => ((i1.mul i1).neg.mul hx).mono (by omega)
    have n1' : ((out.getD b.toNat j00).2.map fun x => -(1 / (out.getD b.toNat j00).1 * (1 / (out.getD b.toNat j00).1)) * x).length = (out.getD a.toNat j00).2.length := by rw [List.length_map, nab]
    rw [e]
    unfold givV
    refine Den.pureP Tryz.func154 rfl 4 [.cell 8 120, .tmp 9] (by kernel_rfl) rfl rfl (by simp only [initE_nil, initE_cons, Nat.reduceAdd]; exact rfl) ?_
    repeat' first | (with_reducible first | refine nx' ?_ (by simp -implicitDefEqProofs (disch := omega) only [go_sem, hk, hz]; exact rfl) | refine n0 ?_ | refine Wp.drawR (by decide +kernel) ?_ | refine Wp.drawSR [2, 3, 4, 5, 6] [false, false, true, true, true, true, true] (.op 2 [0,1] (.op 3 [0] (.op 4 [] (.op 5 [] (.op 6 [] .done))))) (by decide +kernel) ?_ | refine Wp.drawSR [3, 4, 5, 6] [false, false, false, true, true, true, true] (.op 3 [0] (.op 4 [] (.op 5 [] (.op 6 [] .done)))) (by decide +kernel) ?_ | refine Wp.drawSR [2, 3, 4, 5] [false, false, true, true, true, true] (.op 2 [0] (.op 3 [] (.op 4 [] (.op 5 [] .done)))) (by decide +kernel) ?_ | refine Wp.drawSR [1, 2, 3, 4] [false, true, true, true, true] (.op 1 [0] (.op 2 [] (.op 3 [] (.op 4 [] .done)))) (by decide +kernel) ?_ | refine Wp.drawSR [10, 11] [false, false, false, false, false, false, false, false, false, false, true, true] (.op 10 [5,6,7,8,9] (.op 11 [] .done)) (by decide +kernel) ?_ | refine n1 ?_ | refine nilB_i fun b hb => ?_ | refine nP ?_ ?_ | refine nS fun K hK => ?_ | (refine n2 ?_ ?_ <;> intro h <;> first | subst (h : _ = true) | subst (h : _ = false) | (simp only [FX, LX, hk, hz] at h) | skip) | refine And.intro ?_ ?_ | refine nK ‹Imp _ _› ?_) | exact nl | fail
    refine jV_e rfl ?_
    rw [ja3]
    exact along_eq fun i hi => by rw [map_get (show i < (out.getD b.toNat j00).2.length by omega)]
theorem giv7 (h : GP m x out ⟨7, a, b, n⟩) : CC 154 (gArgs m x out 7 a b n) [] (givV (iNodeF m x out ⟨7, a, b, n⟩)) [] := by
  have hk : kidsN 7 = 1 := rfl
  have hK := h.k (show (3 : Int) ≤ 7 by decide)
  simp only at hK
  obtain ⟨a0, a1, b0, b1⟩ := hK
  obtain ⟨ja1, ja2, ja3⟩ := h.jl _ (getD_mem j00 (show a.toNat < out.length by omega))
  obtain ⟨jb1, jb2, jb3⟩ := h.jl _ (getD_mem j00 (show b.toNat < out.length by omega))
  have m4 := h.m4
  have fa := ja1.mono (show 40 ≤ 300 by omega)
  have fb := jb1.mono (show 40 ≤ 300 by omega)
  have la := ja2.mono (show 40 ≤ 300 by omega)
  have lb := jb2.mono (show 40 ≤ 300 by omega)
  have na : (out.getD a.toNat j00).2.length ≤ 4 := by omega
  have nb : (out.getD b.toNat j00).2.length ≤ 4 := by omega
  have nab : (out.getD b.toNat j00).2.length = (out.getD a.toNat j00).2.length := by omega
  have lm : Ln 300 (-1) := lm1.mono (by omega)
  have e : iNodeF m x out ⟨7, a, b, n⟩ = .ok ((out.getD a.toNat j00).1 * -1, along m fun i => (out.getD a.toNat j00).2.getD i 0 * -1) := rfl
  rw [e]
  unfold givV
  refine Den.pureP Tryz.func154 rfl 4 [.cell 8 120, .tmp 9] (by kernel_rfl) rfl rfl (by simp only [initE_nil, initE_cons, Nat.reduceAdd]; exact rfl) ?_
  repeat' first | (with_reducible first | refine nx' ?_ (by simp -implicitDefEqProofs (disch := omega) only [go_sem, hk, cm1]; exact rfl) | refine n0 ?_ | refine Wp.drawR (by decide +kernel) ?_ | refine Wp.drawSR [2, 3, 4, 5, 6] [false, false, true, true, true, true, true] (.op 2 [0,1] (.op 3 [0] (.op 4 [] (.op 5 [] (.op 6 [] .done))))) (by decide +kernel) ?_ | refine Wp.drawSR [3, 4, 5, 6] [false, false, false, true, true, true, true] (.op 3 [0] (.op 4 [] (.op 5 [] (.op 6 [] .done)))) (by decide +kernel) ?_ | refine Wp.drawSR [2, 3, 4, 5] [false, false, true, true, true, true] (.op 2 [0] (.op 3 [] (.op 4 [] (.op 5 [] .done)))) (by decide +kernel) ?_ | refine Wp.drawSR [1, 2, 3, 4] [false, true, true, true, true] (.op 1 [0] (.op 2 [] (.op 3 [] (.op 4 [] .done)))) (by decide +kernel) ?_ | refine Wp.drawSR [10, 11] [false, false, false, false, false, false, false, false, false, false, true, true] (.op 10 [5,6,7,8,9] (.op 11 [] .done)) (by decide +kernel) ?_ | refine n1 ?_ | refine nilB_i fun b hb => ?_ | refine nP ?_ ?_ | refine nS fun K hK => ?_ | (refine n2 ?_ ?_ <;> intro h <;> first | subst (h : _ = true) | subst (h : _ = false) | (simp only [FX, LX, hk, cm1] at h) | skip) | refine And.intro ?_ ?_ | refine nK ‹Imp _ _› ?_) | exact nl | fail
  exact jV_e rfl (map_along ja3)
theorem giv8 (h : GP m x out ⟨8, a, b, n⟩) : CC 154 (gArgs m x out 8 a b n) [] (givV (iNodeF m x out ⟨8, a, b, n⟩)) [] := by
  have hk : kidsN 8 = 1 := rfl
  have hK := h.k (show (3 : Int) ≤ 8 by decide)
  simp only at hK
  obtain ⟨a0, a1, b0, b1⟩ := hK
  obtain ⟨ja1, ja2, ja3⟩ := h.jl _ (getD_mem j00 (show a.toNat < out.length by omega))
  obtain ⟨jb1, jb2, jb3⟩ := h.jl _ (getD_mem j00 (show b.toNat < out.length by omega))
  have m4 := h.m4
  have fa := ja1.mono (show 40 ≤ 300 by omega)
  have fb := jb1.mono (show 40 ≤ 300 by omega)
  have la := ja2.mono (show 40 ≤ 300 by omega)
  have lb := jb2.mono (show 40 ≤ 300 by omega)
  have na : (out.getD a.toNat j00).2.length ≤ 4 := by omega
  have nb : (out.getD b.toNat j00).2.length ≤ 4 := by omega
  have nab : (out.getD b.toNat j00).2.length = (out.getD a.toNat j00).2.length := by omega
  have hc := h.p rfl
  simp only at hc
  obtain ⟨c0, c1⟩ := hc
  cases hf : fitX ((out.getD a.toNat j00).1 ^ n.toNat) with
  | false =>
    have e : iNodeF m x out ⟨8, a, b, n⟩ = .error 7 := if_pos ⟨rfl, hf⟩
    rw [e]
    unfold givV
    refine Den.pureP Tryz.func154 rfl 4 [.cell 8 120, .tmp 9] (by kernel_rfl) rfl rfl (by simp only [initE_nil, initE_cons, Nat.reduceAdd]; exact rfl) ?_
    repeat' first | (with_reducible first | refine nx' ?_ (by simp -implicitDefEqProofs (disch := omega) only [go_sem, hk, fitX_eq, hf]; exact rfl) | refine n0 ?_ | refine Wp.drawR (by decide +kernel) ?_ | refine Wp.drawSR [2, 3, 4, 5, 6] [false, false, true, true, true, true, true] (.op 2 [0,1] (.op 3 [0] (.op 4 [] (.op 5 [] (.op 6 [] .done))))) (by decide +kernel) ?_ | refine Wp.drawSR [3, 4, 5, 6] [false, false, false, true, true, true, true] (.op 3 [0] (.op 4 [] (.op 5 [] (.op 6 [] .done)))) (by decide +kernel) ?_ | refine Wp.drawSR [2, 3, 4, 5] [false, false, true, true, true, true] (.op 2 [0] (.op 3 [] (.op 4 [] (.op 5 [] .done)))) (by decide +kernel) ?_ | refine Wp.drawSR [1, 2, 3, 4] [false, true, true, true, true] (.op 1 [0] (.op 2 [] (.op 3 [] (.op 4 [] .done)))) (by decide +kernel) ?_ | refine Wp.drawSR [10, 11] [false, false, false, false, false, false, false, false, false, false, true, true] (.op 10 [5,6,7,8,9] (.op 11 [] .done)) (by decide +kernel) ?_ | refine n1 ?_ | refine nilB_i fun b hb => ?_ | refine nP ?_ ?_ | refine nS fun K hK => ?_ | (refine n2 ?_ ?_ <;> intro h <;> first | subst (h : _ = true) | subst (h : _ = false) | (simp only [FX, LX, hk, fitX_eq, hf] at h) | skip) | refine And.intro ?_ ?_ | refine nK ‹Imp _ _› ?_) | exact nl | fail
  | true =>
    have e : iNodeF m x out ⟨8, a, b, n⟩ = .ok ((out.getD a.toNat j00).1 ^ n.toNat, along m fun i => dPow (out.getD a.toNat j00).1 n.toNat * (out.getD a.toNat j00).2.getD i 0) := if_neg (fun q => by have := q.2; simp only at this; rw [hf] at this; cases this)
    rw [e]
    unfold givV
    refine Den.pureP Tryz.func154 rfl 4 [.cell 8 120, .tmp 9] (by kernel_rfl) rfl rfl (by simp only [initE_nil, initE_cons, Nat.reduceAdd]; exact rfl) ?_
    repeat' first | (with_reducible first | refine nx' ?_ (by simp -implicitDefEqProofs (disch := omega) only [go_sem, hk, fitX_eq, hf]; exact rfl) | refine n0 ?_ | refine Wp.drawR (by decide +kernel) ?_ | refine Wp.drawSR [2, 3, 4, 5, 6] [false, false, true, true, true, true, true] (.op 2 [0,1] (.op 3 [0] (.op 4 [] (.op 5 [] (.op 6 [] .done))))) (by decide +kernel) ?_ | refine Wp.drawSR [3, 4, 5, 6] [false, false, false, true, true, true, true] (.op 3 [0] (.op 4 [] (.op 5 [] (.op 6 [] .done)))) (by decide +kernel) ?_ | refine Wp.drawSR [2, 3, 4, 5] [false, false, true, true, true, true] (.op 2 [0] (.op 3 [] (.op 4 [] (.op 5 [] .done)))) (by decide +kernel) ?_ | refine Wp.drawSR [1, 2, 3, 4] [false, true, true, true, true] (.op 1 [0] (.op 2 [] (.op 3 [] (.op 4 [] .done)))) (by decide +kernel) ?_ | refine Wp.drawSR [10, 11] [false, false, false, false, false, false, false, false, false, false, true, true] (.op 10 [5,6,7,8,9] (.op 11 [] .done)) (by decide +kernel) ?_ | refine n1 ?_ | refine nilB_i fun b hb => ?_ | refine nP ?_ ?_ | refine nS fun K hK => ?_ | (refine n2 ?_ ?_ <;> intro h <;> first | subst (h : _ = true) | subst (h : _ = false) | (simp only [FX, LX, hk, fitX_eq, hf] at h) | skip) | refine And.intro ?_ ?_ | refine nK ‹Imp _ _› ?_) | exact nl | fail
    exact jV_e rfl (map_along ja3)
end
end Go.PL
