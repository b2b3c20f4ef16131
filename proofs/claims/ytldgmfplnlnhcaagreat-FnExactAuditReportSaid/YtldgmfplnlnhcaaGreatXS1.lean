/- A plain machine, sound for the given model, and contracts of functions over it, part 31: XS1. Nothing is assumed. -/
import Derived.Test.YtldgmfplnlnhcaaGreatXV
import Derived.Test.YtldgmfplnlnhcaaGreatEA
import Derived.Test.YtldgmfplnlnhcaaGreatJL
set_option linter.unusedSimpArgs false
set_option linter.unusedVariables false
set_option linter.unusedSectionVars false
/- XS1 -/
namespace Go.PL
open Go Go.Proofs
set_option maxRecDepth 10000
set_option maxHeartbeats 4000000
set_option linter.unusedSimpArgs false
set_option linter.unusedVariables false
/-- The reference's jet along one way. -/
abbrev sD (f v : Rat) : D := .agg [.b (sgX f), encD (nuX f), encD (deX f), .b (sgX v), encD (nuX v), encD (deX v), .b (sgX 0), encD (nuX 0), encD (deX 0), .b (sgX 0), encD (nuX 0), encD (deX 0)]
abbrev sV (f v : Rat) : V := .d (sD f v)
def encS (j : Rat × Rat) : D := sD j.1 j.2
theorem encS_eq {j : Rat × Rat} : encS j = .agg [.b (sgX j.1), encD (nuX j.1), encD (deX j.1), .b (sgX j.2), encD (nuX j.2), encD (deX j.2), .b (sgX 0), encD (nuX 0), encD (deX 0), .b (sgX 0), encD (nuX 0), encD (deX 0)] := rfl
instance : Enc encS 12 (0, 0) := ⟨fun _ => rfl, fun x => by simp [encS_eq, D.cells, D.one]⟩
theorem app_S {l : List (Rat × Rat)} {f v : Rat} : l.map encS ++ [D.agg [.val (.bool (sgX f)), .sl ((nuX f).map .i), .sl ((deX f).map .i), .val (.bool (sgX v)), .sl ((nuX v).map .i), .sl ((deX v).map .i), .val (.bool (sgX 0)), .sl ((nuX 0).map .i), .sl ((deX 0).map .i), .val (.bool (sgX 0)), .sl ((nuX 0).map .i), .sl ((deX 0).map .i)]] = (l ++ [(f, v)]).map encS := by simp [encS_eq]
theorem sneg0 : -(0 : Rat) = 0 := rfl
theorem ssub0 : (0 : Rat) - 0 = 0 := Rat.sub_self
attribute [go_sem] encS_eq app_S Rat.zero_mul Rat.mul_zero Rat.add_zero Rat.zero_add sneg0 ssub0
theorem z8 : Ln 800 0 := Ln.zero.mono (by omega)
instance (f : Rat) : Con CC 100 [xV f] True (sV f 0) := by
  constructor; intro _
  refine Den.pureI Tryz.func100 rfl 1 [.cell 2 105] (by kernel_rfl) rfl rfl (by simp only [initE_nil, initE_cons, Nat.reduceAdd]; exact rfl) ?_
  repeat' first | (with_reducible first | refine nx' ?_ | refine n0 ?_ | refine Wp.drawR (by decide +kernel) ?_ | refine Wp.drawSR [1, 2, 3, 4, 5] [false, true, true, true, true, true] (.op 1 [0] (.op 2 [0] (.op 3 [0] (.op 4 [] (.op 5 [] .done))))) (by decide +kernel) ?_ | refine n1 ?_ | refine nilB_i fun b hb => ?_ | refine nP ?_ ?_ | refine nS fun K hK => ?_ | (refine n2 ?_ ?_ <;> intro h <;> first | subst (h : _ = true) | subst (h : _ = false) | skip) | refine And.intro ?_ ?_ | refine nK ‹Imp _ _› ?_) | exact nl | fail
instance (f v g w : Rat) : Con CC 101 [sV f v, sV g w] (Ln 800 f ∧ Ln 800 v ∧ Ln 800 g ∧ Ln 800 w) (sV (f + g) (v + w)) := by
  constructor; intro ⟨h1, h2, h3, h4⟩
  have z := z8
  refine Den.pureI Tryz.func101 rfl 2 [.cell 4 105] (by kernel_rfl) rfl rfl (by simp only [initE_nil, initE_cons, Nat.reduceAdd]; exact rfl) ?_
  repeat' first | (with_reducible first | refine nx' ?_ | refine n0 ?_ | refine Wp.drawR (by decide +kernel) ?_ | refine Wp.drawSR [4, 9, 14, 19, 20, 21] [false, false, false, false, true, false, false, false, false, true, false, false, false, false, true, false, false, false, false, true, true, true] (.op 4 [5,6,7,8,10,11,12,13,15,16,17,18] (.op 9 [10,11,12,13,15,16,17,18] (.op 14 [15,16,17,18] (.op 19 [] (.op 20 [] (.op 21 [] .done)))))) (by decide +kernel) ?_ | refine n1 ?_ | refine nilB_i fun b hb => ?_ | refine nP ?_ ?_ | refine nS fun K hK => ?_ | (refine n2 ?_ ?_ <;> intro h <;> first | subst (h : _ = true) | subst (h : _ = false) | skip) | refine And.intro ?_ ?_ | refine nK ‹Imp _ _› ?_) | exact nl | fail
instance (f v : Rat) : Con CC 102 [sV f v] (Ln 800 f ∧ Ln 800 v) (sV (-f) (-v)) := by
  constructor; intro ⟨h1, h2⟩
  have z := z8
  refine Den.pureI Tryz.func102 rfl 1 [.cell 2 105] (by kernel_rfl) rfl rfl (by simp only [initE_nil, initE_cons, Nat.reduceAdd]; exact rfl) ?_
  repeat' first | (with_reducible first | refine nx' ?_ | refine n0 ?_ | refine Wp.drawR (by decide +kernel) ?_ | refine Wp.drawSR [2, 5, 8, 11, 12, 13] [false, false, true, false, false, true, false, false, true, false, false, true, true, true] (.op 2 [3,4,6,7,9,10] (.op 5 [6,7,9,10] (.op 8 [9,10] (.op 11 [] (.op 12 [] (.op 13 [] .done)))))) (by decide +kernel) ?_ | refine n1 ?_ | refine nilB_i fun b hb => ?_ | refine nP ?_ ?_ | refine nS fun K hK => ?_ | (refine n2 ?_ ?_ <;> intro h <;> first | subst (h : _ = true) | subst (h : _ = false) | skip) | refine And.intro ?_ ?_ | refine nK ‹Imp _ _› ?_) | exact nl | fail
instance (f v g w : Rat) : Con CC 103 [sV f v, sV g w] (Ln 400 f ∧ Ln 400 v ∧ Ln 400 g ∧ Ln 400 w) (sV (f * g) (v * g + f * w)) := by
  constructor; intro ⟨h1, h2, h3, h4⟩
  have z := z8
  have k1 := (h2.mul h3).mono (show 400 + 400 ≤ 800 by omega)
  have k2 := (h1.mul h4).mono (show 400 + 400 ≤ 800 by omega)
  have h1 := h1.mono (show 400 ≤ 800 by omega)
  have h2 := h2.mono (show 400 ≤ 800 by omega)
  have h3 := h3.mono (show 400 ≤ 800 by omega)
  have h4 := h4.mono (show 400 ≤ 800 by omega)
  refine Den.pureI Tryz.func103 rfl 2 [.cell 4 105] (by kernel_rfl) rfl rfl (by simp only [initE_nil, initE_cons, Nat.reduceAdd]; exact rfl) ?_
  repeat' first | (with_reducible first | refine nx' ?_ (by simp -implicitDefEqProofs (maxSteps := 2000000) (disch := omega) only [go_sem]; exact rfl) | refine n0 ?_ | refine Wp.drawR (by decide +kernel) ?_ | refine Wp.drawSR [4, 9, 14, 15, 20, 25, 26, 31, 36, 37, 42, 47, 48, 49, 50, 51] (false :: false :: false :: false :: true :: false :: false :: false :: false :: true :: false :: false :: false :: false :: true :: true :: false :: false :: false :: false :: true :: false :: false :: false :: false :: true :: true :: false :: false :: false :: false :: true :: false :: false :: false :: false :: true :: true :: false :: false :: false :: false :: true :: false :: false :: false :: false :: true :: true :: true :: true :: true :: []) (.op 4 [5,6,7,8,10,11,12,13,16,17,18,19,21,22,23,24,27,28,29,30,32,33,34,35,38,39,40,41,43,44,45,46] (.op 9 [10,11,12,13,16,17,18,19,21,22,23,24,27,28,29,30,32,33,34,35,38,39,40,41,43,44,45,46] (.op 14 [16,17,18,19,21,22,23,24,27,28,29,30,32,33,34,35,38,39,40,41,43,44,45,46] (.op 15 [16,17,18,19,21,22,23,24,27,28,29,30,32,33,34,35,38,39,40,41,43,44,45,46] (.op 20 [21,22,23,24,27,28,29,30,32,33,34,35,38,39,40,41,43,44,45,46] (.op 25 [27,28,29,30,32,33,34,35,38,39,40,41,43,44,45,46] (.op 26 [27,28,29,30,32,33,34,35,38,39,40,41,43,44,45,46] (.op 31 [32,33,34,35,38,39,40,41,43,44,45,46] (.op 36 [38,39,40,41,43,44,45,46] (.op 37 [38,39,40,41,43,44,45,46] (.op 42 [43,44,45,46] (.op 47 [] (.op 48 [] (.op 49 [] (.op 50 [] (.op 51 [] .done)))))))))))))))) (by decide +kernel) ?_ | refine n1 ?_ | refine nilB_i fun b hb => ?_ | refine nP ?_ ?_ | refine nS fun K hK => ?_ | (refine n2 ?_ ?_ <;> intro h <;> first | subst (h : _ = true) | subst (h : _ = false) | skip) | refine And.intro ?_ ?_ | refine nK ‹Imp _ _› ?_) | exact nl | fail
theorem Ln.one : Ln 1 1 := ⟨by show (digs 1).length ≤ _; rw [digs_one]; simp, by show (digs 1).length ≤ _; rw [digs_one]; simp⟩
theorem Ln.two : Ln 1 ((2 : Int) : Rat) := ⟨by show (digs 2).length ≤ _; exact digs_len_le (by omega), by show (digs 1).length ≤ _; rw [digs_one]; simp⟩
instance (f v : Rat) : Con CC 104 [sV f v] (f ≠ 0 ∧ Ln 40 f ∧ Ln 40 v) (sV (1 / f) (-(v * (1 / f * (1 / f))))) := by
  constructor; intro ⟨h0, h1, h2⟩
  have z := z8
  have l0 := Ln.one.mono (show 1 ≤ 800 by omega)
  have l1 := Ln.one.div h1 h0
  have l2 := l1.mul l1
  have l3 := l2.mul l1
  have l4 := h2.mul l2
  have l5 := Ln.two.mono (show 1 ≤ 800 by omega)
  have l6 := (Ln.two.mul l3).mono (show 1 + (1 + 40 + (1 + 40) + (1 + 40)) ≤ 800 by omega)
  have l1 := l1.mono (show 1 + 40 ≤ 800 by omega)
  have l2 := l2.mono (show 1 + 40 + (1 + 40) ≤ 800 by omega)
  have l3 := l3.mono (show 1 + 40 + (1 + 40) + (1 + 40) ≤ 800 by omega)
  have l4 := l4.mono (show 40 + (1 + 40 + (1 + 40)) ≤ 800 by omega)
  have h1 := h1.mono (show 40 ≤ 800 by omega)
  have h2 := h2.mono (show 40 ≤ 800 by omega)
  refine Den.pureI Tryz.func104 rfl 1 [.cell 2 105] (by kernel_rfl) rfl rfl (by simp only [initE_nil, initE_cons, Nat.reduceAdd]; exact rfl) ?_
  repeat' first | (with_reducible first | refine nx' ?_ | refine n0 ?_ | refine Wp.drawR (by decide +kernel) ?_ | refine Wp.drawSR [4, 5, 9, 10, 16, 17, 21, 22, 23, 24] [false, false, false, false, true, true, false, false, false, true, true, false, false, false, false, false, true, true, false, false, false, true, true, true, true] (.op 4 [0,6,7,8,11,12,13,14,15,18,19,20] (.op 5 [0,6,7,8,11,12,13,14,15,18,19,20] (.op 9 [0,11,12,13,14,15,18,19,20] (.op 10 [0,11,12,13,14,15,18,19,20] (.op 16 [0,11,18,19,20] (.op 17 [0,18,19,20] (.op 21 [0] (.op 22 [0] (.op 23 [] (.op 24 [] .done)))))))))) (by decide +kernel) ?_ | refine Wp.drawSR [4, 5] [false, false, false, false, true, true] (.op 4 [0,1,2,3] (.op 5 [] .done)) (by decide +kernel) ?_ | refine Wp.drawSR [5, 6] [false, false, false, false, false, true, true] (.op 5 [0,1,2,3,4] (.op 6 [] .done)) (by decide +kernel) ?_ | refine n1 ?_ | refine nilB_i fun b hb => ?_ | refine nP ?_ ?_ | refine nS fun K hK => ?_ | (refine n2 ?_ ?_ <;> intro h <;> first | subst (h : _ = true) | subst (h : _ = false) | skip) | refine And.intro ?_ ?_ | refine nK ‹Imp _ _› ?_) | exact nl | fail
theorem fitS_eq {x : Rat} : (decide ((nuX x).length ≤ 40) && decide ((deX x).length ≤ 40)) = fitX x := rfl
theorem fitS_zero : fitX 0 = true := by
  have h : Ln 40 0 := Ln.zero.mono (by omega)
  unfold fitX
  rw [Bool.and_eq_true, decide_eq_true_eq, decide_eq_true_eq]
  exact h
theorem z1n : (nuX 0).length ≤ 1048576 := Nat.le_trans z8.nu (by omega)
theorem z1d : (deX 0).length ≤ 1048576 := Nat.le_trans z8.de (by omega)
instance (f v : Rat) : Con CC 105 [sV f v] (Ln 1600 f ∧ Ln 1600 v) (.d (.b (fitX f && fitX v))) := by
  constructor; intro ⟨h1, h2⟩
  have f1 := Nat.le_trans h1.nu (show 1600 ≤ 1048576 by omega)
  have f2 := Nat.le_trans h1.de (show 1600 ≤ 1048576 by omega)
  have v1 := Nat.le_trans h2.nu (show 1600 ≤ 1048576 by omega)
  have v2 := Nat.le_trans h2.de (show 1600 ≤ 1048576 by omega)
  have w1 := z1n
  have w2 := z1d
  cases hf : fitX f <;> cases hv : fitX v
  all_goals
    refine Den.pureI Tryz.func105 rfl 1 [.tmp 2] (by kernel_rfl) rfl rfl (by simp only [initE_nil, initE_cons, Nat.reduceAdd]; exact rfl) ?_
    repeat' first | (with_reducible first | refine nx' ?_ (by simp -implicitDefEqProofs (disch := omega) only [go_sem, fitS_eq, fitS_zero, hf, hv]; exact rfl) | refine n0 ?_ | refine rD ?_ | refine n1 ?_ | refine nilB_i fun b hb => ?_ | refine nP ?_ ?_ | refine nS fun K hK => ?_ | (refine n2 ?_ ?_ <;> intro h <;> first | subst (h : _ = true) | subst (h : _ = false) | (simp only [FX, LX, fitS_eq, fitS_zero, hf, hv] at h) | skip) | refine And.intro ?_ ?_ | refine nK ‹Imp _ _› ?_) | exact nl | fail
end Go.PL
