/- A plain machine, sound for the given model, and contracts of functions over it, part 34: XJ2. Nothing is assumed. -/
import Derived.Test.YtldgmfplnlnhcaaGreatXJ1
set_option linter.unusedSimpArgs false
set_option linter.unusedVariables false
set_option linter.unusedSectionVars false
/- XJ2 -/
namespace Go.PL
open Go Go.Proofs
set_option maxRecDepth 10000
set_option maxHeartbeats 4000000
set_option linter.unusedSimpArgs false
set_option linter.unusedVariables false
instance (f g : Rat) (al bl : List Rat) : Con CC 170 [jV f al, jV g bl] (al.length ≤ 4 ∧ bl.length = al.length ∧ Ln 300 f ∧ Ln 300 g ∧ LnV 300 al ∧ LnV 300 bl) (jV (f + g) (alongX al.length fun i => al.getD i 0 + bl.getD i 0)) := by
  constructor; intro ⟨hn, hbn, hf, hg, hal, hbl⟩
  refine Den.leR jP_le ?_
  have z8 : Ln 800 0 := Ln.zero.mono (by omega)
  have f8 := hf.mono (show 300 ≤ 800 by omega)
  have g8 := hg.mono (show 300 ≤ 800 by omega)
  refine Den.pureP Tryz.func170 rfl 2 [.cell 4 120] (by kernel_rfl) rfl rfl (by simp only [initE_nil, initE_cons, Nat.reduceAdd]; exact rfl) ?_
  repeat' first | (with_reducible first | refine nx' ?_ | refine n0 ?_ | refine Wp.drawR (by decide +kernel) ?_ | refine Wp.drawSR [8, 9, 10, 11, 12] [false, false, false, false, false, false, false, false, true, true, true, true, true] (.op 8 [0,1] (.op 9 [0,1] (.op 10 [] (.op 11 [] (.op 12 [] .done))))) (by decide +kernel) ?_ | refine Wp.drawSR [12, 13, 14, 15, 16] [false, false, false, false, false, false, false, false, false, false, false, false, true, true, true, true, true] (.op 12 [0,1] (.op 13 [0,1] (.op 14 [] (.op 15 [] (.op 16 [] .done))))) (by decide +kernel) ?_ | refine Wp.drawSR [11, 12] [false, false, false, false, false, false, false, false, false, false, false, true, true] (.op 11 [0,1,2,3,4,5,6,7,8,9,10] (.op 12 [] .done)) (by decide +kernel) ?_ | refine n1 ?_ | refine nilB_i fun b hb => ?_ | refine nP ?_ ?_ | refine nS fun K hK => ?_ | (refine n2 ?_ ?_ <;> intro h <;> first | subst (h : _ = true) | subst (h : _ = false) | skip) | refine And.intro ?_ ?_ | refine nK ‹Imp _ _› ?_) | exact nl | fail
  refine Wp.loopR (fun i : Nat => ⟨[(2, .ref 0 0 0), (3, .ref 1 0 0), (4, .ref 2 0 0), (5, .ref 3 0 0), (20, vV al), (21, .d (.i al.length)), (22, .d (.i i))],
    [.var [.d (.b (sgX f)), .d (encD (nuX f)), .d (encD (deX f)), vV al, .d .nil, .d (.b (sgX 0)), .d (encD (nuX 0)), .d (encD (deX 0))] false, .var [.d (.b (sgX g)), .d (encD (nuX g)), .d (encD (deX g)), vV bl, .d .nil, .d (.b (sgX 0)), .d (encD (nuX 0)), .d (encD (deX 0))] false,
      .var [.d (.b false), .d .nil, .d .nil, .d .nil, .d .nil, .d (.b false), .d .nil, .d .nil] false] ++ (match i with
      | 0 => [.var [.d (.b (sgX (f + g))), .d (encD (nuX (f + g))), .d (encD (deX (f + g))), .d .nil, .d .nil, .d (.b (sgX 0)), .d (encD (nuX 0)), .d (encD (deX 0))] false]
      | i + 1 => [.var [.d (.b (sgX (f + g))), .d (encD (nuX (f + g))), .d (encD (deX (f + g))), .msl 4 0 (i + 1), .d .nil, .d (.b (sgX 0)), .d (encD (nuX 0)), .d (encD (deX 0))] false, .arr 3 ((alongX (i + 1) fun i => al.getD i 0 + bl.getD i 0).map encX) false])⟩) (fun i => al.length - i) (fun i => i ≤ al.length) 0 Weak.lo (by simp) ?_
  rintro i hi K hK
  have e := range_snoc (n := i) (p := fun i => al.getD i 0 + bl.getD i 0)
  by_cases hia : i < al.length
  · have hib : i < bl.length := by omega
    have k1 := (hal.get hia).mono (show 300 ≤ 800 by omega)
    have k2 := (hbl.get (show i < bl.length by omega)).mono (show 300 ≤ 800 by omega)
    cases i with
    | zero =>
      simp only [List.cons_append, List.nil_append]
      repeat' first | (with_reducible first | refine nx' ?_ | refine n0 ?_ | refine Wp.drawR (by decide +kernel) ?_ | refine Wp.drawSR [8, 9, 10, 11, 12] [false, false, false, false, false, false, false, false, true, true, true, true, true] (.op 8 [0,1] (.op 9 [0,1] (.op 10 [] (.op 11 [] (.op 12 [] .done))))) (by decide +kernel) ?_ | refine Wp.drawSR [12, 13, 14, 15, 16] [false, false, false, false, false, false, false, false, false, false, false, false, true, true, true, true, true] (.op 12 [0,1] (.op 13 [0,1] (.op 14 [] (.op 15 [] (.op 16 [] .done))))) (by decide +kernel) ?_ | refine Wp.drawSR [11, 12] [false, false, false, false, false, false, false, false, false, false, false, true, true] (.op 11 [0,1,2,3,4,5,6,7,8,9,10] (.op 12 [] .done)) (by decide +kernel) ?_ | refine n1 ?_ | refine nilB_i fun b hb => ?_ | refine nP ?_ ?_ | refine nS fun K hK => ?_ | (refine n2 ?_ ?_ <;> intro h <;> first | subst (h : _ = true) | subst (h : _ = false) | skip) | refine And.intro ?_ ?_ | refine nK ‹Imp _ _› ?_) | exact nl | fail
      refine ⟨1, by omega, by omega, ?_⟩
      simp only [List.cons_append, List.nil_append]
      exact Weak.perm [0, 1, 2, 3, 6, 5, 4] rfl rfl Weak.cu
    | succ i =>
      simp only [List.cons_append, List.nil_append]
      repeat' first | (with_reducible first | refine nx' ?_ (by simp -implicitDefEqProofs (disch := omega) only [go_sem, alongX_len, e]; exact rfl) | refine n0 ?_ | refine Wp.drawR (by decide +kernel) ?_ | refine Wp.drawSR [8, 9, 10, 11, 12] [false, false, false, false, false, false, false, false, true, true, true, true, true] (.op 8 [0,1] (.op 9 [0,1] (.op 10 [] (.op 11 [] (.op 12 [] .done))))) (by decide +kernel) ?_ | refine Wp.drawSR [12, 13, 14, 15, 16] [false, false, false, false, false, false, false, false, false, false, false, false, true, true, true, true, true] (.op 12 [0,1] (.op 13 [0,1] (.op 14 [] (.op 15 [] (.op 16 [] .done))))) (by decide +kernel) ?_ | refine Wp.drawSR [11, 12] [false, false, false, false, false, false, false, false, false, false, false, true, true] (.op 11 [0,1,2,3,4,5,6,7,8,9,10] (.op 12 [] .done)) (by decide +kernel) ?_ | refine n1 ?_ | refine nilB_i fun b hb => ?_ | refine nP ?_ ?_ | refine nS fun K hK => ?_ | (refine n2 ?_ ?_ <;> intro h <;> first | subst (h : _ = true) | subst (h : _ = false) | (simp only [FX, LX, alongX_len, e] at h) | skip) | refine And.intro ?_ ?_ | refine nK ‹Imp _ _› ?_) | exact nl | fail
      refine ⟨i + 2, by omega, by omega, ?_⟩
      simp only [List.cons_append, List.nil_append]
      exact Weak.cu
  · cases i with
    | zero =>
      obtain rfl := List.eq_nil_of_length_eq_zero (show al.length = 0 by omega)
      simp only [List.cons_append, List.nil_append]
      repeat' first | (with_reducible first | refine nx' ?_ | refine n0 ?_ | refine Wp.drawR (by decide +kernel) ?_ | refine Wp.drawSR [8, 9, 10, 11, 12] [false, false, false, false, false, false, false, false, true, true, true, true, true] (.op 8 [0,1] (.op 9 [0,1] (.op 10 [] (.op 11 [] (.op 12 [] .done))))) (by decide +kernel) ?_ | refine Wp.drawSR [12, 13, 14, 15, 16] [false, false, false, false, false, false, false, false, false, false, false, false, true, true, true, true, true] (.op 12 [0,1] (.op 13 [0,1] (.op 14 [] (.op 15 [] (.op 16 [] .done))))) (by decide +kernel) ?_ | refine Wp.drawSR [11, 12] [false, false, false, false, false, false, false, false, false, false, false, true, true] (.op 11 [0,1,2,3,4,5,6,7,8,9,10] (.op 12 [] .done)) (by decide +kernel) ?_ | refine n1 ?_ | refine nilB_i fun b hb => ?_ | refine nP ?_ ?_ | refine nS fun K hK => ?_ | (refine n2 ?_ ?_ <;> intro h <;> first | subst (h : _ = true) | subst (h : _ = false) | skip) | refine And.intro ?_ ?_ | refine nK ‹Imp _ _› ?_) | exact nl | fail
      rfl
    | succ i =>
      simp only [List.cons_append, List.nil_append]
      repeat' first | (with_reducible first | refine nx' ?_ (by simp -implicitDefEqProofs (disch := omega) only [go_sem, alongX_len]; exact rfl) | refine n0 ?_ | refine Wp.drawR (by decide +kernel) ?_ | refine Wp.drawSR [8, 9, 10, 11, 12] [false, false, false, false, false, false, false, false, true, true, true, true, true] (.op 8 [0,1] (.op 9 [0,1] (.op 10 [] (.op 11 [] (.op 12 [] .done))))) (by decide +kernel) ?_ | refine Wp.drawSR [12, 13, 14, 15, 16] [false, false, false, false, false, false, false, false, false, false, false, false, true, true, true, true, true] (.op 12 [0,1] (.op 13 [0,1] (.op 14 [] (.op 15 [] (.op 16 [] .done))))) (by decide +kernel) ?_ | refine Wp.drawSR [11, 12] [false, false, false, false, false, false, false, false, false, false, false, true, true] (.op 11 [0,1,2,3,4,5,6,7,8,9,10] (.op 12 [] .done)) (by decide +kernel) ?_ | refine n1 ?_ | refine nilB_i fun b hb => ?_ | refine nP ?_ ?_ | refine nS fun K hK => ?_ | (refine n2 ?_ ?_ <;> intro h <;> first | subst (h : _ = true) | subst (h : _ = false) | (simp only [FX, LX, alongX_len] at h) | skip) | refine And.intro ?_ ?_ | refine nK ‹Imp _ _› ?_) | exact nl | fail
      rw [show al.length = i + 1 by omega, List.take_of_length_le (by simp)]
      unfold jP
      rw [if_neg (by simp)]
instance (f g : Rat) (al bl : List Rat) : Con CC 172 [jV f al, jV g bl] (al.length ≤ 4 ∧ bl.length = al.length ∧ Ln 300 f ∧ Ln 300 g ∧ LnV 300 al ∧ LnV 300 bl) (jV (f * g) (alongX al.length fun i => al.getD i 0 * g + f * bl.getD i 0)) := by
  constructor; intro ⟨hn, hbn, hf, hg, hal, hbl⟩
  refine Den.leR jP_le ?_
  have z8 : Ln 800 0 := Ln.zero.mono (by omega)
  have f8 := hf.mono (show 300 ≤ 800 by omega)
  have g8 := hg.mono (show 300 ≤ 800 by omega)
  refine Den.pureP Tryz.func172 rfl 2 [.cell 4 120] (by kernel_rfl) rfl rfl (by simp only [initE_nil, initE_cons, Nat.reduceAdd]; exact rfl) ?_
  repeat' first | (with_reducible first | refine nx' ?_ | refine n0 ?_ | refine Wp.drawR (by decide +kernel) ?_ | refine Wp.drawSR [6, 7, 15, 16, 17, 18, 19, 20] [false, false, false, false, false, false, true, true, false, false, false, false, false, false, false, true, true, true, true, true, true] (.op 6 [0,1,2,8,9,10,11,12,13,14] (.op 7 [0,1,8,9,10,11,12,13,14] (.op 15 [0,1] (.op 16 [0,1] (.op 17 [0,1] (.op 18 [] (.op 19 [] (.op 20 [] .done)))))))) (by decide +kernel) ?_ | refine Wp.drawSR [5, 9, 10, 11, 12, 13, 14] [false, false, false, false, false, true, false, false, false, true, true, true, true, true, true] (.op 5 [0,1,6,7,8] (.op 9 [0,1] (.op 10 [0,1] (.op 11 [0,1] (.op 12 [] (.op 13 [] (.op 14 [] .done))))))) (by decide +kernel) ?_ | refine Wp.drawSR [17, 18] [false, false, false, false, false, false, false, false, false, false, false, false, false, false, false, false, false, true, true] (.op 17 [0,1,2,3,4,5,6,7,8,9,10,11,12,13,14,15,16] (.op 18 [] .done)) (by decide +kernel) ?_ | refine Wp.drawSR [13, 14] [false, false, false, false, false, false, false, false, false, false, false, false, false, true, true] (.op 13 [0,1,2,3,4,5,6,7,8,9,10,11,12] (.op 14 [] .done)) (by decide +kernel) ?_ | refine n1 ?_ | refine nilB_i fun b hb => ?_ | refine nP ?_ ?_ | refine nS fun K hK => ?_ | (refine n2 ?_ ?_ <;> intro h <;> first | subst (h : _ = true) | subst (h : _ = false) | skip) | refine And.intro ?_ ?_ | refine nK ‹Imp _ _› ?_) | exact nl | fail
  refine Wp.loopR (fun i : Nat => ⟨[(2, .ref 0 0 0), (3, .ref 1 0 0), (4, .ref 2 0 0), (5, .ref 3 0 0), (28, vV al), (29, .d (.i al.length)), (30, .d (.i i))],
    [.var [.d (.b (sgX f)), .d (encD (nuX f)), .d (encD (deX f)), vV al, .d .nil, .d (.b (sgX 0)), .d (encD (nuX 0)), .d (encD (deX 0))] false, .var [.d (.b (sgX g)), .d (encD (nuX g)), .d (encD (deX g)), vV bl, .d .nil, .d (.b (sgX 0)), .d (encD (nuX 0)), .d (encD (deX 0))] false,
      .var [.d (.b false), .d .nil, .d .nil, .d .nil, .d .nil, .d (.b false), .d .nil, .d .nil] false] ++ (match i with
      | 0 => [.var [.d (.b (sgX (f * g))), .d (encD (nuX (f * g))), .d (encD (deX (f * g))), .d .nil, .d .nil, .d (.b (sgX 0)), .d (encD (nuX 0)), .d (encD (deX 0))] false]
      | i + 1 => [.var [.d (.b (sgX (f * g))), .d (encD (nuX (f * g))), .d (encD (deX (f * g))), .msl 4 0 (i + 1), .d .nil, .d (.b (sgX 0)), .d (encD (nuX 0)), .d (encD (deX 0))] false, .arr 3 ((alongX (i + 1) fun i => al.getD i 0 * g + f * bl.getD i 0).map encX) false])⟩) (fun i => al.length - i) (fun i => i ≤ al.length) 0 Weak.lo (by simp) ?_
  rintro i hi K hK
  have e := range_snoc (n := i) (p := fun i => al.getD i 0 * g + f * bl.getD i 0)
  by_cases hia : i < al.length
  · have hib : i < bl.length := by omega
    have k1 := (hal.get hia).mono (show 300 ≤ 800 by omega)
    have k2 := (hbl.get (show i < bl.length by omega)).mono (show 300 ≤ 800 by omega)
    have k3 := ((hal.get hia).mul hg).mono (show 300 + 300 ≤ 800 by omega)
    have k4 := (hf.mul (hbl.get (show i < bl.length by omega))).mono (show 300 + 300 ≤ 800 by omega)
    cases i with
    | zero =>
      simp only [List.cons_append, List.nil_append]
      repeat' first | (with_reducible first | refine nx' ?_ | refine n0 ?_ | refine Wp.drawR (by decide +kernel) ?_ | refine Wp.drawSR [6, 7, 15, 16, 17, 18, 19, 20] [false, false, false, false, false, false, true, true, false, false, false, false, false, false, false, true, true, true, true, true, true] (.op 6 [0,1,2,8,9,10,11,12,13,14] (.op 7 [0,1,8,9,10,11,12,13,14] (.op 15 [0,1] (.op 16 [0,1] (.op 17 [0,1] (.op 18 [] (.op 19 [] (.op 20 [] .done)))))))) (by decide +kernel) ?_ | refine Wp.drawSR [5, 9, 10, 11, 12, 13, 14] [false, false, false, false, false, true, false, false, false, true, true, true, true, true, true] (.op 5 [0,1,6,7,8] (.op 9 [0,1] (.op 10 [0,1] (.op 11 [0,1] (.op 12 [] (.op 13 [] (.op 14 [] .done))))))) (by decide +kernel) ?_ | refine Wp.drawSR [17, 18] [false, false, false, false, false, false, false, false, false, false, false, false, false, false, false, false, false, true, true] (.op 17 [0,1,2,3,4,5,6,7,8,9,10,11,12,13,14,15,16] (.op 18 [] .done)) (by decide +kernel) ?_ | refine Wp.drawSR [13, 14] [false, false, false, false, false, false, false, false, false, false, false, false, false, true, true] (.op 13 [0,1,2,3,4,5,6,7,8,9,10,11,12] (.op 14 [] .done)) (by decide +kernel) ?_ | refine n1 ?_ | refine nilB_i fun b hb => ?_ | refine nP ?_ ?_ | refine nS fun K hK => ?_ | (refine n2 ?_ ?_ <;> intro h <;> first | subst (h : _ = true) | subst (h : _ = false) | skip) | refine And.intro ?_ ?_ | refine nK ‹Imp _ _› ?_) | exact nl | fail
      refine ⟨1, by omega, by omega, ?_⟩
      simp only [List.cons_append, List.nil_append]
      exact Weak.perm [0, 1, 2, 3, 7, 5, 6, 4] rfl rfl Weak.cu
    | succ i =>
      simp only [List.cons_append, List.nil_append]
      repeat' first | (with_reducible first | refine nx' ?_ (by simp -implicitDefEqProofs (disch := omega) only [go_sem, alongX_len, e]; exact rfl) | refine n0 ?_ | refine Wp.drawR (by decide +kernel) ?_ | refine Wp.drawSR [6, 7, 15, 16, 17, 18, 19, 20] [false, false, false, false, false, false, true, true, false, false, false, false, false, false, false, true, true, true, true, true, true] (.op 6 [0,1,2,8,9,10,11,12,13,14] (.op 7 [0,1,8,9,10,11,12,13,14] (.op 15 [0,1] (.op 16 [0,1] (.op 17 [0,1] (.op 18 [] (.op 19 [] (.op 20 [] .done)))))))) (by decide +kernel) ?_ | refine Wp.drawSR [5, 9, 10, 11, 12, 13, 14] [false, false, false, false, false, true, false, false, false, true, true, true, true, true, true] (.op 5 [0,1,6,7,8] (.op 9 [0,1] (.op 10 [0,1] (.op 11 [0,1] (.op 12 [] (.op 13 [] (.op 14 [] .done))))))) (by decide +kernel) ?_ | refine Wp.drawSR [17, 18] [false, false, false, false, false, false, false, false, false, false, false, false, false, false, false, false, false, true, true] (.op 17 [0,1,2,3,4,5,6,7,8,9,10,11,12,13,14,15,16] (.op 18 [] .done)) (by decide +kernel) ?_ | refine Wp.drawSR [13, 14] [false, false, false, false, false, false, false, false, false, false, false, false, false, true, true] (.op 13 [0,1,2,3,4,5,6,7,8,9,10,11,12] (.op 14 [] .done)) (by decide +kernel) ?_ | refine n1 ?_ | refine nilB_i fun b hb => ?_ | refine nP ?_ ?_ | refine nS fun K hK => ?_ | (refine n2 ?_ ?_ <;> intro h <;> first | subst (h : _ = true) | subst (h : _ = false) | (simp only [FX, LX, alongX_len, e] at h) | skip) | refine And.intro ?_ ?_ | refine nK ‹Imp _ _› ?_) | exact nl | fail
      refine ⟨i + 2, by omega, by omega, ?_⟩
      simp only [List.cons_append, List.nil_append]
      exact Weak.cu
  · cases i with
    | zero =>
      obtain rfl := List.eq_nil_of_length_eq_zero (show al.length = 0 by omega)
      simp only [List.cons_append, List.nil_append]
      repeat' first | (with_reducible first | refine nx' ?_ | refine n0 ?_ | refine Wp.drawR (by decide +kernel) ?_ | refine Wp.drawSR [6, 7, 15, 16, 17, 18, 19, 20] [false, false, false, false, false, false, true, true, false, false, false, false, false, false, false, true, true, true, true, true, true] (.op 6 [0,1,2,8,9,10,11,12,13,14] (.op 7 [0,1,8,9,10,11,12,13,14] (.op 15 [0,1] (.op 16 [0,1] (.op 17 [0,1] (.op 18 [] (.op 19 [] (.op 20 [] .done)))))))) (by decide +kernel) ?_ | refine Wp.drawSR [5, 9, 10, 11, 12, 13, 14] [false, false, false, false, false, true, false, false, false, true, true, true, true, true, true] (.op 5 [0,1,6,7,8] (.op 9 [0,1] (.op 10 [0,1] (.op 11 [0,1] (.op 12 [] (.op 13 [] (.op 14 [] .done))))))) (by decide +kernel) ?_ | refine Wp.drawSR [17, 18] [false, false, false, false, false, false, false, false, false, false, false, false, false, false, false, false, false, true, true] (.op 17 [0,1,2,3,4,5,6,7,8,9,10,11,12,13,14,15,16] (.op 18 [] .done)) (by decide +kernel) ?_ | refine Wp.drawSR [13, 14] [false, false, false, false, false, false, false, false, false, false, false, false, false, true, true] (.op 13 [0,1,2,3,4,5,6,7,8,9,10,11,12] (.op 14 [] .done)) (by decide +kernel) ?_ | refine n1 ?_ | refine nilB_i fun b hb => ?_ | refine nP ?_ ?_ | refine nS fun K hK => ?_ | (refine n2 ?_ ?_ <;> intro h <;> first | subst (h : _ = true) | subst (h : _ = false) | skip) | refine And.intro ?_ ?_ | refine nK ‹Imp _ _› ?_) | exact nl | fail
      rfl
    | succ i =>
      simp only [List.cons_append, List.nil_append]
      repeat' first | (with_reducible first | refine nx' ?_ (by simp -implicitDefEqProofs (disch := omega) only [go_sem, alongX_len]; exact rfl) | refine n0 ?_ | refine Wp.drawR (by decide +kernel) ?_ | refine Wp.drawSR [6, 7, 15, 16, 17, 18, 19, 20] [false, false, false, false, false, false, true, true, false, false, false, false, false, false, false, true, true, true, true, true, true] (.op 6 [0,1,2,8,9,10,11,12,13,14] (.op 7 [0,1,8,9,10,11,12,13,14] (.op 15 [0,1] (.op 16 [0,1] (.op 17 [0,1] (.op 18 [] (.op 19 [] (.op 20 [] .done)))))))) (by decide +kernel) ?_ | refine Wp.drawSR [5, 9, 10, 11, 12, 13, 14] [false, false, false, false, false, true, false, false, false, true, true, true, true, true, true] (.op 5 [0,1,6,7,8] (.op 9 [0,1] (.op 10 [0,1] (.op 11 [0,1] (.op 12 [] (.op 13 [] (.op 14 [] .done))))))) (by decide +kernel) ?_ | refine Wp.drawSR [17, 18] [false, false, false, false, false, false, false, false, false, false, false, false, false, false, false, false, false, true, true] (.op 17 [0,1,2,3,4,5,6,7,8,9,10,11,12,13,14,15,16] (.op 18 [] .done)) (by decide +kernel) ?_ | refine Wp.drawSR [13, 14] [false, false, false, false, false, false, false, false, false, false, false, false, false, true, true] (.op 13 [0,1,2,3,4,5,6,7,8,9,10,11,12] (.op 14 [] .done)) (by decide +kernel) ?_ | refine n1 ?_ | refine nilB_i fun b hb => ?_ | refine nP ?_ ?_ | refine nS fun K hK => ?_ | (refine n2 ?_ ?_ <;> intro h <;> first | subst (h : _ = true) | subst (h : _ = false) | (simp only [FX, LX, alongX_len] at h) | skip) | refine And.intro ?_ ?_ | refine nK ‹Imp _ _› ?_) | exact nl | fail
      rw [show al.length = i + 1 by omega, List.take_of_length_le (by simp)]
      unfold jP
      rw [if_neg (by simp)]
instance (x k : Rat) : Con CC 184 [xV x, .d (.ptr [.b (sgX k), encD (nuX k), encD (deX k)])] (Ln 800 x ∧ Ln 800 k) (xV (x * k)) := by
  constructor; intro ⟨h1, h2⟩
  refine Den.pureI Tryz.func184 rfl 2 [.cell 3 42] (by kernel_rfl) rfl rfl (by simp only [initE_nil, initE_cons, Nat.reduceAdd]; exact rfl) ?_
  repeat' first | (with_reducible first | refine nx' ?_ | refine n0 ?_ | refine rD ?_ | refine n1 ?_ | refine nilB_i fun b hb => ?_ | refine nP ?_ ?_ | refine nS fun K hK => ?_ | (refine n2 ?_ ?_ <;> intro h <;> first | subst (h : _ = true) | subst (h : _ = false) | skip) | refine And.intro ?_ ?_ | refine nK ‹Imp _ _› ?_) | exact nl | fail
instance (f k : Rat) (al : List Rat) : Con CC 171 [jV f al, xV k] (al.length ≤ 4 ∧ Ln 300 f ∧ Ln 300 k ∧ LnV 300 al) (jV (f * k) (al.map fun x => x * k)) := by
  constructor; intro ⟨hn, hf, hk, hal⟩
  have z8 : Ln 800 0 := Ln.zero.mono (by omega)
  have f8 := hf.mono (show 300 ≤ 800 by omega)
  have k8 := hk.mono (show 300 ≤ 800 by omega)
  have hm := mapped_c 184 [.ptr [.b (sgX k), encD (nuX k), encD (deX k)]] 185 [.ptr [.b (sgX f), encD (nuX f), encD (deX f), .sl (al.map encX), .nil, .b (sgX 0), encD (nuX 0), encD (deX 0)], .ptr [.b (sgX k), encD (nuX k), encD (deX k)]] f (f * k) al (fun x => x * k) hn
    (fun x hx => Con.ok (C := CC) (vs := [xV x, .d (.ptr [.b (sgX k), encD (nuX k), encD (deX k)])]) ⟨(hal x hx).mono (by omega), k8⟩)
  refine Den.leR (r := jV (f * k) (al.map fun x => x * k)) (.refl _) ?_
  refine Den.pureP Tryz.func171 rfl 2 [.cell 4 120] (by kernel_rfl) rfl rfl (by simp only [initE_nil, initE_cons, Nat.reduceAdd]; exact rfl) ?_
  repeat' first | (with_reducible first | refine nx' ?_ | refine n0 ?_ | refine Wp.drawR (by decide +kernel) ?_ | refine Wp.drawSR [4, 8, 11, 12] [false, false, false, false, true, false, false, false, true, false, false, true, true] (.op 4 [0,5,6,7,9,10] (.op 8 [0,9,10] (.op 11 [] (.op 12 [] .done)))) (by decide +kernel) ?_ | refine n1 ?_ | refine nilB_i fun b hb => ?_ | refine nPc (hm) ?_ | refine nP ?_ ?_ | refine nS fun K hK => ?_ | (refine n2 ?_ ?_ <;> intro h <;> first | subst (h : _ = true) | subst (h : _ = false) | skip) | refine And.intro ?_ ?_ | refine nK ‹Imp _ _› ?_) | exact nl | fail
instance (x d : Rat) : Con CC 190 [xV x, .d (.ptr [.b (sgX d), encD (nuX d), encD (deX d)])] (Ln 800 x ∧ Ln 800 d) (xV (d * x)) := by
  constructor; intro ⟨h1, h2⟩
  refine Den.pureI Tryz.func190 rfl 2 [.cell 3 42] (by kernel_rfl) rfl rfl (by simp only [initE_nil, initE_cons, Nat.reduceAdd]; exact rfl) ?_
  repeat' first | (with_reducible first | refine nx' ?_ | refine n0 ?_ | refine rD ?_ | refine n1 ?_ | refine nilB_i fun b hb => ?_ | refine nP ?_ ?_ | refine nS fun K hK => ?_ | (refine n2 ?_ ?_ <;> intro h <;> first | subst (h : _ = true) | subst (h : _ = false) | skip) | refine And.intro ?_ ?_ | refine nK ‹Imp _ _› ?_) | exact nl | fail
instance (f0 f d dd : Rat) (al : List Rat) : Con CC 187 [jV f0 al, xV f, xV d, xV dd] (al.length ≤ 4 ∧ Ln 300 d ∧ LnV 300 al) (jV f (al.map fun x => d * x)) := by
  constructor; intro ⟨hn, hd, hal⟩
  have z8 : Ln 800 0 := Ln.zero.mono (by omega)
  have d8 := hd.mono (show 300 ≤ 800 by omega)
  have hm := mapped_c 190 [.ptr [.b (sgX d), encD (nuX d), encD (deX d)]] 191 [.ptr [.b (sgX dd), encD (nuX dd), encD (deX dd)], .ptr [.b (sgX f0), encD (nuX f0), encD (deX f0), .sl (al.map encX), .nil, .b (sgX 0), encD (nuX 0), encD (deX 0)], .ptr [.b (sgX d), encD (nuX d), encD (deX d)]] f0 f al (fun x => d * x) hn
    (fun x hx => Con.ok (C := CC) (vs := [xV x, .d (.ptr [.b (sgX d), encD (nuX d), encD (deX d)])]) ⟨(hal x hx).mono (by omega), d8⟩)
  refine Den.pureP Tryz.func187 rfl 4 [.cell 8 120] (by kernel_rfl) rfl rfl (by simp only [initE_nil, initE_cons, Nat.reduceAdd]; exact rfl) ?_
  repeat' first | (with_reducible first | refine nx' ?_ | refine n0 ?_ | refine Wp.drawR (by decide +kernel) ?_ | refine Wp.drawSR [5, 8, 9] [false, false, false, false, false, true, false, false, true, true] (.op 5 [0,1,6,7] (.op 8 [] (.op 9 [] .done))) (by decide +kernel) ?_ | refine n1 ?_ | refine nilB_i fun b hb => ?_ | refine nPc (hm) ?_ | refine nP ?_ ?_ | refine nS fun K hK => ?_ | (refine n2 ?_ ?_ <;> intro h <;> first | subst (h : _ = true) | subst (h : _ = false) | skip) | refine And.intro ?_ ?_ | refine nK ‹Imp _ _› ?_) | exact nl | fail
end Go.PL
