/- A plain machine, sound for the given model, and contracts of functions over it, part 50: XG4. Nothing is assumed. -/
import Derived.Test.YtldgmfplnlnhcaaGreatG37
import Derived.Test.YtldgmfplnlnhcaaGreatXG3
import Derived.Test.YtldgmfplnlnhcaaGreatPBc2
set_option linter.unusedSimpArgs false
set_option linter.unusedVariables false
set_option linter.unusedSectionVars false
/- XG4 -/
namespace Go.PL
open Go Go.Proofs
set_option maxRecDepth 10000
set_option maxHeartbeats 4000000
set_option linter.unusedSimpArgs false
set_option linter.unusedVariables false
/-- What the last point and the problem have to be. -/
structure ClP (f : List Nd) (l u : List Rat) (e : Rat) (x : List Rat) : Prop where
  of : okE f = true
  oe : Ln 40 e
  ob : boxV x.length l u
  ox : okVec (x.map rtR) = true
  oL : LnV 40 x
  od : dimN f ≤ x.length
def claimV (f : List Nd) (l u : List Rat) (e : Rat) (it st : Int) (recs : List Rc) (x : List Rat) : Bool :=
  if st ≠ 1 ∧ st ≠ 2 then true else if recs.length = 0 then false else claimB f l u e it st (recs.getD (recs.length - 1) rc0).iter x
section
variable {f : List Nd} {s l u : List Rat} {so : Int} {e : Rat} {it ba st : Int} {recs : List Rc} {x : List Rat}
theorem claimI_c (h : 0 < recs.length → (recs.getD (recs.length - 1) rc0).x = x.map rtR ∧ ClP f l u e x) (hn : recs.length ≤ 7) :
    CC 26 [.d (.agg [.i st, .sl (recs.map encRc)]), .d (pxD f s l u so e it ba)] [] (.d (.b (claimV f l u e it st recs x))) [] := by
  by_cases h0 : recs.length = 0
  · obtain rfl := List.eq_nil_of_length_eq_zero h0
    unfold claimV
    refine Den.pureI Tryz.func26 rfl 2 [.tmp 4] (by kernel_rfl) rfl rfl (by simp only [initE_nil, initE_cons, Nat.reduceAdd]; exact rfl) ?_
    repeat' first | (with_reducible first | refine nx' ?_ | refine n0 ?_ | refine Wp.drawR (by decide +kernel) ?_ | refine Wp.drawSR [4, 9, 10, 11, 12] [false, false, false, false, true, false, false, false, false, true, true, true, true] (.op 4 [5,6,7,8] (.op 9 [] (.op 10 [] (.op 11 [] (.op 12 [] .done))))) (by decide +kernel) ?_ | refine n1 ?_ | refine nilB_i fun b hb => ?_ | refine nP ?_ ?_ | refine nS fun K hK => ?_ | (refine n2 ?_ ?_ <;> intro h <;> first | subst (h : _ = true) | subst (h : _ = false) | skip) | refine And.intro ?_ ?_ | refine nK ‹Imp _ _› ?_) | exact nl | fail
    all_goals (congr 3; simp [*])
  obtain ⟨hx, hc⟩ := h (by omega)
  have hN := NPs_of hc.of hc.ox hc.oL hc.od
  have hg := gradI_c hN hc.of hc.ox hc.od
  have hxe : (recs.getD (recs.length - 1) rc0).x.map encR = x.map encX := by rw [hx, enc_rtR]
  have e1 : ((recs.length : Int) - 1).toNat = recs.length - 1 := by omega
  have e2 : ((recs.length : Int) == 0) = false := by rw [beq_eq_false_iff_ne]; omega
  have e8 := hc.oe.mono (show 40 ≤ 800 by omega)
  by_cases hst : st ≠ 1 ∧ st ≠ 2
  · have hv : claimV f l u e it st recs x = true := if_pos hst
    rw [hv]
    refine Den.pureI Tryz.func26 rfl 2 [.tmp 4] (by kernel_rfl) rfl rfl (by simp only [initE_nil, initE_cons, Nat.reduceAdd]; exact rfl) ?_
    repeat' first | (with_reducible first | refine nx' ?_ | refine n0 ?_ | refine Wp.drawR (by decide +kernel) ?_ | refine Wp.drawSR [4, 9, 10, 11, 12] [false, false, false, false, true, false, false, false, false, true, true, true, true] (.op 4 [5,6,7,8] (.op 9 [] (.op 10 [] (.op 11 [] (.op 12 [] .done))))) (by decide +kernel) ?_ | refine n1 ?_ | refine nilB_i fun b hb => ?_ | refine nP ?_ ?_ | refine nS fun K hK => ?_ | (refine n2 ?_ ?_ <;> intro h <;> first | subst (h : _ = true) | subst (h : _ = false) | skip) | refine And.intro ?_ ?_ | refine nK ‹Imp _ _› ?_) | exact nl | fail
    all_goals (exfalso; omega)
  · have hv : claimV f l u e it st recs x = claimB f l u e it st (recs.getD (recs.length - 1) rc0).iter x := by
      unfold claimV; rw [if_neg hst, if_neg h0]
    rw [hv]
    unfold claimB
    cases hgr : gradI x.length x f with
    | error er =>
      have hne := gradI_err hgr
      rw [hgr] at hg
      unfold grV at hg
      simp only at hg
      obtain rfl | rfl : st = 1 ∨ st = 2 := by omega
      · refine Den.pureI Tryz.func26 rfl 2 [.tmp 4] (by kernel_rfl) rfl rfl (by simp only [initE_nil, initE_cons, Nat.reduceAdd]; exact rfl) ?_
        repeat' first | (with_reducible first | refine nx' ?_ (by simp -implicitDefEqProofs (disch := omega) only [go_sem, e1, e2, hxe, hne]; exact rfl) | refine n0 ?_ | refine Wp.drawR (by decide +kernel) ?_ | refine Wp.drawSR [4, 9, 10, 11, 12] [false, false, false, false, true, false, false, false, false, true, true, true, true] (.op 4 [5,6,7,8] (.op 9 [] (.op 10 [] (.op 11 [] (.op 12 [] .done))))) (by decide +kernel) ?_ | refine n1 ?_ | refine nilB_i fun b hb => ?_ | refine nPc (hg) ?_ | refine nP ?_ ?_ | refine nS fun K hK => ?_ | (refine n2 ?_ ?_ <;> intro h <;> first | subst (h : _ = true) | subst (h : _ = false) | (simp only [FX, LX, e1, e2, hxe, hne] at h) | skip) | refine And.intro ?_ ?_ | refine nK ‹Imp _ _› ?_) | exact nl | fail
      · refine Den.pureI Tryz.func26 rfl 2 [.tmp 4] (by kernel_rfl) rfl rfl (by simp only [initE_nil, initE_cons, Nat.reduceAdd]; exact rfl) ?_
        repeat' first | (with_reducible first | refine nx' ?_ (by simp -implicitDefEqProofs (disch := omega) only [go_sem, e1, e2, hxe, hne]; exact rfl) | refine n0 ?_ | refine Wp.drawR (by decide +kernel) ?_ | refine Wp.drawSR [4, 9, 10, 11, 12] [false, false, false, false, true, false, false, false, false, true, true, true, true] (.op 4 [5,6,7,8] (.op 9 [] (.op 10 [] (.op 11 [] (.op 12 [] .done))))) (by decide +kernel) ?_ | refine n1 ?_ | refine nilB_i fun b hb => ?_ | refine nPc (hg) ?_ | refine nP ?_ ?_ | refine nS fun K hK => ?_ | (refine n2 ?_ ?_ <;> intro h <;> first | subst (h : _ = true) | subst (h : _ = false) | (simp only [FX, LX, e1, e2, hxe, hne] at h) | skip) | refine And.intro ?_ ?_ | refine nK ‹Imp _ _› ?_) | exact nl | fail
    | ok g =>
      rw [hgr] at hg
      unfold grV at hg
      simp only at hg
      obtain ⟨g1, g2⟩ := gradI_Ln hN hgr
      have hr := residI_c f s l u so e it ba x g hc.ob g2 hc.oL g1
      have hm := cmpI_big (resR l u x g) (e * e) (resR_Ln hc.ob g2 hc.oL g1) ((hc.oe.mul hc.oe).mono (by omega))
      have hle : decide (cmpX (resR l u x g) (e * e) ≤ 0) = decide (sgnX (resR l u x g - e * e) ≤ 0) := decide_eq_decide.2 cmpX_le
      obtain rfl | rfl : st = 1 ∨ st = 2 := by omega
      · refine Den.pureI Tryz.func26 rfl 2 [.tmp 4] (by kernel_rfl) rfl rfl (by simp only [initE_nil, initE_cons, Nat.reduceAdd]; exact rfl) ?_
        repeat' first | (with_reducible first | refine nx' ?_ (by simp -implicitDefEqProofs (disch := omega) only [go_sem, e1, e2, hxe, hle]; exact rfl) | refine n0 ?_ | refine Wp.drawR (by decide +kernel) ?_ | refine Wp.drawSR [4, 9, 10, 11, 12] [false, false, false, false, true, false, false, false, false, true, true, true, true] (.op 4 [5,6,7,8] (.op 9 [] (.op 10 [] (.op 11 [] (.op 12 [] .done))))) (by decide +kernel) ?_ | refine n1 ?_ | refine nilB_i fun b hb => ?_ | refine nPc (hg) ?_ | refine nPc (hr) ?_ | refine nPc (hm) ?_ | refine nP ?_ ?_ | refine nS fun K hK => ?_ | (refine n2 ?_ ?_ <;> intro h <;> first | subst (h : _ = true) | subst (h : _ = false) | (simp only [FX, LX, e1, e2, hxe, hle] at h) | skip) | refine And.intro ?_ ?_ | refine nK ‹Imp _ _› ?_) | exact nl | fail
      · refine Den.pureI Tryz.func26 rfl 2 [.tmp 4] (by kernel_rfl) rfl rfl (by simp only [initE_nil, initE_cons, Nat.reduceAdd]; exact rfl) ?_
        repeat' first | (with_reducible first | refine nx' ?_ (by simp -implicitDefEqProofs (disch := omega) only [go_sem, e1, e2, hxe, hle]; exact rfl) | refine n0 ?_ | refine Wp.drawR (by decide +kernel) ?_ | refine Wp.drawSR [4, 9, 10, 11, 12] [false, false, false, false, true, false, false, false, false, true, true, true, true] (.op 4 [5,6,7,8] (.op 9 [] (.op 10 [] (.op 11 [] (.op 12 [] .done))))) (by decide +kernel) ?_ | refine n1 ?_ | refine nilB_i fun b hb => ?_ | refine nPc (hg) ?_ | refine nPc (hr) ?_ | refine nPc (hm) ?_ | refine nP ?_ ?_ | refine nS fun K hK => ?_ | (refine n2 ?_ ?_ <;> intro h <;> first | subst (h : _ = true) | subst (h : _ = false) | (simp only [FX, LX, e1, e2, hxe, hle] at h) | skip) | refine And.intro ?_ ?_ | refine nK ‹Imp _ _› ?_) | exact nl | fail
        · have q : decide (sgnX (resR l u x g - e * e) ≤ 0) = false := decide_eq_false (by omega)
          rw [if_neg (by decide), q]; rfl
        · have q : decide (sgnX (resR l u x g - e * e) ≤ 0) = true := decide_eq_true h
          rw [if_neg (by decide), q]; rfl
theorem claimS_c (h : 0 < recs.length → (recs.getD (recs.length - 1) rc0).x = x.map rtR ∧ ClP f l u e x) (hn : recs.length ≤ 7) :
    CC 41 [.d (pxD f s l u so e it ba), .d (.agg [.i st, .sl (recs.map encRc)])] [] (.d (.b (claimV f l u e it st recs x))) [] := by
  by_cases h0 : recs.length = 0
  · obtain rfl := List.eq_nil_of_length_eq_zero h0
    unfold claimV
    refine Den.pureI Tryz.func41 rfl 2 [.tmp 4] (by kernel_rfl) rfl rfl (by simp only [initE_nil, initE_cons, Nat.reduceAdd]; exact rfl) ?_
    repeat' first | (with_reducible first | refine nx' ?_ | refine n0 ?_ | refine Wp.drawR (by decide +kernel) ?_ | refine Wp.drawSR [4, 9, 10, 11, 12] [false, false, false, false, true, false, false, false, false, true, true, true, true] (.op 4 [5,6,7,8] (.op 9 [] (.op 10 [] (.op 11 [] (.op 12 [] .done))))) (by decide +kernel) ?_ | refine n1 ?_ | refine nilB_i fun b hb => ?_ | refine nP ?_ ?_ | refine nS fun K hK => ?_ | (refine n2 ?_ ?_ <;> intro h <;> first | subst (h : _ = true) | subst (h : _ = false) | skip) | refine And.intro ?_ ?_ | refine nK ‹Imp _ _› ?_) | exact nl | fail
    all_goals (congr 3; simp [*])
  obtain ⟨hx, hc⟩ := h (by omega)
  have hN := NPs_of hc.of hc.ox hc.oL hc.od
  have hg := gradS_c hN
  have hxe : (recs.getD (recs.length - 1) rc0).x.map encR = x.map encX := by rw [hx, enc_rtR]
  have e1 : ((recs.length : Int) - 1).toNat = recs.length - 1 := by omega
  have e2 : ((recs.length : Int) == 0) = false := by rw [beq_eq_false_iff_ne]; omega
  have e8 := hc.oe.mono (show 40 ≤ 800 by omega)
  by_cases hst : st ≠ 1 ∧ st ≠ 2
  · have hv : claimV f l u e it st recs x = true := if_pos hst
    rw [hv]
    refine Den.pureI Tryz.func41 rfl 2 [.tmp 4] (by kernel_rfl) rfl rfl (by simp only [initE_nil, initE_cons, Nat.reduceAdd]; exact rfl) ?_
    repeat' first | (with_reducible first | refine nx' ?_ | refine n0 ?_ | refine Wp.drawR (by decide +kernel) ?_ | refine Wp.drawSR [4, 9, 10, 11, 12] [false, false, false, false, true, false, false, false, false, true, true, true, true] (.op 4 [5,6,7,8] (.op 9 [] (.op 10 [] (.op 11 [] (.op 12 [] .done))))) (by decide +kernel) ?_ | refine n1 ?_ | refine nilB_i fun b hb => ?_ | refine nP ?_ ?_ | refine nS fun K hK => ?_ | (refine n2 ?_ ?_ <;> intro h <;> first | subst (h : _ = true) | subst (h : _ = false) | skip) | refine And.intro ?_ ?_ | refine nK ‹Imp _ _› ?_) | exact nl | fail
    all_goals (exfalso; omega)
  · have hv : claimV f l u e it st recs x = claimB f l u e it st (recs.getD (recs.length - 1) rc0).iter x := by
      unfold claimV; rw [if_neg hst, if_neg h0]
    rw [hv]
    unfold claimB
    cases hgr : gradI x.length x f with
    | error er =>
      obtain ⟨e', hs⟩ := grad_err hN hgr
      have hne := gS_errN hs
      rw [hs] at hg
      unfold grV at hg
      simp only at hg
      obtain rfl | rfl : st = 1 ∨ st = 2 := by omega
      · refine Den.pureI Tryz.func41 rfl 2 [.tmp 4] (by kernel_rfl) rfl rfl (by simp only [initE_nil, initE_cons, Nat.reduceAdd]; exact rfl) ?_
        repeat' first | (with_reducible first | refine nx' ?_ (by simp -implicitDefEqProofs (disch := omega) only [go_sem, e1, e2, hxe, hne]; exact rfl) | refine n0 ?_ | refine Wp.drawR (by decide +kernel) ?_ | refine Wp.drawSR [4, 9, 10, 11, 12] [false, false, false, false, true, false, false, false, false, true, true, true, true] (.op 4 [5,6,7,8] (.op 9 [] (.op 10 [] (.op 11 [] (.op 12 [] .done))))) (by decide +kernel) ?_ | refine n1 ?_ | refine nilB_i fun b hb => ?_ | refine nPc (hg) ?_ | refine nP ?_ ?_ | refine nS fun K hK => ?_ | (refine n2 ?_ ?_ <;> intro h <;> first | subst (h : _ = true) | subst (h : _ = false) | (simp only [FX, LX, e1, e2, hxe, hne] at h) | skip) | refine And.intro ?_ ?_ | refine nK ‹Imp _ _› ?_) | exact nl | fail
      · refine Den.pureI Tryz.func41 rfl 2 [.tmp 4] (by kernel_rfl) rfl rfl (by simp only [initE_nil, initE_cons, Nat.reduceAdd]; exact rfl) ?_
        repeat' first | (with_reducible first | refine nx' ?_ (by simp -implicitDefEqProofs (disch := omega) only [go_sem, e1, e2, hxe, hne]; exact rfl) | refine n0 ?_ | refine Wp.drawR (by decide +kernel) ?_ | refine Wp.drawSR [4, 9, 10, 11, 12] [false, false, false, false, true, false, false, false, false, true, true, true, true] (.op 4 [5,6,7,8] (.op 9 [] (.op 10 [] (.op 11 [] (.op 12 [] .done))))) (by decide +kernel) ?_ | refine n1 ?_ | refine nilB_i fun b hb => ?_ | refine nPc (hg) ?_ | refine nP ?_ ?_ | refine nS fun K hK => ?_ | (refine n2 ?_ ?_ <;> intro h <;> first | subst (h : _ = true) | subst (h : _ = false) | (simp only [FX, LX, e1, e2, hxe, hne] at h) | skip) | refine And.intro ?_ ?_ | refine nK ‹Imp _ _› ?_) | exact nl | fail
    | ok g =>
      rw [grad_ok hN hgr] at hg
      unfold grV at hg
      simp only at hg
      obtain ⟨g1, g2⟩ := gradI_Ln hN hgr
      have hr := residS_c f s l u so e it ba x g hc.ob g2 hc.oL g1
      have hm := cmpS_big (resR l u x g) (e * e) (resR_Ln hc.ob g2 hc.oL g1) ((hc.oe.mul hc.oe).mono (by omega))
      obtain rfl | rfl : st = 1 ∨ st = 2 := by omega
      · refine Den.pureI Tryz.func41 rfl 2 [.tmp 4] (by kernel_rfl) rfl rfl (by simp only [initE_nil, initE_cons, Nat.reduceAdd]; exact rfl) ?_
        repeat' first | (with_reducible first | refine nx' ?_ (by simp -implicitDefEqProofs (disch := omega) only [go_sem, e1, e2, hxe]; exact rfl) | refine n0 ?_ | refine Wp.drawR (by decide +kernel) ?_ | refine Wp.drawSR [4, 9, 10, 11, 12] [false, false, false, false, true, false, false, false, false, true, true, true, true] (.op 4 [5,6,7,8] (.op 9 [] (.op 10 [] (.op 11 [] (.op 12 [] .done))))) (by decide +kernel) ?_ | refine n1 ?_ | refine nilB_i fun b hb => ?_ | refine nPc (hg) ?_ | refine nPc (hr) ?_ | refine nPc (hm) ?_ | refine nP ?_ ?_ | refine nS fun K hK => ?_ | (refine n2 ?_ ?_ <;> intro h <;> first | subst (h : _ = true) | subst (h : _ = false) | (simp only [FX, LX, e1, e2, hxe] at h) | skip) | refine And.intro ?_ ?_ | refine nK ‹Imp _ _› ?_) | exact nl | fail
      · refine Den.pureI Tryz.func41 rfl 2 [.tmp 4] (by kernel_rfl) rfl rfl (by simp only [initE_nil, initE_cons, Nat.reduceAdd]; exact rfl) ?_
        repeat' first | (with_reducible first | refine nx' ?_ (by simp -implicitDefEqProofs (disch := omega) only [go_sem, e1, e2, hxe]; exact rfl) | refine n0 ?_ | refine Wp.drawR (by decide +kernel) ?_ | refine Wp.drawSR [4, 9, 10, 11, 12] [false, false, false, false, true, false, false, false, false, true, true, true, true] (.op 4 [5,6,7,8] (.op 9 [] (.op 10 [] (.op 11 [] (.op 12 [] .done))))) (by decide +kernel) ?_ | refine n1 ?_ | refine nilB_i fun b hb => ?_ | refine nPc (hg) ?_ | refine nPc (hr) ?_ | refine nPc (hm) ?_ | refine nP ?_ ?_ | refine nS fun K hK => ?_ | (refine n2 ?_ ?_ <;> intro h <;> first | subst (h : _ = true) | subst (h : _ = false) | (simp only [FX, LX, e1, e2, hxe] at h) | skip) | refine And.intro ?_ ?_ | refine nK ‹Imp _ _› ?_) | exact nl | fail
        · have q : decide (sgnX (resR l u x g - e * e) ≤ 0) = false := decide_eq_false (by omega)
          rw [if_neg (by decide), q]; rfl
        · have q : decide (sgnX (resR l u x g - e * e) ≤ 0) = true := decide_eq_true h
          rw [if_neg (by decide), q]; rfl
end
end Go.PL
