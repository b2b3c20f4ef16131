/- A plain machine, sound for the given model, and contracts of functions over it, part 39: JT3. Nothing is assumed. -/
import Derived.Test.YtapgbbaefieibabGreatDoorJT2
set_option linter.unusedSimpArgs false
set_option linter.unusedVariables false
set_option linter.unusedSectionVars false
/- JT3 -/
namespace Go.PL
open Go Go.Proofs
set_option maxRecDepth 10000
set_option maxHeartbeats 4000000
set_option linter.unusedSimpArgs false
set_option linter.unusedVariables false
theorem sumC_le : ∀ l : List Rc, sumOf cC l ≤ 3 * szRcs l
  | [] => by simp [sumOf]
  | r :: l => by
    have h1 := sumC_le l
    have h2 := szV_cR r.x
    simp only [szRcs, sumOf, List.length_cons, cC, szRc, h2] at *
    omega
theorem markSNil_c (k : Nat) (hk : k ≤ 900000000) : CC 11 [.d (.sl (([] : List ByteArray).map .s)), .d (.i k)] [] (.d (.i k)) [] := by
  simp only [List.map_nil]
  refine Den.pureI Tryz.func11 rfl 2 [.tmp 4] (by kernel_rfl) rfl rfl (by simp only [initE_nil, initE_cons, Nat.reduceAdd]; exact rfl) ?_
  repeat' first | (with_reducible first | refine nx' ?_ | refine n0 ?_ | refine rD ?_ | refine n1 ?_ | refine nilB_i fun b hb => ?_ | refine nP ?_ ?_ | refine nS fun K hK => ?_ | (refine n2 ?_ ?_ <;> intro h <;> first | subst (h : _ = true) | subst (h : _ = false) | skip) | refine And.intro ?_ ?_ | refine nK ‹Imp _ _› ?_) | exact nl | fail
  refine Wp.loopR (fun _ : Nat => ⟨[(0, .d (.sl [])), (1, .d (.i k)), (5, .d (.i 0))], []⟩) (fun i => i) (fun _ => True) 0 Weak.lo trivial ?_
  rintro i _ K hK
  repeat' first | (with_reducible first | refine nx' ?_ | refine n0 ?_ | refine rD ?_ | refine n1 ?_ | refine nilB_i fun b hb => ?_ | refine nP ?_ ?_ | refine nS fun K hK => ?_ | (refine n2 ?_ ?_ <;> intro h <;> first | subst (h : _ = true) | subst (h : _ = false) | skip) | refine And.intro ?_ ?_ | refine nK ‹Imp _ _› ?_) | exact nl | fail
set_option maxHeartbeats 4000000 in
instance (a : Int) (l : List Rc) : Con CC 3 [.d (.agg [.i a, .sl (l.map encRc)])] (pRcs l) (.d (.b true)) := by
  constructor; intro hp
  by_cases h1 : szL 1048576 (szRcs l) < 0
  · refine Den.pureI Tryz.func3 rfl 1 [.tmp 2] (by kernel_rfl) rfl rfl (by simp only [initE_nil, initE_cons, Nat.reduceAdd]; exact rfl) ?_
    repeat' first | (with_reducible first | refine nx' ?_ | refine n0 ?_ | refine Wp.drawR (by decide +kernel) ?_ | refine Wp.drawSR [2, 3, 4] [false, false, true, true, true] (.op 2 [0] (.op 3 [] (.op 4 [] .done))) (by decide +kernel) ?_ | refine n1 ?_ | refine nilB_i fun b hb => ?_ | refine nP ?_ ?_ | refine nS fun K hK => ?_ | (refine n2 ?_ ?_ <;> intro h <;> first | subst (h : _ = true) | subst (h : _ = false) | skip) | refine And.intro ?_ ?_ | refine nK ‹Imp _ _› ?_) | exact nl | fail
  · have hb : bRcs l := bRcs_of (by omega)
    obtain ⟨q1, q2⟩ := szL_of (left := 1048576) (n := szRcs l) (by omega)
    have hq := sumC_le l
    have ht := toRep_t a l hb
    cases ho : okRp ⟨a, l⟩ with
    | false =>
      have hj := jText_no a l hb ho
      have hs := markSNil_c 1 (by omega)
      have hh : CC 12 [.d (.sl (([] : List ByteArray).map .s)), .d (.i (1 : Nat))] [] (.d (.i (1 + ([] : List ByteArray).length : Nat))) [] := Con.ok (C := CC) (by simp [mkS])
      simp only [List.length_nil, Nat.add_zero, show ((1 : Nat) : Int) = 1 from rfl] at hs hh
      refine Den.pureI Tryz.func3 rfl 1 [.tmp 2] (by kernel_rfl) rfl rfl (by simp only [initE_nil, initE_cons, Nat.reduceAdd]; exact rfl) ?_
      have hm := markRep_c [.var [.d (.i a), .d (.sl (l.map encRc))] false, .arr 6 (l.map encRc) true, .dead, .var [.d (.i a), .msl 2 0 l.length] false, .tree 6 ((l.map encRc).map .d)] 2 l.length a 1 l (by simp) (by simp only [List.all_cons, List.all_nil, tree_bnd, Bool.and_true]; rfl) rfl hb (by omega)
      simp only [List.set_cons_succ, List.set_cons_zero] at hm
      repeat' first | (with_reducible first | refine nx' ?_ (by simp -implicitDefEqProofs (disch := omega) only [go_sem, ho]; exact rfl) | refine n0 ?_ | refine Wp.drawSR [2, 3, 4] [false, false, true, true, true] (.op 2 [0] (.op 3 [] (.op 4 [] .done))) (by decide +kernel) ?_ | refine Wp.drawR (by decide +kernel) ?_ | refine n1 ?_ | refine nilB_i fun b hb => ?_ | refine nPt (ht) ?_ | refine nPt (hj) ?_ | refine nPc (hs) ?_ | refine nPc (hh) ?_ | refine nPm (hm) ?_ | refine nP ?_ ?_ | refine nS fun K hK => ?_ | (refine n2 ?_ ?_ <;> intro h <;> first | subst (h : _ = true) | subst (h : _ = false) | (simp only [FX, LX, ho] at h) | skip) | refine And.intro ?_ ?_ | refine nK ‹Imp _ _› ?_) | exact nl | fail
      all_goals first | exact absurd trivial ‹¬True› | skip
    | true =>
      have hj := jText_n a l hb ho
      have hl8 : (linR ⟨a, l⟩).length ≤ 8 := by obtain ⟨_, _, h, _⟩ := okRp_parts ho; rw [linR_len]; simp only at h ⊢; omega
      refine Den.pureI Tryz.func3 rfl 1 [.tmp 2] (by kernel_rfl) rfl rfl (by simp only [initE_nil, initE_cons, Nat.reduceAdd]; exact rfl) ?_
      have hm := markRep_c [.var [.d (.i a), .d (.sl (l.map encRc))] false, .arr 6 (l.map encRc) true, .dead, .var [.d (.i a), .msl 2 0 l.length] false, .arr 1 ((linR ⟨a, l⟩).map .s) false, .tree 6 ((l.map encRc).map .d)] 2 l.length a 1 l (by simp) (by simp only [List.all_cons, List.all_nil, tree_bnd, arr_bnd, Bool.and_true]; rfl) rfl hb (by omega)
      have hm2 := markStrs_c [.var [.d (.i a), .d (.sl (l.map encRc))] false, .arr 6 (l.map encRc) true, .tree 6 (((mkCs 1 l).map encRc).map .d), .var [.d (.i a), .msl 2 0 l.length] false, .dead, .tree 6 ((l.map encRc).map .d)] 4 (linR ⟨a, l⟩).length 1 (linR ⟨a, l⟩) (by simp) (by simp only [List.all_cons, List.all_nil, tree_bnd, arr_bnd, Bool.and_true]; rfl) (Nat.le_refl _) (by omega) (by omega)
      rw [List.drop_length, List.append_nil] at hm2
      have hh : CC 12 [.d (.sl ((mkS 1 (linR ⟨a, l⟩).length).map .s)), .d (.i (1 : Nat))] [] (.d (.i (1 + (mkS 1 (linR ⟨a, l⟩).length).length : Nat))) [] := Con.ok (C := CC) (by rw [mkS_len]; exact ⟨by omega, by omega, rfl⟩)
      have tk : (mkS 1 (linR ⟨a, l⟩).length).take (linR ⟨a, l⟩).length = mkS 1 (linR ⟨a, l⟩).length := List.take_of_length_le (by rw [mkS_len]; exact Nat.le_refl _)
      rw [mkS_len] at hh
      simp only [List.set_cons_succ, List.set_cons_zero, Int.natCast_add, show ((1 : Nat) : Int) = 1 from rfl] at hm hm2 hh
      have hh2 : CC 12 [.d (.sl (((mkS 1 (linR ⟨a, l⟩).length).take (linR ⟨a, l⟩).length).map .s)), .d (.i 1)] [] (.d (.i (1 + ((linR ⟨a, l⟩).length : Int)))) [] := by rw [tk]; exact hh
      repeat' first | (with_reducible first | refine nx' ?_ (by simp -implicitDefEqProofs (disch := omega) only [go_sem, ho, mkS_len, tk]; exact rfl) | refine n0 ?_ | refine Wp.drawSR [2, 3, 4] [false, false, true, true, true] (.op 2 [0] (.op 3 [] (.op 4 [] .done))) (by decide +kernel) ?_ | refine Wp.drawR (by decide +kernel) ?_ | refine n1 ?_ | refine nilB_i fun b hb => ?_ | refine nPt (ht) ?_ | refine nPt (hj) ?_ | refine nPc (hh2) ?_ | refine nPm (hm) ?_ | refine nPm (hm2) ?_ | refine nP ?_ ?_ | refine nS fun K hK => ?_ | (refine n2 ?_ ?_ <;> intro h <;> first | subst (h : _ = true) | subst (h : _ = false) | (simp only [FX, LX, ho, mkS_len, tk] at h) | skip) | refine And.intro ?_ ?_ | refine nK ‹Imp _ _› ?_) | exact nl | fail
      all_goals first | exact absurd trivial ‹¬True› | skip
end Go.PL
