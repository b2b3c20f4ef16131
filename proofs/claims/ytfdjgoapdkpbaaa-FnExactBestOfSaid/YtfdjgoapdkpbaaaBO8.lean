/- A plain machine, sound for the given model, and contracts of functions over it, part 37: BO8. Nothing is assumed. -/
import Derived.Test.YtfdjgoapdkpbaaaBO6
import Derived.Test.YtfdjgoapdkpbaaaBO7
set_option linter.unusedSimpArgs false
set_option linter.unusedVariables false
set_option linter.unusedSectionVars false
/- BO8 -/
namespace Go.PL
open Go Go.Proofs
set_option maxRecDepth 10000
set_option maxHeartbeats 4000000
set_option linter.unusedSimpArgs false
set_option linter.unusedVariables false
theorem markIs_d (k : Int) : CC 41 [.d (.sl (([] : List Int).map .i)), .d (.i k)] [] (.d (.i k)) [] := by
  simp only [List.map_nil]
  refine Den.pureI Try.func41 rfl 2 [.tmp 4] (by kernel_rfl) rfl rfl (by simp only [initE_nil, initE_cons, Nat.reduceAdd]; exact rfl) ?_
  repeat' first | (with_reducible first | refine nx' ?_ | refine n0 ?_ | refine rD ?_ | refine n1 ?_ | refine nilB_i fun b hb => ?_ | refine nP ?_ ?_ | refine nS fun K hK => ?_ | (refine n2 ?_ ?_ <;> intro h <;> first | subst (h : _ = true) | subst (h : _ = false) | skip) | refine And.intro ?_ ?_ | refine nK ‹Imp _ _› ?_) | exact nl | fail
  refine Wp.loopR (fun _ : Nat => ⟨[(0, .d (.sl [])), (1, .d (.i k)), (5, .d (.i 0))], []⟩) (fun i => i) (fun _ => True) 0 Weak.lo trivial ?_
  rintro i _ K hK
  repeat' first | (with_reducible first | refine nx' ?_ | refine n0 ?_ | refine rD ?_ | refine n1 ?_ | refine nilB_i fun b hb => ?_ | refine nP ?_ ?_ | refine nS fun K hK => ?_ | (refine n2 ?_ ?_ <;> intro h <;> first | subst (h : _ = true) | subst (h : _ = false) | skip) | refine And.intro ?_ ?_ | refine nK ‹Imp _ _› ?_) | exact nl | fail
theorem markRs_d (k : Int) : CC 26 [.d (.sl (([] : List Rt).map encR)), .d (.i k)] [] (.d (.i k)) [] := by
  simp only [List.map_nil]
  refine Den.pureI Try.func26 rfl 2 [.tmp 4] (by kernel_rfl) rfl rfl (by simp only [initE_nil, initE_cons, Nat.reduceAdd]; exact rfl) ?_
  repeat' first | (with_reducible first | refine nx' ?_ | refine n0 ?_ | refine rD ?_ | refine n1 ?_ | refine nilB_i fun b hb => ?_ | refine nP ?_ ?_ | refine nS fun K hK => ?_ | (refine n2 ?_ ?_ <;> intro h <;> first | subst (h : _ = true) | subst (h : _ = false) | skip) | refine And.intro ?_ ?_ | refine nK ‹Imp _ _› ?_) | exact nl | fail
  refine Wp.loopR (fun _ : Nat => ⟨[(0, .d (.sl [])), (1, .d (.i k)), (5, .d (.i 0))], []⟩) (fun i => i) (fun _ => True) 0 Weak.lo trivial ?_
  rintro i _ K hK
  repeat' first | (with_reducible first | refine nx' ?_ | refine n0 ?_ | refine rD ?_ | refine n1 ?_ | refine nilB_i fun b hb => ?_ | refine nP ?_ ?_ | refine nS fun K hK => ?_ | (refine n2 ?_ ?_ <;> intro h <;> first | subst (h : _ = true) | subst (h : _ = false) | skip) | refine And.intro ?_ ?_ | refine nK ‹Imp _ _› ?_) | exact nl | fail
theorem markR_d (k : Int) : CC 27 [.d (.agg [.b false, .sl (([] : List Int).map .i), .sl (([] : List Int).map .i)]), .d (.i k)] [] (.d (.i k)) [] := by
  have h := markIs_d k
  refine Den.pureI Try.func27 rfl 2 [.tmp 4] (by kernel_rfl) rfl rfl (by simp only [initE_nil, initE_cons, Nat.reduceAdd]; exact rfl) ?_
  repeat' first | (with_reducible first | refine nx' ?_ | refine n0 ?_ | refine rD ?_ | refine n1 ?_ | refine nilB_i fun b hb => ?_ | refine nPc (h) ?_ | refine nP ?_ ?_ | refine nS fun K hK => ?_ | (refine n2 ?_ ?_ <;> intro h <;> first | subst (h : _ = true) | subst (h : _ = false) | skip) | refine And.intro ?_ ?_ | refine nK ‹Imp _ _› ?_) | exact nl | fail
theorem markRec_d (k : Int) : CC 11 [.d (.agg [.i 0, .i 0, .sl (([] : List Rt).map encR), .b false, .sl (([] : List Int).map .i), .sl (([] : List Int).map .i)]), .d (.i k)] [] (.d (.i k)) [] := by
  have h1 := markRs_d k
  have h2 := markR_d k
  refine Den.pureI Try.func11 rfl 2 [.tmp 4] (by kernel_rfl) rfl rfl (by simp only [initE_nil, initE_cons, Nat.reduceAdd]; exact rfl) ?_
  repeat' first | (with_reducible first | refine nx' ?_ | refine n0 ?_ | refine rD ?_ | refine n1 ?_ | refine nilB_i fun b hb => ?_ | refine nPc (h1) ?_ | refine nPc (h2) ?_ | refine nP ?_ ?_ | refine nS fun K hK => ?_ | (refine n2 ?_ ?_ <;> intro h <;> first | subst (h : _ = true) | subst (h : _ = false) | skip) | refine And.intro ?_ ?_ | refine nK ‹Imp _ _› ?_) | exact nl | fail
set_option maxHeartbeats 4000000 in
theorem law_c (a : Int) (l : List Rc) (hp : pRcs l) (h1 : ¬ szL 1048576 (szRcs l) < 0) (hb : bRcs l) (hok : ¬ (okRp ⟨a, l⟩ = true ∧ 0 < l.length)) : CC 3 [.d (.agg [.i a, .sl (l.map encRc)])] [] (.d (.b true)) [] := by
  obtain ⟨q1, q2⟩ := szL_of (left := 1048576) (n := szRcs l) (by omega)
  have hq := sumC_le l
  have ht := toRep_t a l hb
  have hg : CC 7 [.d (.agg [.i a, .sl (l.map encRc)])] [] (.tup [.d (.agg [.i 0, .i 0, .sl (([] : List Rt).map encR), .b false, .sl (([] : List Int).map .i), .sl (([] : List Int).map .i)]), .d (.i (bestC a l))]) [] := best_no a l hb hok
  have w1 : bestR a l = rc0 := if_neg hok
  have hbR : bRc ⟨0, 0, [], ⟨false, [], []⟩⟩ := ⟨⟨by simp, by simp⟩, by simp, by simp⟩
  have hm := markRep_c [.var [.d (.i a), .d (.sl (l.map encRc))] false, .arr 6 (l.map encRc) true, .var [.d (.i 0), .d (.i 0), .d (.sl (([] : List Rt).map encR)), .d (.b false), .d (encD []), .d (encD [])] false, .dead, .var [.d (.i a), .msl 3 0 l.length] false, .var [.d (.i 0), .d (.i 0), .d (.sl (([] : List Rt).map encR)), .d (.b false), .d (encD []), .d (encD [])] false, .tree 6 ((l.map encRc).map .d)] 3 l.length a 1 l (by simp) (by simp only [List.all_cons, List.all_nil, tree_bnd, arr_bnd, Bool.and_true]; rfl) rfl hb (by omega)
  simp only [List.set_cons_succ, List.set_cons_zero] at hm
  have hmd := markRec_d 1
  have hh : CC 12 [.d (.agg [.i 0, .i 0, .sl (([] : List Rt).map encR), .b false, encD [], encD []]), .d (.i 1)] [] (.d (.i 1)) [] := by
    have := Con.ok (C := CC) (n := 12) (vs := [.d (.agg [.i 0, .i 0, .sl (([] : List Rt).map encR), .b false, encD [], encD []]), .d (.i 1)]) ⟨⟨by simp, by simp⟩, by simp, by simp, by simp, by simp [sumOf], ⟨[], rfl⟩, rfl, rfl⟩
    exact this
  refine Den.pureI Try.func3 rfl 1 [.tmp 2] (by kernel_rfl) rfl rfl (by simp only [initE_nil, initE_cons, Nat.reduceAdd]; exact rfl) ?_
  repeat' first | (with_reducible first | refine nx' ?_ (by simp -implicitDefEqProofs (disch := omega) only [go_sem, w1]; exact rfl) | refine n0 ?_ | refine Wp.drawSR [2, 3, 4] [false, false, true, true, true] (.op 2 [0] (.op 3 [] (.op 4 [] .done))) (by decide +kernel) ?_ | refine Wp.drawR (by decide +kernel) ?_ | refine n1 ?_ | refine nilB_i fun b hb => ?_ | refine nPt (ht) ?_ | refine nPt (hg) ?_ | refine nPm (hm) ?_ | refine nPc (hmd) ?_ | refine nPc (hh) ?_ | refine nP ?_ ?_ | refine nS fun K hK => ?_ | (refine n2 ?_ ?_ <;> intro h <;> first | subst (h : _ = true) | subst (h : _ = false) | (simp only [FX, LX, w1] at h) | skip) | refine And.intro ?_ ?_ | refine nK ‹Imp _ _› ?_) | exact nl | fail
  all_goals first
    | exact absurd trivial ‹¬True›
    | exact hbR
    | rfl
    | skip
instance (a : Int) (l : List Rc) : Con CC 3 [.d (.agg [.i a, .sl (l.map encRc)])] (pRcs l) (.d (.b true)) := by
  constructor; intro hp
  by_cases h1 : szL 1048576 (szRcs l) < 0
  · refine Den.pureI Try.func3 rfl 1 [.tmp 2] (by kernel_rfl) rfl rfl (by simp only [initE_nil, initE_cons, Nat.reduceAdd]; exact rfl) ?_
    repeat' first | (with_reducible first | refine nx' ?_ | refine n0 ?_ | refine Wp.drawR (by decide +kernel) ?_ | refine Wp.drawSR [2, 3, 4] [false, false, true, true, true] (.op 2 [0] (.op 3 [] (.op 4 [] .done))) (by decide +kernel) ?_ | refine n1 ?_ | refine nilB_i fun b hb => ?_ | refine nP ?_ ?_ | refine nS fun K hK => ?_ | (refine n2 ?_ ?_ <;> intro h <;> first | subst (h : _ = true) | subst (h : _ = false) | skip) | refine And.intro ?_ ?_ | refine nK ‹Imp _ _› ?_) | exact nl | fail
  · have hb : bRcs l := bRcs_of (by omega)
    by_cases hok : okRp ⟨a, l⟩ = true ∧ 0 < l.length
    · rcases hr : l.getD (l.length - 1) rc0 with ⟨it, ct, x, ⟨g, u, v⟩⟩
      by_cases hu : u.length = 0
      · exact law_a a l hp h1 hb hok.1 hok.2 it ct x g u v hr (List.eq_nil_of_length_eq_zero hu)
      · exact law_b a l hp h1 hb hok.1 hok.2 it ct x g u v hr hu
    · exact law_c a l hp h1 hb hok
end Go.PL
