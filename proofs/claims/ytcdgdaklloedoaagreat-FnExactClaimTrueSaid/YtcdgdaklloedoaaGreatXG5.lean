/- A plain machine, sound for the given model, and contracts of functions over it, part 52: XG5. Nothing is assumed. -/
import Derived.Test.YtcdgdaklloedoaaGreatXG4
import Derived.Test.YtcdgdaklloedoaaGreatPBc1
set_option linter.unusedSimpArgs false
set_option linter.unusedVariables false
set_option linter.unusedSectionVars false
/- XG5 -/
namespace Go.PL
open Go Go.Proofs
set_option maxRecDepth 10000
set_option maxHeartbeats 4000000
set_option linter.unusedSimpArgs false
set_option linter.unusedVariables false
instance (f : List Nd) (s l w : List Rt) (so : Int) (g : Bool) (u v : List Int) (it ba : Int) : Con CC 41 [.d (pbD f s l w so g u v it ba)] (bPb ⟨f, s, l, w, so, ⟨g, u, v⟩, it, ba⟩) (.d (.i (if okPb ⟨f, s, l, w, so, ⟨g, u, v⟩, it, ba⟩ then 0 else 1))) := by
  constructor; intro hb
  refine Den.pureI Tryz.func41 rfl 1 [.tmp 2] (by kernel_rfl) rfl rfl (by simp only [initE_nil, initE_cons, Nat.reduceAdd]; exact rfl) ?_
  repeat' first | (with_reducible first | refine nx' ?_ | refine n0 ?_ | refine rD ?_ | refine n1 ?_ | refine nilB_i fun b hb => ?_ | refine nP ?_ ?_ | refine nS fun K hK => ?_ | (refine n2 ?_ ?_ <;> intro h <;> first | subst (h : _ = true) | subst (h : _ = false) | skip) | refine And.intro ?_ ?_ | refine nK ‹Imp _ _› ?_) | exact nl | fail
def askC (p : Pb) (r : Rp) : Int := if okPb p = true ∧ okRp r = true then (if r.recs.length = 0 ∨ (r.recs.getD 0 rc0).x.length = p.start.length then 0 else 8) else 1
theorem auditC_c (f : List Nd) (s l w : List Rt) (so : Int) (g : Bool) (u v : List Int) (it ba st : Int) (recs : List Rc) (hb : bPb ⟨f, s, l, w, so, ⟨g, u, v⟩, it, ba⟩) (hr : bRcs recs) :
    CC 22 [.d (pbD f s l w so g u v it ba), .d (.agg [.i st, .sl (recs.map encRc)])] [] (.d (.i (askC ⟨f, s, l, w, so, ⟨g, u, v⟩, it, ba⟩ ⟨st, recs⟩))) [] := by
  have hf : ∀ a b : Int, CC 40 [.d (.sl [.i a, .i b])] [] (.d (.i (firstI [a, b]))) [] := fun a b => Con.ok (C := CC) (n := 40) (vs := [.d (.sl ([a, b].map .i))]) (by simp)
  have hs : s.length ≤ 1048576 := hb.2.1.1
  have hn : recs.length ≤ 1048576 := hr.1
  have h0 := hr.get 0
  have h00 : (recs.getD 0 rc0).x.length ≤ 1048576 := h0.1.1
  have f11 : firstI [1, 0] = 1 := rfl
  have f12 : firstI [1, 1] = 1 := rfl
  have f01 : firstI [0, 1] = 1 := rfl
  have f00 : firstI [0, 0] = 0 := rfl
  have f08 : firstI [0, 8] = 8 := rfl
  unfold askC
  cases hp : okPb ⟨f, s, l, w, so, ⟨g, u, v⟩, it, ba⟩ <;> cases hq : okRp ⟨st, recs⟩
  · refine Den.pureI Tryz.func22 rfl 2 [.tmp 4] (by kernel_rfl) rfl rfl (by simp only [initE_nil, initE_cons, Nat.reduceAdd]; exact rfl) ?_
    repeat' first | (with_reducible first | refine nx' ?_ (by simp -implicitDefEqProofs (disch := omega) only [go_sem, hp, hq, f12, f11]; exact rfl) | refine n0 ?_ | refine Wp.drawR (by decide +kernel) ?_ | refine Wp.drawSR [1, 3, 4, 5, 6] [false, true, false, true, true, true, true] (.op 1 [2] (.op 3 [] (.op 4 [] (.op 5 [] (.op 6 [] .done))))) (by decide +kernel) ?_ | refine Wp.drawSR [21, 22, 23, 24] [false, false, false, false, false, false, false, false, false, false, false, false, false, false, false, false, false, false, false, false, false, true, true, true, true] (.op 21 [0] (.op 22 [] (.op 23 [] (.op 24 [] .done)))) (by decide +kernel) ?_ | refine n1 ?_ | refine nilB_i fun b hb => ?_ | refine nPc (hf 1 1) ?_ | refine nPc (hf 1 0) ?_ | refine nP ?_ ?_ | refine nS fun K hK => ?_ | (refine n2 ?_ ?_ <;> intro h <;> first | subst (h : _ = true) | subst (h : _ = false) | (simp only [FX, LX, hp, hq, f12, f11] at h) | skip) | refine And.intro ?_ ?_ | refine nK ‹Imp _ _› ?_) | exact nl | fail
  · refine Den.pureI Tryz.func22 rfl 2 [.tmp 4] (by kernel_rfl) rfl rfl (by simp only [initE_nil, initE_cons, Nat.reduceAdd]; exact rfl) ?_
    repeat' first | (with_reducible first | refine nx' ?_ (by simp -implicitDefEqProofs (disch := omega) only [go_sem, hp, hq, f12, f11]; exact rfl) | refine n0 ?_ | refine Wp.drawR (by decide +kernel) ?_ | refine Wp.drawSR [1, 3, 4, 5, 6] [false, true, false, true, true, true, true] (.op 1 [2] (.op 3 [] (.op 4 [] (.op 5 [] (.op 6 [] .done))))) (by decide +kernel) ?_ | refine Wp.drawSR [21, 22, 23, 24] [false, false, false, false, false, false, false, false, false, false, false, false, false, false, false, false, false, false, false, false, false, true, true, true, true] (.op 21 [0] (.op 22 [] (.op 23 [] (.op 24 [] .done)))) (by decide +kernel) ?_ | refine n1 ?_ | refine nilB_i fun b hb => ?_ | refine nPc (hf 1 0) ?_ | refine nPc (hf 1 0) ?_ | refine nP ?_ ?_ | refine nS fun K hK => ?_ | (refine n2 ?_ ?_ <;> intro h <;> first | subst (h : _ = true) | subst (h : _ = false) | (simp only [FX, LX, hp, hq, f12, f11] at h) | skip) | refine And.intro ?_ ?_ | refine nK ‹Imp _ _› ?_) | exact nl | fail
  · refine Den.pureI Tryz.func22 rfl 2 [.tmp 4] (by kernel_rfl) rfl rfl (by simp only [initE_nil, initE_cons, Nat.reduceAdd]; exact rfl) ?_
    repeat' first | (with_reducible first | refine nx' ?_ (by simp -implicitDefEqProofs (disch := omega) only [go_sem, hp, hq, f12, f11, f01]; exact rfl) | refine n0 ?_ | refine Wp.drawR (by decide +kernel) ?_ | refine Wp.drawSR [1, 3, 4, 5, 6] [false, true, false, true, true, true, true] (.op 1 [2] (.op 3 [] (.op 4 [] (.op 5 [] (.op 6 [] .done))))) (by decide +kernel) ?_ | refine Wp.drawSR [21, 22, 23, 24] [false, false, false, false, false, false, false, false, false, false, false, false, false, false, false, false, false, false, false, false, false, true, true, true, true] (.op 21 [0] (.op 22 [] (.op 23 [] (.op 24 [] .done)))) (by decide +kernel) ?_ | refine n1 ?_ | refine nilB_i fun b hb => ?_ | refine nPc (hf 0 1) ?_ | refine nPc (hf 1 0) ?_ | refine nP ?_ ?_ | refine nS fun K hK => ?_ | (refine n2 ?_ ?_ <;> intro h <;> first | subst (h : _ = true) | subst (h : _ = false) | (simp only [FX, LX, hp, hq, f12, f11, f01] at h) | skip) | refine And.intro ?_ ?_ | refine nK ‹Imp _ _› ?_) | exact nl | fail
  · by_cases hz : recs.length = 0
    · have hz' : ((recs.length : Int) == 0) = true := by rw [beq_iff_eq]; omega
      refine Den.pureI Tryz.func22 rfl 2 [.tmp 4] (by kernel_rfl) rfl rfl (by simp only [initE_nil, initE_cons, Nat.reduceAdd]; exact rfl) ?_
      repeat' first | (with_reducible first | refine nx' ?_ (by simp -implicitDefEqProofs (disch := omega) only [go_sem, hp, hq, f00, hz']; exact rfl) | refine n0 ?_ | refine Wp.drawR (by decide +kernel) ?_ | refine Wp.drawSR [1, 3, 4, 5, 6] [false, true, false, true, true, true, true] (.op 1 [2] (.op 3 [] (.op 4 [] (.op 5 [] (.op 6 [] .done))))) (by decide +kernel) ?_ | refine Wp.drawSR [21, 22, 23, 24] [false, false, false, false, false, false, false, false, false, false, false, false, false, false, false, false, false, false, false, false, false, true, true, true, true] (.op 21 [0] (.op 22 [] (.op 23 [] (.op 24 [] .done)))) (by decide +kernel) ?_ | refine n1 ?_ | refine nilB_i fun b hb => ?_ | refine nPc (hf 0 0) ?_ | refine nP ?_ ?_ | refine nS fun K hK => ?_ | (refine n2 ?_ ?_ <;> intro h <;> first | subst (h : _ = true) | subst (h : _ = false) | (simp only [FX, LX, hp, hq, f00, hz'] at h) | skip) | refine And.intro ?_ ?_ | refine nK ‹Imp _ _› ?_) | exact nl | fail
      all_goals (first | rfl | rw [if_pos (.inl hz)])
    · have hz' : ((recs.length : Int) == 0) = false := by rw [beq_eq_false_iff_ne]; omega
      by_cases he : (recs.getD 0 rc0).x.length = s.length
      · have he' : (((recs.getD 0 rc0).x.length : Int) == (s.length : Int)) = true := by rw [beq_iff_eq]; omega
        refine Den.pureI Tryz.func22 rfl 2 [.tmp 4] (by kernel_rfl) rfl rfl (by simp only [initE_nil, initE_cons, Nat.reduceAdd]; exact rfl) ?_
        repeat' first | (with_reducible first | refine nx' ?_ (by simp -implicitDefEqProofs (disch := omega) only [go_sem, hp, hq, f00, hz', he']; exact rfl) | refine n0 ?_ | refine Wp.drawR (by decide +kernel) ?_ | refine Wp.drawSR [1, 3, 4, 5, 6] [false, true, false, true, true, true, true] (.op 1 [2] (.op 3 [] (.op 4 [] (.op 5 [] (.op 6 [] .done))))) (by decide +kernel) ?_ | refine Wp.drawSR [21, 22, 23, 24] [false, false, false, false, false, false, false, false, false, false, false, false, false, false, false, false, false, false, false, false, false, true, true, true, true] (.op 21 [0] (.op 22 [] (.op 23 [] (.op 24 [] .done)))) (by decide +kernel) ?_ | refine n1 ?_ | refine nilB_i fun b hb => ?_ | refine nPc (hf 0 0) ?_ | refine nP ?_ ?_ | refine nS fun K hK => ?_ | (refine n2 ?_ ?_ <;> intro h <;> first | subst (h : _ = true) | subst (h : _ = false) | (simp only [FX, LX, hp, hq, f00, hz', he'] at h) | skip) | refine And.intro ?_ ?_ | refine nK ‹Imp _ _› ?_) | exact nl | fail
        all_goals (first | rfl | rw [if_pos (.inr he)])
      · have he' : (((recs.getD 0 rc0).x.length : Int) == (s.length : Int)) = false := by rw [beq_eq_false_iff_ne]; omega
        refine Den.pureI Tryz.func22 rfl 2 [.tmp 4] (by kernel_rfl) rfl rfl (by simp only [initE_nil, initE_cons, Nat.reduceAdd]; exact rfl) ?_
        repeat' first | (with_reducible first | refine nx' ?_ (by simp -implicitDefEqProofs (disch := omega) only [go_sem, hp, hq, f00, f08, hz', he']; exact rfl) | refine n0 ?_ | refine Wp.drawR (by decide +kernel) ?_ | refine Wp.drawSR [1, 3, 4, 5, 6] [false, true, false, true, true, true, true] (.op 1 [2] (.op 3 [] (.op 4 [] (.op 5 [] (.op 6 [] .done))))) (by decide +kernel) ?_ | refine Wp.drawSR [21, 22, 23, 24] [false, false, false, false, false, false, false, false, false, false, false, false, false, false, false, false, false, false, false, false, false, true, true, true, true] (.op 21 [0] (.op 22 [] (.op 23 [] (.op 24 [] .done)))) (by decide +kernel) ?_ | refine n1 ?_ | refine nilB_i fun b hb => ?_ | refine nPc (hf 0 0) ?_ | refine nPc (hf 0 8) ?_ | refine nP ?_ ?_ | refine nS fun K hK => ?_ | (refine n2 ?_ ?_ <;> intro h <;> first | subst (h : _ = true) | subst (h : _ = false) | (simp only [FX, LX, hp, hq, f00, f08, hz', he'] at h) | skip) | refine And.intro ?_ ?_ | refine nK ‹Imp _ _› ?_) | exact nl | fail
        all_goals (first | rfl | rw [if_neg (by rintro (q | q); exact hz q; exact he q)])
theorem askS_c (f : List Nd) (s l w : List Rt) (so : Int) (g : Bool) (u v : List Int) (it ba st : Int) (recs : List Rc) (hb : bPb ⟨f, s, l, w, so, ⟨g, u, v⟩, it, ba⟩) (hr : bRcs recs) :
    CC 16 [.d (pbD f s l w so g u v it ba), .d (.agg [.i st, .sl (recs.map encRc)])] [] (.d (.i (askC ⟨f, s, l, w, so, ⟨g, u, v⟩, it, ba⟩ ⟨st, recs⟩))) [] := by
  have hs : s.length ≤ 1048576 := hb.2.1.1
  have hn : recs.length ≤ 1048576 := hr.1
  have h0 := hr.get 0
  have h00 : (recs.getD 0 rc0).x.length ≤ 1048576 := h0.1.1
  unfold askC
  cases hp : okPb ⟨f, s, l, w, so, ⟨g, u, v⟩, it, ba⟩ <;> cases hq : okRp ⟨st, recs⟩
  · refine Den.pureI Tryz.func16 rfl 2 [.tmp 4] (by kernel_rfl) rfl rfl (by simp only [initE_nil, initE_cons, Nat.reduceAdd]; exact rfl) ?_
    repeat' first | (with_reducible first | refine nx' ?_ (by simp -implicitDefEqProofs (disch := omega) only [go_sem, hp, hq]; exact rfl) | refine n0 ?_ | refine rD ?_ | refine n1 ?_ | refine nilB_i fun b hb => ?_ | refine nP ?_ ?_ | refine nS fun K hK => ?_ | (refine n2 ?_ ?_ <;> intro h <;> first | subst (h : _ = true) | subst (h : _ = false) | (simp only [FX, LX, hp, hq] at h) | skip) | refine And.intro ?_ ?_ | refine nK ‹Imp _ _› ?_) | exact nl | fail
    all_goals (first | rfl | (exfalso; omega) | skip)
  · refine Den.pureI Tryz.func16 rfl 2 [.tmp 4] (by kernel_rfl) rfl rfl (by simp only [initE_nil, initE_cons, Nat.reduceAdd]; exact rfl) ?_
    repeat' first | (with_reducible first | refine nx' ?_ (by simp -implicitDefEqProofs (disch := omega) only [go_sem, hp, hq]; exact rfl) | refine n0 ?_ | refine rD ?_ | refine n1 ?_ | refine nilB_i fun b hb => ?_ | refine nP ?_ ?_ | refine nS fun K hK => ?_ | (refine n2 ?_ ?_ <;> intro h <;> first | subst (h : _ = true) | subst (h : _ = false) | (simp only [FX, LX, hp, hq] at h) | skip) | refine And.intro ?_ ?_ | refine nK ‹Imp _ _› ?_) | exact nl | fail
    all_goals (first | rfl | (exfalso; omega) | skip)
  · refine Den.pureI Tryz.func16 rfl 2 [.tmp 4] (by kernel_rfl) rfl rfl (by simp only [initE_nil, initE_cons, Nat.reduceAdd]; exact rfl) ?_
    repeat' first | (with_reducible first | refine nx' ?_ (by simp -implicitDefEqProofs (disch := omega) only [go_sem, hp, hq]; exact rfl) | refine n0 ?_ | refine rD ?_ | refine n1 ?_ | refine nilB_i fun b hb => ?_ | refine nP ?_ ?_ | refine nS fun K hK => ?_ | (refine n2 ?_ ?_ <;> intro h <;> first | subst (h : _ = true) | subst (h : _ = false) | (simp only [FX, LX, hp, hq] at h) | skip) | refine And.intro ?_ ?_ | refine nK ‹Imp _ _› ?_) | exact nl | fail
    all_goals (first | rfl | (exfalso; omega) | skip)
  · refine Den.pureI Tryz.func16 rfl 2 [.tmp 4] (by kernel_rfl) rfl rfl (by simp only [initE_nil, initE_cons, Nat.reduceAdd]; exact rfl) ?_
    repeat' first | (with_reducible first | refine nx' ?_ (by simp -implicitDefEqProofs (disch := omega) only [go_sem, hp, hq]; exact rfl) | refine n0 ?_ | refine rD ?_ | refine n1 ?_ | refine nilB_i fun b hb => ?_ | refine nP ?_ ?_ | refine nS fun K hK => ?_ | (refine n2 ?_ ?_ <;> intro h <;> first | subst (h : _ = true) | subst (h : _ = false) | (simp only [FX, LX, hp, hq] at h) | skip) | refine And.intro ?_ ?_ | refine nK ‹Imp _ _› ?_) | exact nl | fail
    all_goals first
      | (rw [if_pos (by omega)]; done)
      | (rw [if_neg (by omega)]; done)
      | skip
end Go.PL
