/- A plain machine, sound for the given model, and contracts of functions over it, part 52: XG5 XG6 XA1 XA2. Nothing is assumed. -/
import Derived.Test.YtldgmfplnlnhcaaGreatG37
import Derived.Test.YtldgmfplnlnhcaaGreatXG4
import Derived.Test.YtldgmfplnlnhcaaGreatPBc1
set_option linter.unusedSimpArgs false
set_option linter.unusedVariables false
set_option linter.unusedSectionVars false
/- XG5 -/
namespace Go.PL
open Go Go.Proofs
set_option maxRecDepth 10000
set_option maxHeartbeats 4000000
set_option linter.unusedSimpArgs false
set_option linter.unusedVariables false
instance (f : List Nd) (s l w : List Rt) (so : Int) (g : Bool) (u v : List Int) (it ba : Int) : Con CC 46 [.d (pbD f s l w so g u v it ba)] (bPb ⟨f, s, l, w, so, ⟨g, u, v⟩, it, ba⟩) (.d (.i (if okPb ⟨f, s, l, w, so, ⟨g, u, v⟩, it, ba⟩ then 0 else 1))) := by
  constructor; intro hb
  refine Den.pureI Tryz.func46 rfl 1 [.tmp 2] (by kernel_rfl) rfl rfl (by simp only [initE_nil, initE_cons, Nat.reduceAdd]; exact rfl) ?_
  repeat' first | (with_reducible first | refine nx' ?_ | refine n0 ?_ | refine rD ?_ | refine n1 ?_ | refine nilB_i fun b hb => ?_ | refine nP ?_ ?_ | refine nS fun K hK => ?_ | (refine n2 ?_ ?_ <;> intro h <;> first | subst (h : _ = true) | subst (h : _ = false) | skip) | refine And.intro ?_ ?_ | refine nK ‹Imp _ _› ?_) | exact nl | fail
def askC (p : Pb) (r : Rp) : Int := if okPb p = true ∧ okRp r = true then (if r.recs.length = 0 ∨ (r.recs.getD 0 rc0).x.length = p.start.length then 0 else 8) else 1
theorem auditC_c (f : List Nd) (s l w : List Rt) (so : Int) (g : Bool) (u v : List Int) (it ba st : Int) (recs : List Rc) (hb : bPb ⟨f, s, l, w, so, ⟨g, u, v⟩, it, ba⟩) (hr : bRcs recs) :
    CC 22 [.d (pbD f s l w so g u v it ba), .d (.agg [.i st, .sl (recs.map encRc)])] [] (.d (.i (askC ⟨f, s, l, w, so, ⟨g, u, v⟩, it, ba⟩ ⟨st, recs⟩))) [] := by
  have hf : ∀ a b : Int, CC 45 [.d (.sl [.i a, .i b])] [] (.d (.i (firstI [a, b]))) [] := fun a b => Con.ok (C := CC) (n := 45) (vs := [.d (.sl ([a, b].map .i))]) (by simp)
  have hs : s.length ≤ 1048576 := hb.2.1.1
  have hn : recs.length ≤ 1048576 := hr.1
  have h0 := hr.get 0
  have h00 : (recs.getD 0 rc0).x.length ≤ 1048576 := h0.1.1
  have f11 : firstI [1, 0] = 1 := rfl
  have f12 : firstI [1, 1] = 1 := rfl
  have f01 : firstI [0, 1] = 1 := rfl
  have f00 : firstI [0, 0] = 0 := rfl
  have f08 : firstI [0, 8] = 8 := rfl
  unfold askC
  cases hp : okPb ⟨f, s, l, w, so, ⟨g, u, v⟩, it, ba⟩ <;> cases hq : okRp ⟨st, recs⟩
  · refine Den.pureI Tryz.func22 rfl 2 [.tmp 4] (by kernel_rfl) rfl rfl (by simp only [initE_nil, initE_cons, Nat.reduceAdd]; exact rfl) ?_
    repeat' first | (with_reducible first | refine nx' ?_ (by simp -implicitDefEqProofs (disch := omega) only [go_sem, hp, hq, f12, f11]; exact rfl) | refine n0 ?_ | refine Wp.drawR (by decide +kernel) ?_ | refine Wp.drawSR [1, 3, 4, 5, 6] [false, true, false, true, true, true, true] (.op 1 [2] (.op 3 [] (.op 4 [] (.op 5 [] (.op 6 [] .done))))) (by decide +kernel) ?_ | refine Wp.drawSR [21, 22, 23, 24] [false, false, false, false, false, false, false, false, false, false, false, false, false, false, false, false, false, false, false, false, false, true, true, true, true] (.op 21 [0] (.op 22 [] (.op 23 [] (.op 24 [] .done)))) (by decide +kernel) ?_ | refine n1 ?_ | refine nilB_i fun b hb => ?_ | refine nPc (hf 1 1) ?_ | refine nPc (hf 1 0) ?_ | refine nP ?_ ?_ | refine nS fun K hK => ?_ | (refine n2 ?_ ?_ <;> intro h <;> first | subst (h : _ = true) | subst (h : _ = false) | (simp only [FX, LX, hp, hq, f12, f11] at h) | skip) | refine And.intro ?_ ?_ | refine nK ‹Imp _ _› ?_) | exact nl | fail
  · refine Den.pureI Tryz.func22 rfl 2 [.tmp 4] (by kernel_rfl) rfl rfl (by simp only [initE_nil, initE_cons, Nat.reduceAdd]; exact rfl) ?_
    repeat' first | (with_reducible first | refine nx' ?_ (by simp -implicitDefEqProofs (disch := omega) only [go_sem, hp, hq, f12, f11]; exact rfl) | refine n0 ?_ | refine Wp.drawR (by decide +kernel) ?_ | refine Wp.drawSR [1, 3, 4, 5, 6] [false, true, false, true, true, true, true] (.op 1 [2] (.op 3 [] (.op 4 [] (.op 5 [] (.op 6 [] .done))))) (by decide +kernel) ?_ | refine Wp.drawSR [21, 22, 23, 24] [false, false, false, false, false, false, false, false, false, false, false, false, false, false, false, false, false, false, false, false, false, true, true, true, true] (.op 21 [0] (.op 22 [] (.op 23 [] (.op 24 [] .done)))) (by decide +kernel) ?_ | refine n1 ?_ | refine nilB_i fun b hb => ?_ | refine nPc (hf 1 0) ?_ | refine nPc (hf 1 0) ?_ | refine nP ?_ ?_ | refine nS fun K hK => ?_ | (refine n2 ?_ ?_ <;> intro h <;> first | subst (h : _ = true) | subst (h : _ = false) | (simp only [FX, LX, hp, hq, f12, f11] at h) | skip) | refine And.intro ?_ ?_ | refine nK ‹Imp _ _› ?_) | exact nl | fail
  · refine Den.pureI Tryz.func22 rfl 2 [.tmp 4] (by kernel_rfl) rfl rfl (by simp only [initE_nil, initE_cons, Nat.reduceAdd]; exact rfl) ?_
    repeat' first | (with_reducible first | refine nx' ?_ (by simp -implicitDefEqProofs (disch := omega) only [go_sem, hp, hq, f12, f11, f01]; exact rfl) | refine n0 ?_ | refine Wp.drawR (by decide +kernel) ?_ | refine Wp.drawSR [1, 3, 4, 5, 6] [false, true, false, true, true, true, true] (.op 1 [2] (.op 3 [] (.op 4 [] (.op 5 [] (.op 6 [] .done))))) (by decide +kernel) ?_ | refine Wp.drawSR [21, 22, 23, 24] [false, false, false, false, false, false, false, false, false, false, false, false, false, false, false, false, false, false, false, false, false, true, true, true, true] (.op 21 [0] (.op 22 [] (.op 23 [] (.op 24 [] .done)))) (by decide +kernel) ?_ | refine n1 ?_ | refine nilB_i fun b hb => ?_ | refine nPc (hf 0 1) ?_ | refine nPc (hf 1 0) ?_ | refine nP ?_ ?_ | refine nS fun K hK => ?_ | (refine n2 ?_ ?_ <;> intro h <;> first | subst (h : _ = true) | subst (h : _ = false) | (simp only [FX, LX, hp, hq, f12, f11, f01] at h) | skip) | refine And.intro ?_ ?_ | refine nK ‹Imp _ _› ?_) | exact nl | fail
  · by_cases hz : recs.length = 0
    · have hz' : ((recs.length : Int) == 0) = true := by rw [beq_iff_eq]; omega
      refine Den.pureI Tryz.func22 rfl 2 [.tmp 4] (by kernel_rfl) rfl rfl (by simp only [initE_nil, initE_cons, Nat.reduceAdd]; exact rfl) ?_
      repeat' first | (with_reducible first | refine nx' ?_ (by simp -implicitDefEqProofs (disch := omega) only [go_sem, hp, hq, f00, hz']; exact rfl) | refine n0 ?_ | refine Wp.drawR (by decide +kernel) ?_ | refine Wp.drawSR [1, 3, 4, 5, 6] [false, true, false, true, true, true, true] (.op 1 [2] (.op 3 [] (.op 4 [] (.op 5 [] (.op 6 [] .done))))) (by decide +kernel) ?_ | refine Wp.drawSR [21, 22, 23, 24] [false, false, false, false, false, false, false, false, false, false, false, false, false, false, false, false, false, false, false, false, false, true, true, true, true] (.op 21 [0] (.op 22 [] (.op 23 [] (.op 24 [] .done)))) (by decide +kernel) ?_ | refine n1 ?_ | refine nilB_i fun b hb => ?_ | refine nPc (hf 0 0) ?_ | refine nP ?_ ?_ | refine nS fun K hK => ?_ | (refine n2 ?_ ?_ <;> intro h <;> first | subst (h : _ = true) | subst (h : _ = false) | (simp only [FX, LX, hp, hq, f00, hz'] at h) | skip) | refine And.intro ?_ ?_ | refine nK ‹Imp _ _› ?_) | exact nl | fail
      all_goals (first | rfl | rw [if_pos (.inl hz)])
    · have hz' : ((recs.length : Int) == 0) = false := by rw [beq_eq_false_iff_ne]; omega
      by_cases he : (recs.getD 0 rc0).x.length = s.length
      · have he' : (((recs.getD 0 rc0).x.length : Int) == (s.length : Int)) = true := by rw [beq_iff_eq]; omega
        refine Den.pureI Tryz.func22 rfl 2 [.tmp 4] (by kernel_rfl) rfl rfl (by simp only [initE_nil, initE_cons, Nat.reduceAdd]; exact rfl) ?_
        repeat' first | (with_reducible first | refine nx' ?_ (by simp -implicitDefEqProofs (disch := omega) only [go_sem, hp, hq, f00, hz', he']; exact rfl) | refine n0 ?_ | refine Wp.drawR (by decide +kernel) ?_ | refine Wp.drawSR [1, 3, 4, 5, 6] [false, true, false, true, true, true, true] (.op 1 [2] (.op 3 [] (.op 4 [] (.op 5 [] (.op 6 [] .done))))) (by decide +kernel) ?_ | refine Wp.drawSR [21, 22, 23, 24] [false, false, false, false, false, false, false, false, false, false, false, false, false, false, false, false, false, false, false, false, false, true, true, true, true] (.op 21 [0] (.op 22 [] (.op 23 [] (.op 24 [] .done)))) (by decide +kernel) ?_ | refine n1 ?_ | refine nilB_i fun b hb => ?_ | refine nPc (hf 0 0) ?_ | refine nP ?_ ?_ | refine nS fun K hK => ?_ | (refine n2 ?_ ?_ <;> intro h <;> first | subst (h : _ = true) | subst (h : _ = false) | (simp only [FX, LX, hp, hq, f00, hz', he'] at h) | skip) | refine And.intro ?_ ?_ | refine nK ‹Imp _ _› ?_) | exact nl | fail
        all_goals (first | rfl | rw [if_pos (.inr he)])
      · have he' : (((recs.getD 0 rc0).x.length : Int) == (s.length : Int)) = false := by rw [beq_eq_false_iff_ne]; omega
        refine Den.pureI Tryz.func22 rfl 2 [.tmp 4] (by kernel_rfl) rfl rfl (by simp only [initE_nil, initE_cons, Nat.reduceAdd]; exact rfl) ?_
        repeat' first | (with_reducible first | refine nx' ?_ (by simp -implicitDefEqProofs (disch := omega) only [go_sem, hp, hq, f00, f08, hz', he']; exact rfl) | refine n0 ?_ | refine Wp.drawR (by decide +kernel) ?_ | refine Wp.drawSR [1, 3, 4, 5, 6] [false, true, false, true, true, true, true] (.op 1 [2] (.op 3 [] (.op 4 [] (.op 5 [] (.op 6 [] .done))))) (by decide +kernel) ?_ | refine Wp.drawSR [21, 22, 23, 24] [false, false, false, false, false, false, false, false, false, false, false, false, false, false, false, false, false, false, false, false, false, true, true, true, true] (.op 21 [0] (.op 22 [] (.op 23 [] (.op 24 [] .done)))) (by decide +kernel) ?_ | refine n1 ?_ | refine nilB_i fun b hb => ?_ | refine nPc (hf 0 0) ?_ | refine nPc (hf 0 8) ?_ | refine nP ?_ ?_ | refine nS fun K hK => ?_ | (refine n2 ?_ ?_ <;> intro h <;> first | subst (h : _ = true) | subst (h : _ = false) | (simp only [FX, LX, hp, hq, f00, f08, hz', he'] at h) | skip) | refine And.intro ?_ ?_ | refine nK ‹Imp _ _› ?_) | exact nl | fail
        all_goals (first | rfl | rw [if_neg (by rintro (q | q); exact hz q; exact he q)])
theorem askS_c (f : List Nd) (s l w : List Rt) (so : Int) (g : Bool) (u v : List Int) (it ba st : Int) (recs : List Rc) (hb : bPb ⟨f, s, l, w, so, ⟨g, u, v⟩, it, ba⟩) (hr : bRcs recs) :
    CC 16 [.d (pbD f s l w so g u v it ba), .d (.agg [.i st, .sl (recs.map encRc)])] [] (.d (.i (askC ⟨f, s, l, w, so, ⟨g, u, v⟩, it, ba⟩ ⟨st, recs⟩))) [] := by
  have hs : s.length ≤ 1048576 := hb.2.1.1
  have hn : recs.length ≤ 1048576 := hr.1
  have h0 := hr.get 0
  have h00 : (recs.getD 0 rc0).x.length ≤ 1048576 := h0.1.1
  unfold askC
  cases hp : okPb ⟨f, s, l, w, so, ⟨g, u, v⟩, it, ba⟩ <;> cases hq : okRp ⟨st, recs⟩
  · refine Den.pureI Tryz.func16 rfl 2 [.tmp 4] (by kernel_rfl) rfl rfl (by simp only [initE_nil, initE_cons, Nat.reduceAdd]; exact rfl) ?_
    repeat' first | (with_reducible first | refine nx' ?_ (by simp -implicitDefEqProofs (disch := omega) only [go_sem, hp, hq]; exact rfl) | refine n0 ?_ | refine rD ?_ | refine n1 ?_ | refine nilB_i fun b hb => ?_ | refine nP ?_ ?_ | refine nS fun K hK => ?_ | (refine n2 ?_ ?_ <;> intro h <;> first | subst (h : _ = true) | subst (h : _ = false) | (simp only [FX, LX, hp, hq] at h) | skip) | refine And.intro ?_ ?_ | refine nK ‹Imp _ _› ?_) | exact nl | fail
    all_goals (first | rfl | (exfalso; omega) | skip)
  · refine Den.pureI Tryz.func16 rfl 2 [.tmp 4] (by kernel_rfl) rfl rfl (by simp only [initE_nil, initE_cons, Nat.reduceAdd]; exact rfl) ?_
    repeat' first | (with_reducible first | refine nx' ?_ (by simp -implicitDefEqProofs (disch := omega) only [go_sem, hp, hq]; exact rfl) | refine n0 ?_ | refine rD ?_ | refine n1 ?_ | refine nilB_i fun b hb => ?_ | refine nP ?_ ?_ | refine nS fun K hK => ?_ | (refine n2 ?_ ?_ <;> intro h <;> first | subst (h : _ = true) | subst (h : _ = false) | (simp only [FX, LX, hp, hq] at h) | skip) | refine And.intro ?_ ?_ | refine nK ‹Imp _ _› ?_) | exact nl | fail
    all_goals (first | rfl | (exfalso; omega) | skip)
  · refine Den.pureI Tryz.func16 rfl 2 [.tmp 4] (by kernel_rfl) rfl rfl (by simp only [initE_nil, initE_cons, Nat.reduceAdd]; exact rfl) ?_
    repeat' first | (with_reducible first | refine nx' ?_ (by simp -implicitDefEqProofs (disch := omega) only [go_sem, hp, hq]; exact rfl) | refine n0 ?_ | refine rD ?_ | refine n1 ?_ | refine nilB_i fun b hb => ?_ | refine nP ?_ ?_ | refine nS fun K hK => ?_ | (refine n2 ?_ ?_ <;> intro h <;> first | subst (h : _ = true) | subst (h : _ = false) | (simp only [FX, LX, hp, hq] at h) | skip) | refine And.intro ?_ ?_ | refine nK ‹Imp _ _› ?_) | exact nl | fail
    all_goals (first | rfl | (exfalso; omega) | skip)
  · refine Den.pureI Tryz.func16 rfl 2 [.tmp 4] (by kernel_rfl) rfl rfl (by simp only [initE_nil, initE_cons, Nat.reduceAdd]; exact rfl) ?_
    repeat' first | (with_reducible first | refine nx' ?_ (by simp -implicitDefEqProofs (disch := omega) only [go_sem, hp, hq]; exact rfl) | refine n0 ?_ | refine rD ?_ | refine n1 ?_ | refine nilB_i fun b hb => ?_ | refine nP ?_ ?_ | refine nS fun K hK => ?_ | (refine n2 ?_ ?_ <;> intro h <;> first | subst (h : _ = true) | subst (h : _ = false) | (simp only [FX, LX, hp, hq] at h) | skip) | refine And.intro ?_ ?_ | refine nK ‹Imp _ _› ?_) | exact nl | fail
    all_goals first
      | (rw [if_pos (by omega)]; done)
      | (rw [if_neg (by omega)]; done)
      | skip
end Go.PL

/- XG6 -/
namespace Go.PL
open Go Go.Proofs
set_option maxRecDepth 10000
set_option maxHeartbeats 4000000
set_option linter.unusedSimpArgs false
set_option linter.unusedVariables false
theorem okVec_len0 {l : List Rt} (h : okVec l = true) : 1 ≤ l.length := by
  unfold okVec at h
  rw [decide_eq_true_eq] at h
  exact h.1
/-- A right problem's numbers are numbers. -/
theorem okPb_X {f : List Nd} {s l w : List Rt} {so : Int} {g : Bool} {u v : List Int} {it ba : Int} (h : okPb ⟨f, s, l, w, so, ⟨g, u, v⟩, it, ba⟩ = true) :
    okE f = true ∧ dimN f ≤ s.length ∧ s.length ≤ 4 ∧ ∃ (sx lx ux : List Rat) (e : Rat), s = sx.map rtR ∧ l = lx.map rtR ∧ w = ux.map rtR ∧ (⟨g, u, v⟩ : Rt) = rtR e ∧ LnV 40 sx ∧ boxV s.length lx ux ∧ Ln 40 e := by
  obtain ⟨h1, h2, h3, h4, h5, h6, h7, h8, h9, h10, h11, h12⟩ := okPb_iff.1 h
  obtain ⟨sx, es, hs⟩ := okVec_R h2
  obtain ⟨e, ee, he⟩ := okRat_R h6
  have h4 := (okVec_parts h2).1
  refine ⟨h1, h3, h4, ?_⟩
  rcases h12 with ⟨k1, k2⟩ | ⟨k1, k2, k3, k4, _, _⟩
  · refine ⟨sx, [], [], e, es, List.eq_nil_of_length_eq_zero k1, List.eq_nil_of_length_eq_zero k2, ee, hs, ⟨h4, .inl rfl, ?_, ?_⟩, he⟩ <;> (intro x hx; cases hx)
  · obtain ⟨lx, el, hl⟩ := okVec_R k1
    obtain ⟨ux, eu, hu⟩ := okVec_R k2
    refine ⟨sx, lx, ux, e, es, el, eu, ee, hs, ⟨h4, .inr ⟨?_, ?_⟩, hl, hu⟩, he⟩
    · rw [← k3, el, List.length_map]
    · rw [← k4, eu, List.length_map]
theorem pbD_X {f : List Nd} {s l w : List Rt} {so : Int} {g : Bool} {u v : List Int} {it ba : Int} {sx lx ux : List Rat} {e : Rat} (h1 : s = sx.map rtR) (h2 : l = lx.map rtR) (h3 : w = ux.map rtR) (h4 : (⟨g, u, v⟩ : Rt) = rtR e) :
    pbD f s l w so g u v it ba = pxD f sx lx ux so e it ba := by
  subst h1 h2 h3
  unfold rtR at h4
  injection h4 with a b c
  subst a b c
  simp only [pbD, pxD, enc_rtR]
theorem okRp_at {st : Int} {recs : List Rc} (h : okRp ⟨st, recs⟩ = true) {t : Nat} (ht : t < recs.length) : okRc (recs.getD t rc0) = true ∧ (recs.getD t rc0).iter = t ∧ (recs.getD t rc0).x.length = (recs.getD 0 rc0).x.length := by
  unfold okRp at h
  rw [decide_eq_true_eq] at h
  exact h.2.2.2 t ht
theorem okRc_x {r : Rc} (h : okRc r = true) : okVec r.x = true ∧ okRat r.f = true := by
  unfold okRc at h
  rw [Bool.and_eq_true, Bool.and_eq_true] at h
  exact ⟨h.1.2, h.2⟩
theorem claims_c (f : List Nd) (s l w : List Rt) (so : Int) (g : Bool) (u v : List Int) (it ba st : Int) (recs : List Rc) (hp : okPb ⟨f, s, l, w, so, ⟨g, u, v⟩, it, ba⟩ = true) (hr : okRp ⟨st, recs⟩ = true) (hl : recs.length = 0 ∨ (recs.getD 0 rc0).x.length = s.length) :
    ∃ b : Bool, CC 41 [.d (pbD f s l w so g u v it ba), .d (.agg [.i st, .sl (recs.map encRc)])] [] (.d (.b b)) [] ∧ CC 26 [.d (.agg [.i st, .sl (recs.map encRc)]), .d (pbD f s l w so g u v it ba)] [] (.d (.b b)) [] := by
  obtain ⟨h1, h2, h3, sx, lx, ux, e, es, el, eu, ee, hs, hb, he⟩ := okPb_X hp
  have hD := pbD_X (f := f) (so := so) (it := it) (ba := ba) es el eu ee
  have hn : recs.length ≤ 7 := by
    unfold okRp at hr
    rw [decide_eq_true_eq] at hr
    exact hr.2.2.1
  rw [hD]
  rcases Nat.eq_zero_or_pos recs.length with h0 | h0
  · exact ⟨_, claimS_c (x := []) (fun q => by omega) hn, claimI_c (x := []) (fun q => by omega) hn⟩
  · obtain ⟨k1, k2, k3⟩ := okRp_at hr (show recs.length - 1 < recs.length by omega)
    obtain ⟨xs, ex, hx⟩ := okVec_R (okRc_x k1).1
    have hlen : xs.length = s.length := by
      have : (recs.getD (recs.length - 1) rc0).x.length = xs.length := by rw [ex, List.length_map]
      omega
    have hc : ClP f lx ux e xs := ⟨h1, he, by rw [hlen]; exact hb, by rw [← ex]; exact (okRc_x k1).1, hx, by rw [hlen]; exact h2⟩
    exact ⟨_, claimS_c (fun _ => ⟨ex, hc⟩) hn, claimI_c (fun _ => ⟨ex, hc⟩) hn⟩
theorem askC_zero {p : Pb} {r : Rp} (h : askC p r = 0) : okPb p = true ∧ okRp r = true ∧ (r.recs.length = 0 ∨ (r.recs.getD 0 rc0).x.length = p.start.length) := by
  unfold askC at h
  split at h
  · rename_i q
    split at h
    · rename_i q2; exact ⟨q.1, q.2, q2⟩
    · cases h
  · cases h
end Go.PL

/- XA1 -/
namespace Go.PL
open Go Go.Proofs
set_option maxRecDepth 10000
set_option maxHeartbeats 4000000
set_option linter.unusedSimpArgs false
set_option linter.unusedVariables false
def j0 (c : Rat × List Rat) : Rat × Rat := (c.1, 0)
theorem j0_getD {out : List (Rat × List Rat)} {k : Nat} : (out.map j0).getD k (0, 0) = j0 (out.getD k (0, [])) := by
  unfold j0
  simp only [List.getD, List.getElem?_map]
  cases out[k]? <;> simp
section
variable {x z : List Rat}
theorem node_0 (hz : ∀ i, z.getD i 0 = 0) (out : List (Rat × List Rat)) (n : Nd) : sNode x z (out.map j0) n = (iNode 0 x out n).map j0 := by
  unfold sNode iNode
  simp only [j0_getD, hz]
  generalize out.getD n.a.toNat (0, []) = a
  generalize out.getD n.b.toNat (0, []) = b
  by_cases h1 : n.op = 1
  · simp only [if_pos h1, Except.map, j0]
  by_cases h2 : n.op = 2
  · simp only [if_neg h1, if_pos h2, Except.map, j0]
  by_cases h3 : n.op = 3
  · simp only [if_neg h1, if_neg h2, if_pos h3, Except.map, jAdd, j0, Except.ok.injEq, Prod.mk.injEq]; grind
  by_cases h4 : n.op = 4
  · simp only [if_neg h1, if_neg h2, if_neg h3, if_pos h4, Except.map, jAdd, jNeg, j0, Except.ok.injEq, Prod.mk.injEq]; grind
  by_cases h5 : n.op = 5
  · simp only [if_neg h1, if_neg h2, if_neg h3, if_neg h4, if_pos h5, Except.map, jMul, j0, Except.ok.injEq, Prod.mk.injEq]; grind
  by_cases h6 : n.op = 6
  · simp only [if_neg h1, if_neg h2, if_neg h3, if_neg h4, if_neg h5, if_pos h6]
    by_cases h0 : b.1 = 0
    · simp [j0, h0, Except.map]
    · simp only [j0, h0, if_false, Except.map, jOver, jMul, Except.ok.injEq, Prod.mk.injEq, true_and]; grind
  by_cases h7 : n.op = 7
  · simp only [if_neg h1, if_neg h2, if_neg h3, if_neg h4, if_neg h5, if_neg h6, if_pos h7, Except.map, jNeg, j0, Except.ok.injEq, Prod.mk.injEq]; grind
  · simp only [if_neg h1, if_neg h2, if_neg h3, if_neg h4, if_neg h5, if_neg h6, if_neg h7, Except.map, jPow_eq, j0, Except.ok.injEq, Prod.mk.injEq]; grind
theorem step_0 (hz : ∀ i, z.getD i 0 = 0) (out : List (Rat × List Rat)) (n : Nd) : sStep fitX x z (out.map j0) n = (iStep fitX 0 x out n).map j0 := by
  unfold sStep iStep
  rw [node_0 hz]
  cases hn : iNode 0 x out n with
  | error e => rfl
  | ok c =>
    have h2 : c.2 = [] := List.eq_nil_of_length_eq_zero (iNode_len hn)
    simp only [Except.map, j0, h2, List.all_nil, fitX_zero, Bool.and_true]
    cases fitX c.1 <;> simp
theorem eval_0 (hz : ∀ i, z.getD i 0 = 0) : ∀ (l : List Nd) (out : List (Rat × List Rat)), sEval fitX x z l (out.map j0) = (iEval fitX 0 x l out).map (List.map j0)
  | [], out => rfl
  | n :: r, out => by
    unfold sEval iEval
    rw [step_0 hz]
    cases iStep fitX 0 x out n with
    | error e => rfl
    | ok c =>
      have := eval_0 hz r (out ++ [c])
      rw [List.map_append] at this
      exact this
end
/-- An expression's value. -/
def valI (x : List Rat) (l : List Nd) : Except Int Rat := match iEval fitX 0 x l [] with
  | .ok R => .ok (lastJ R).1
  | .error e => .error e
def vlV : Except Int Rat → V
  | .ok f => .tup [xV f, .d (.i 0)]
  | .error e => .tup [.d (.agg [.b false, .sl [], .sl []]), .d (.i e)]
theorem valI_Ln {x : List Rat} {l : List Nd} (h0 : 0 < l.length) {f : Rat} (h : valI x l = .ok f) : Ln 40 f := by
  unfold valI at h
  cases he : iEval fitX 0 x l [] with
  | error e => rw [he] at h; cases h
  | ok R =>
    rw [he] at h
    cases h
    have hR := iEval_inv (by simp) he
    exact (lastJ_ok (by rw [hR.1]; simp; exact h0) hR.2).1
theorem valI_err {x : List Rat} {l : List Nd} {e : Int} (h : valI x l = .error e) : (e != 0) = true := by
  unfold valI at h
  cases he : iEval fitX 0 x l [] with
  | error e2 => rw [he] at h; cases h; exact iEval_err he
  | ok R => rw [he] at h; cases h
theorem valueI_c {x : List Rat} {l : List Nd} (h : NPs x l) (hl : okE l = true) (hx : okVec (x.map rtR) = true) (hd : dimN l ≤ x.length) : CC 52 [.d (.agg [.sl (l.map encNd)]), vV x] [] (vlV (valI x l)) [] := by
  have hp := pointCode_c hl hx h.1 hd
  have hj : CC 83 [.d (.agg [.i 0, .nil]), .d (.agg [.sl (l.map encNd)]), vV x] [] (jatV (iEval fitX 0 x l [])) [] := jetAt_c (h.gp (m := 0) (by omega)) h.2.2.2.1
  unfold valI
  cases he : iEval fitX 0 x l [] with
  | error e =>
    have hn := iEval_err he
    rw [he] at hj
    unfold jatV at hj
    simp only at hj
    show CC _ _ _ (.tup [.d (.agg [.b false, .sl [], .sl []]), .d (.i e)]) _
    refine Den.pureI Tryz.func52 rfl 2 [.cell 4 42, .tmp 5] (by kernel_rfl) rfl rfl (by simp only [initE_nil, initE_cons, Nat.reduceAdd]; exact rfl) ?_
    repeat' first | (with_reducible first | refine nx' ?_ (by simp -implicitDefEqProofs (disch := omega) only [go_sem, hn]; exact rfl) | refine n0 ?_ | refine rD ?_ | refine n1 ?_ | refine nilB_i fun b hb => ?_ | refine nPc (hp) ?_ | refine nPc (hj) ?_ | refine nP ?_ ?_ | refine nS fun K hK => ?_ | (refine n2 ?_ ?_ <;> intro h <;> first | subst (h : _ = true) | subst (h : _ = false) | (simp only [FX, LX, hn] at h) | skip) | refine And.intro ?_ ?_ | refine nK ‹Imp _ _› ?_) | exact nl | fail
  | ok R =>
    have hR := iEval_inv (by simp) he
    have hk := (lastJ_ok (by rw [hR.1]; simp; exact h.2.2.2.1) hR.2).1
    have k1 := Nat.le_trans hk.nu (show 40 ≤ 1048576 by omega)
    have k2 := Nat.le_trans hk.de (show 40 ≤ 1048576 by omega)
    rw [he] at hj
    unfold jatV at hj
    simp only at hj
    show CC _ _ _ (.tup [xV (lastJ R).1, .d (.i 0)]) _
    refine Den.pureI Tryz.func52 rfl 2 [.cell 4 42, .tmp 5] (by kernel_rfl) rfl rfl (by simp only [initE_nil, initE_cons, Nat.reduceAdd]; exact rfl) ?_
    repeat' first | (with_reducible first | refine nx' ?_ | refine n0 ?_ | refine rD ?_ | refine n1 ?_ | refine nilB_i fun b hb => ?_ | refine nPc (hp) ?_ | refine nPc (hj) ?_ | refine nP ?_ ?_ | refine nS fun K hK => ?_ | (refine n2 ?_ ?_ <;> intro h <;> first | subst (h : _ = true) | subst (h : _ = false) | skip) | refine And.intro ?_ ?_ | refine nK ‹Imp _ _› ?_) | exact nl | fail
theorem zeros_Ln {n : Nat} : LnV 40 (alongX n fun _ => 0) := alongX_Ln fun i _ => Ln.zero.mono (by omega)
theorem valueS_c {x : List Rat} {l : List Nd} (h : NPs x l) : CC 36 [.d (.agg [.sl (l.map encNd)]), vV x] [] (vlV (valI x l)) [] := by
  have h4 := h.2.2.1
  have hv := eval_c (h.sp (zeros_Ln (n := x.length)) alongX_len)
  have he0 := eval_0 (x := x) (z := alongX x.length fun _ => 0) (fun i => zero_get) l []
  rw [List.map_nil] at he0
  rw [he0] at hv
  unfold valI
  cases he : iEval fitX 0 x l [] with
  | error e =>
    have hn := iEval_err he
    rw [he] at hv
    simp only [Except.map, evV_err] at hv
    show CC _ _ _ (.tup [.d (.agg [.b false, .sl [], .sl []]), .d (.i e)]) _
    refine Den.pureI Tryz.func36 rfl 2 [.cell 4 42, .tmp 5] (by kernel_rfl) rfl rfl (by simp only [initE_nil, initE_cons, Nat.reduceAdd]; exact rfl) ?_
    repeat' first | (with_reducible first | refine nx' ?_ (by simp -implicitDefEqProofs (disch := omega) only [go_sem, hn]; exact rfl) | refine n0 ?_ | refine rD ?_ | refine n1 ?_ | refine nilB_i fun b hb => ?_ | refine nPc (hv) ?_ | refine nP ?_ ?_ | refine nS fun K hK => ?_ | (refine n2 ?_ ?_ <;> intro h <;> first | subst (h : _ = true) | subst (h : _ = false) | (simp only [FX, LX, hn] at h) | skip) | refine And.intro ?_ ?_ | refine nK ‹Imp _ _› ?_) | exact nl | fail
  | ok R =>
    have hR := iEval_inv (by simp) he
    have hk := (lastJ_ok (by rw [hR.1]; simp; exact h.2.2.2.1) hR.2).1
    have k1 := Nat.le_trans hk.nu (show 40 ≤ 1048576 by omega)
    have k2 := Nat.le_trans hk.de (show 40 ≤ 1048576 by omega)
    have e1 : (lastS (R.map j0)).1 = (lastJ R).1 := by
      unfold lastS lastJ
      rw [List.length_map, j0_getD]; rfl
    rw [he] at hv
    simp only [Except.map, evV_ok, e1] at hv
    show CC _ _ _ (.tup [xV (lastJ R).1, .d (.i 0)]) _
    refine Den.pureI Tryz.func36 rfl 2 [.cell 4 42, .tmp 5] (by kernel_rfl) rfl rfl (by simp only [initE_nil, initE_cons, Nat.reduceAdd]; exact rfl) ?_
    repeat' first | (with_reducible first | refine nx' ?_ | refine n0 ?_ | refine rD ?_ | refine n1 ?_ | refine nilB_i fun b hb => ?_ | refine nPc (hv) ?_ | refine nP ?_ ?_ | refine nS fun K hK => ?_ | (refine n2 ?_ ?_ <;> intro h <;> first | subst (h : _ = true) | subst (h : _ = false) | skip) | refine And.intro ?_ ?_ | refine nK ‹Imp _ _› ?_) | exact nl | fail
end Go.PL

/- XA2 -/
namespace Go.PL
open Go Go.Proofs
set_option maxRecDepth 10000
set_option maxHeartbeats 4000000
set_option linter.unusedSimpArgs false
set_option linter.unusedVariables false
theorem sgnX_sub0 {x y : Rat} : sgnX (x - y) = 0 ↔ x = y := by
  rw [sgnX_zero]; grind
instance (x y : Rat) : Con CC 50 [xV x, xV y] (Ln 800 x ∧ Ln 800 y) (.d (.b (decide (x = y)))) := by
  constructor; intro ⟨h1, h2⟩
  have e : (cmpX x y == 0) = decide (x = y) := by rw [Bool.eq_iff_iff, beq_iff_eq, decide_eq_true_eq]; exact cmpX_zero
  refine Den.pureI Tryz.func50 rfl 2 [.tmp 4] (by kernel_rfl) rfl rfl (by simp only [initE_nil, initE_cons, Nat.reduceAdd]; exact rfl) ?_
  repeat' first | (with_reducible first | refine nx' ?_ (by simp -implicitDefEqProofs (disch := omega) only [go_sem, e]; exact rfl) | refine n0 ?_ | refine rD ?_ | refine n1 ?_ | refine nilB_i fun b hb => ?_ | refine nP ?_ ?_ | refine nS fun K hK => ?_ | (refine n2 ?_ ?_ <;> intro h <;> first | subst (h : _ = true) | subst (h : _ = false) | (simp only [FX, LX, e] at h) | skip) | refine And.intro ?_ ?_ | refine nK ‹Imp _ _› ?_) | exact nl | fail
theorem equalFunc_X (g : FuncId) (x y : List Rat) (hx : x.length ≤ 1000) (hy : y.length ≤ 1000) (hp : ∀ i, i < x.length → i < y.length → CC g [xV (x.getD i 0), xV (y.getD i 0)] [] (.d (.b (decide (x.getD i 0 = y.getD i 0)))) []) :
    CC 49 [vV x, vV y, .d (.fn (.func g) [] [])] [] (.d (.b (decide (x = y)))) [] := by
  refine Den.pureI Tryz.func49 rfl 3 [.tmp 6] (by kernel_rfl) rfl rfl (by simp only [initE_nil, initE_cons, Nat.reduceAdd]; exact rfl) ?_
  repeat' first | (with_reducible first | refine nx' ?_ | refine n0 ?_ | refine rD ?_ | refine n1 ?_ | refine nilB_i fun b hb => ?_ | refine nP ?_ ?_ | refine nS fun K hK => ?_ | (refine n2 ?_ ?_ <;> intro h <;> first | subst (h : _ = true) | subst (h : _ = false) | skip) | refine And.intro ?_ ?_ | refine nK ‹Imp _ _› ?_) | exact nl | fail
  · congr 3; rw [eq_comm, decide_eq_false_iff_not]; rintro rfl; exact h rfl
  refine Wp.loopR (fun i : Nat => ⟨[(1, vV y), (2, .d (.fn (.func g) [] [])), (15, vV x), (16, .d (.i x.length)), (17, .d (.i i))], []⟩) (fun i => x.length - i) (fun i => i ≤ x.length ∧ x.take i = y.take i) 0 Weak.lo ⟨by simp, by simp⟩ ?_
  rintro i ⟨hi, hd⟩ K hK
  by_cases hil : i < x.length
  · have hpi := hp i hil (by omega)
    repeat' first | (with_reducible first | refine nx' ?_ | refine n0 ?_ | refine rD ?_ | refine n1 ?_ | refine nilB_i fun b hb => ?_ | refine nPc (hpi) ?_ | refine nP ?_ ?_ | refine nS fun K hK => ?_ | (refine n2 ?_ ?_ <;> intro h <;> first | subst (h : _ = true) | subst (h : _ = false) | skip) | refine And.intro ?_ ?_ | refine nK ‹Imp _ _› ?_) | exact nl | fail
    · congr 3; rw [eq_comm, decide_eq_false_iff_not]; exact ne_of_getD (d := 0) (by simpa using h)
    · exact ⟨i + 1, by omega, ⟨by omega, take_eq_succ 0 (by omega) (by omega) hd (by simpa using h)⟩, Weak.cu⟩
  · repeat' first | (with_reducible first | refine nx' ?_ | refine n0 ?_ | refine rD ?_ | refine n1 ?_ | refine nilB_i fun b hb => ?_ | refine nP ?_ ?_ | refine nS fun K hK => ?_ | (refine n2 ?_ ?_ <;> intro h <;> first | subst (h : _ = true) | subst (h : _ = false) | skip) | refine And.intro ?_ ?_ | refine nK ‹Imp _ _› ?_) | exact nl | fail
    congr 3; rw [eq_comm, decide_eq_true_eq]; exact take_all (by omega) (by omega) hd
instance (x y : List Rat) : Con CC 23 [vV x, vV y] (x.length ≤ 1000 ∧ y.length ≤ 1000 ∧ LnV 800 x ∧ LnV 800 y) (.d (.b (decide (x = y)))) := by
  constructor; intro ⟨h1, h2, hx, hy⟩
  have h := equalFunc_X 50 x y h1 h2 fun i i1 i2 => Con.ok (C := CC) (vs := [xV (x.getD i 0), xV (y.getD i 0)]) ⟨hx.get i1, hy.get i2⟩
  refine Den.pureI Tryz.func23 rfl 2 [.tmp 4] (by kernel_rfl) rfl rfl (by simp only [initE_nil, initE_cons, Nat.reduceAdd]; exact rfl) ?_
  repeat' first | (with_reducible first | refine nx' ?_ | refine n0 ?_ | refine rD ?_ | refine n1 ?_ | refine nilB_i fun b hb => ?_ | refine nPc (h) ?_ | refine nP ?_ ?_ | refine nS fun K hK => ?_ | (refine n2 ?_ ?_ <;> intro h <;> first | subst (h : _ = true) | subst (h : _ = false) | skip) | refine And.intro ?_ ?_ | refine nK ‹Imp _ _› ?_) | exact nl | fail
theorem sameS_c (x y : List Rat) (h1 : x.length ≤ 1000) (h2 : y.length ≤ 1000) (hx : LnV 800 x) (hy : LnV 800 y) : CC 39 [vV x, vV y] [] (.d (.b (decide (x = y)))) [] := by
  refine Den.pureI Tryz.func39 rfl 2 [.tmp 4] (by kernel_rfl) rfl rfl (by simp only [initE_nil, initE_cons, Nat.reduceAdd]; exact rfl) ?_
  repeat' first | (with_reducible first | refine nx' ?_ | refine n0 ?_ | refine rD ?_ | refine n1 ?_ | refine nilB_i fun b hb => ?_ | refine nP ?_ ?_ | refine nS fun K hK => ?_ | (refine n2 ?_ ?_ <;> intro h <;> first | subst (h : _ = true) | subst (h : _ = false) | skip) | refine And.intro ?_ ?_ | refine nK ‹Imp _ _› ?_) | exact nl | fail
  · congr 3; rw [eq_comm, decide_eq_false_iff_not]; rintro rfl; exact h rfl
  refine Wp.loopR (fun i : Nat => ⟨[(0, vV x), (1, vV y), (5, .d (.i i))], []⟩) (fun i => x.length - i) (fun i => i ≤ x.length ∧ x.take i = y.take i) 0 Weak.lo ⟨by simp, by simp⟩ ?_
  rintro i ⟨hi, hd⟩ K hK
  by_cases hil : i < x.length
  · have k1 := hx.get hil
    have k2 := hy.get (show i < y.length by omega)
    repeat' first | (with_reducible first | refine nx' ?_ | refine n0 ?_ | refine rD ?_ | refine n1 ?_ | refine nilB_i fun b hb => ?_ | refine nP ?_ ?_ | refine nS fun K hK => ?_ | (refine n2 ?_ ?_ <;> intro h <;> first | subst (h : _ = true) | subst (h : _ = false) | skip) | refine And.intro ?_ ?_ | refine nK ‹Imp _ _› ?_) | exact nl | fail
    · congr 3; rw [eq_comm, decide_eq_false_iff_not]; exact ne_of_getD (d := 0) fun e => h (sgnX_sub0.2 e)
    · exact ⟨i + 1, by omega, ⟨by omega, take_eq_succ 0 (by omega) (by omega) hd (sgnX_sub0.1 h)⟩, Weak.lo⟩
  · repeat' first | (with_reducible first | refine nx' ?_ | refine n0 ?_ | refine rD ?_ | refine n1 ?_ | refine nilB_i fun b hb => ?_ | refine nP ?_ ?_ | refine nS fun K hK => ?_ | (refine n2 ?_ ?_ <;> intro h <;> first | subst (h : _ = true) | subst (h : _ = false) | skip) | refine And.intro ?_ ?_ | refine nK ‹Imp _ _› ?_) | exact nl | fail
    congr 3; rw [eq_comm, decide_eq_true_eq]; exact take_all (by omega) (by omega) hd
section
variable {f : List Nd} {s l u : List Rat} {so : Int} {e : Rat} {it ba : Int} {x : List Rat}
theorem inI_c (hb : boxV x.length l u) (hx : LnV 40 x) : CC 53 [.d (pxD f s l u so e it ba), vV x] [] (.d (.b (decide (projV l u x = x)))) [] := by
  have h0 := hb.1
  have h1 := hx.mono (show 40 ≤ 800 by omega)
  have h2 := projV_Ln hb h1 (by omega)
  have h3 : (projV l u x).length = x.length := projV_len
  refine Den.pureI Tryz.func53 rfl 2 [.tmp 4] (by kernel_rfl) rfl rfl (by simp only [initE_nil, initE_cons, Nat.reduceAdd]; exact rfl) ?_
  repeat' first | (with_reducible first | refine nx' ?_ (by simp -implicitDefEqProofs (disch := omega) only [go_sem, h3]; exact rfl) | refine n0 ?_ | refine rD ?_ | refine n1 ?_ | refine nilB_i fun b hb => ?_ | refine nP ?_ ?_ | refine nS fun K hK => ?_ | (refine n2 ?_ ?_ <;> intro h <;> first | subst (h : _ = true) | subst (h : _ = false) | (simp only [FX, LX, h3] at h) | skip) | refine And.intro ?_ ?_ | refine nK ‹Imp _ _› ?_) | exact nl | fail
theorem inS_c (hb : boxV x.length l u) (hx : LnV 40 x) : CC 38 [.d (pxD f s l u so e it ba), vV x] [] (.d (.b (decide (projV l u x = x)))) [] := by
  have h0 := hb.1
  have h1 := hx.mono (show 40 ≤ 800 by omega)
  have h2 := projV_Ln hb h1 (by omega)
  have h3 : (projV l u x).length = x.length := projV_len
  have hs := sameS_c (projV l u x) x (by omega) (by omega) h2 h1
  refine Den.pureI Tryz.func38 rfl 2 [.tmp 4] (by kernel_rfl) rfl rfl (by simp only [initE_nil, initE_cons, Nat.reduceAdd]; exact rfl) ?_
  repeat' first | (with_reducible first | refine nx' ?_ (by simp -implicitDefEqProofs (disch := omega) only [go_sem, h3]; exact rfl) | refine n0 ?_ | refine rD ?_ | refine n1 ?_ | refine nilB_i fun b hb => ?_ | refine nPc (hs) ?_ | refine nP ?_ ?_ | refine nS fun K hK => ?_ | (refine n2 ?_ ?_ <;> intro h <;> first | subst (h : _ = true) | subst (h : _ = false) | (simp only [FX, LX, h3] at h) | skip) | refine And.intro ?_ ?_ | refine nK ‹Imp _ _› ?_) | exact nl | fail
/-- May a record stand in a run? -/
def audB (f : List Nd) (l u : List Rat) (it ba ri rc : Int) (x : List Rat) (fx : Rat) : Bool := match valI x f with
  | .error _ => false
  | .ok v => decide (v = fx) && decide (projV l u x = x) && decide (ri ≤ it) && decide (rc ≤ ba)
theorem audits_c (hc : ClP f l u e x) {ri rc : Int} {fx : Rat} (hf : Ln 40 fx) : CC 24 [.d (.agg [.i ri, .i rc, .sl (x.map encX), .b (sgX fx), encD (nuX fx), encD (deX fx)]), .d (pxD f s l u so e it ba)] [] (.d (.b (audB f l u it ba ri rc x fx))) [] := by
  have hN := NPs_of hc.of hc.ox hc.oL hc.od
  have hv := valueI_c hN hc.of hc.ox hc.od
  have hi := inI_c (f := f) (s := s) (so := so) (e := e) (it := it) (ba := ba) hc.ob hc.oL
  have f8 := hf.mono (show 40 ≤ 800 by omega)
  unfold audB
  cases hg : valI x f with
  | error er =>
    have hn := valI_err hg
    have hn2 : (er == 0) = false := by rw [bne_iff_ne] at hn; rw [beq_eq_false_iff_ne]; exact hn
    rw [hg] at hv
    unfold vlV at hv
    simp only at hv
    refine Den.pureI Tryz.func24 rfl 2 [.tmp 4] (by kernel_rfl) rfl rfl (by simp only [initE_nil, initE_cons, Nat.reduceAdd]; exact rfl) ?_
    repeat' first | (with_reducible first | refine nx' ?_ (by simp -implicitDefEqProofs (disch := omega) only [go_sem, hn2]; exact rfl) | refine n0 ?_ | refine rD ?_ | refine n1 ?_ | refine nilB_i fun b hb => ?_ | refine nPc (hv) ?_ | refine nPc (hi) ?_ | refine nP ?_ ?_ | refine nS fun K hK => ?_ | (refine n2 ?_ ?_ <;> intro h <;> first | subst (h : _ = true) | subst (h : _ = false) | (simp only [FX, LX, hn2] at h) | skip) | refine And.intro ?_ ?_ | refine nK ‹Imp _ _› ?_) | exact nl | fail
  | ok v =>
    have v8 := (valI_Ln hN.2.2.2.1 hg).mono (show 40 ≤ 800 by omega)
    rw [hg] at hv
    unfold vlV at hv
    simp only at hv
    have ec : (cmpX v fx == 0) = decide (v = fx) := by rw [Bool.eq_iff_iff, beq_iff_eq, decide_eq_true_eq]; exact cmpX_zero
    refine Den.pureI Tryz.func24 rfl 2 [.tmp 4] (by kernel_rfl) rfl rfl (by simp only [initE_nil, initE_cons, Nat.reduceAdd]; exact rfl) ?_
    repeat' first | (with_reducible first | refine nx' ?_ (by simp -implicitDefEqProofs (disch := omega) only [go_sem, ec]; exact rfl) | refine n0 ?_ | refine rD ?_ | refine n1 ?_ | refine nilB_i fun b hb => ?_ | refine nPc (hv) ?_ | refine nPc (hi) ?_ | refine nP ?_ ?_ | refine nS fun K hK => ?_ | (refine n2 ?_ ?_ <;> intro h <;> first | subst (h : _ = true) | subst (h : _ = false) | (simp only [FX, LX, ec] at h) | skip) | refine And.intro ?_ ?_ | refine nK ‹Imp _ _› ?_) | exact nl | fail
    all_goals first | (simp [*]; done) | (simp [*]; intros; omega)
end
def xR (r : Rt) : Rat := toR (toQ r)
theorem xR_ok {r : Rt} (h : okRat r = true) : r = rtR (xR r) ∧ Ln 40 (xR r) := by
  obtain ⟨x, hx, hl⟩ := okRat_R h
  have e : toQ r = ofR x := by
    rw [hx]
    unfold toQ rtR nuX deX
    simp only [val_digs, Int.toNat_natCast]
    rfl
  have e2 : xR r = x := by unfold xR; rw [e, toR_of]
  rw [e2]; exact ⟨hx, hl⟩
theorem xRs_ok {l : List Rt} (h : okVec l = true) : l = (l.map xR).map rtR ∧ LnV 40 (l.map xR) := by
  obtain ⟨-, h2⟩ := okVec_parts h
  refine ⟨?_, fun x hx => ?_⟩
  · rw [List.map_map]
    conv => lhs; rw [← List.map_id l]
    exact List.map_congr_left fun r hr => (xR_ok (h2 r hr)).1
  · obtain ⟨r, hr, rfl⟩ := List.mem_map.1 hx
    exact (xR_ok (h2 r hr)).2
def recB (f : List Nd) (l u : List Rat) (it ba : Int) (r : Rc) : Bool := audB f l u it ba r.iter r.count (r.x.map xR) (xR r.f)
end Go.PL
