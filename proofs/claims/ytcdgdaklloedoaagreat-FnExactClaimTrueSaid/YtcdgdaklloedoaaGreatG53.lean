/- A plain machine, sound for the given model, and contracts of functions over it, part 53: XG6 XG7. Nothing is assumed. -/
import Derived.Test.YtcdgdaklloedoaaGreatXG5
set_option linter.unusedSimpArgs false
set_option linter.unusedVariables false
set_option linter.unusedSectionVars false
/- XG6 -/
namespace Go.PL
open Go Go.Proofs
set_option maxRecDepth 10000
set_option maxHeartbeats 4000000
set_option linter.unusedSimpArgs false
set_option linter.unusedVariables false
theorem okVec_len0 {l : List Rt} (h : okVec l = true) : 1 ≤ l.length := by
  unfold okVec at h
  rw [decide_eq_true_eq] at h
  exact h.1
/-- A right problem's numbers are numbers. -/
theorem okPb_X {f : List Nd} {s l w : List Rt} {so : Int} {g : Bool} {u v : List Int} {it ba : Int} (h : okPb ⟨f, s, l, w, so, ⟨g, u, v⟩, it, ba⟩ = true) :
    okE f = true ∧ dimN f ≤ s.length ∧ s.length ≤ 4 ∧ ∃ (sx lx ux : List Rat) (e : Rat), s = sx.map rtR ∧ l = lx.map rtR ∧ w = ux.map rtR ∧ (⟨g, u, v⟩ : Rt) = rtR e ∧ LnV 40 sx ∧ boxV s.length lx ux ∧ Ln 40 e := by
  obtain ⟨h1, h2, h3, h4, h5, h6, h7, h8, h9, h10, h11, h12⟩ := okPb_iff.1 h
  obtain ⟨sx, es, hs⟩ := okVec_R h2
  obtain ⟨e, ee, he⟩ := okRat_R h6
  have h4 := (okVec_parts h2).1
  refine ⟨h1, h3, h4, ?_⟩
  rcases h12 with ⟨k1, k2⟩ | ⟨k1, k2, k3, k4, _, _⟩
  · refine ⟨sx, [], [], e, es, List.eq_nil_of_length_eq_zero k1, List.eq_nil_of_length_eq_zero k2, ee, hs, ⟨h4, .inl rfl, ?_, ?_⟩, he⟩ <;> (intro x hx; cases hx)
  · obtain ⟨lx, el, hl⟩ := okVec_R k1
    obtain ⟨ux, eu, hu⟩ := okVec_R k2
    refine ⟨sx, lx, ux, e, es, el, eu, ee, hs, ⟨h4, .inr ⟨?_, ?_⟩, hl, hu⟩, he⟩
    · rw [← k3, el, List.length_map]
    · rw [← k4, eu, List.length_map]
theorem pbD_X {f : List Nd} {s l w : List Rt} {so : Int} {g : Bool} {u v : List Int} {it ba : Int} {sx lx ux : List Rat} {e : Rat} (h1 : s = sx.map rtR) (h2 : l = lx.map rtR) (h3 : w = ux.map rtR) (h4 : (⟨g, u, v⟩ : Rt) = rtR e) :
    pbD f s l w so g u v it ba = pxD f sx lx ux so e it ba := by
  subst h1 h2 h3
  unfold rtR at h4
  injection h4 with a b c
  subst a b c
  simp only [pbD, pxD, enc_rtR]
theorem okRp_at {st : Int} {recs : List Rc} (h : okRp ⟨st, recs⟩ = true) {t : Nat} (ht : t < recs.length) : okRc (recs.getD t rc0) = true ∧ (recs.getD t rc0).iter = t ∧ (recs.getD t rc0).x.length = (recs.getD 0 rc0).x.length := by
  unfold okRp at h
  rw [decide_eq_true_eq] at h
  exact h.2.2.2 t ht
theorem okRc_x {r : Rc} (h : okRc r = true) : okVec r.x = true ∧ okRat r.f = true := by
  unfold okRc at h
  rw [Bool.and_eq_true, Bool.and_eq_true] at h
  exact ⟨h.1.2, h.2⟩
theorem claims_c (f : List Nd) (s l w : List Rt) (so : Int) (g : Bool) (u v : List Int) (it ba st : Int) (recs : List Rc) (hp : okPb ⟨f, s, l, w, so, ⟨g, u, v⟩, it, ba⟩ = true) (hr : okRp ⟨st, recs⟩ = true) (hl : recs.length = 0 ∨ (recs.getD 0 rc0).x.length = s.length) :
    ∃ b : Bool, CC 17 [.d (pbD f s l w so g u v it ba), .d (.agg [.i st, .sl (recs.map encRc)])] [] (.d (.b b)) [] ∧ CC 23 [.d (.agg [.i st, .sl (recs.map encRc)]), .d (pbD f s l w so g u v it ba)] [] (.d (.b b)) [] := by
  obtain ⟨h1, h2, h3, sx, lx, ux, e, es, el, eu, ee, hs, hb, he⟩ := okPb_X hp
  have hD := pbD_X (f := f) (so := so) (it := it) (ba := ba) es el eu ee
  have hn : recs.length ≤ 7 := by
    unfold okRp at hr
    rw [decide_eq_true_eq] at hr
    exact hr.2.2.1
  rw [hD]
  rcases Nat.eq_zero_or_pos recs.length with h0 | h0
  · exact ⟨_, claimS_c (x := []) (fun q => by omega) hn, claimI_c (x := []) (fun q => by omega) hn⟩
  · obtain ⟨k1, k2, k3⟩ := okRp_at hr (show recs.length - 1 < recs.length by omega)
    obtain ⟨xs, ex, hx⟩ := okVec_R (okRc_x k1).1
    have hlen : xs.length = s.length := by
      have : (recs.getD (recs.length - 1) rc0).x.length = xs.length := by rw [ex, List.length_map]
      omega
    have hc : ClP f lx ux e xs := ⟨h1, he, by rw [hlen]; exact hb, by rw [← ex]; exact (okRc_x k1).1, hx, by rw [hlen]; exact h2⟩
    exact ⟨_, claimS_c (fun _ => ⟨ex, hc⟩) hn, claimI_c (fun _ => ⟨ex, hc⟩) hn⟩
theorem askC_zero {p : Pb} {r : Rp} (h : askC p r = 0) : okPb p = true ∧ okRp r = true ∧ (r.recs.length = 0 ∨ (r.recs.getD 0 rc0).x.length = p.start.length) := by
  unfold askC at h
  split at h
  · rename_i q
    split at h
    · rename_i q2; exact ⟨q.1, q.2, q2⟩
    · cases h
  · cases h
theorem claimTrue_c (f : List Nd) (s l w : List Rt) (so : Int) (g : Bool) (u v : List Int) (it ba st : Int) (recs : List Rc) (hb : bPb ⟨f, s, l, w, so, ⟨g, u, v⟩, it, ba⟩) (hr : bRcs recs) :
    ∃ (b : Bool) (c : Int), CC 6 [.d (pbD f s l w so g u v it ba), .d (.agg [.i st, .sl (recs.map encRc)])] [] (.tup [.d (.b b), .d (.i c)]) [] ∧ CC 9 [.d (pbD f s l w so g u v it ba), .d (.agg [.i st, .sl (recs.map encRc)])] [] (.tup [.d (.b b), .d (.i c)]) [] := by
  have ha := auditC_c f s l w so g u v it ba st recs hb hr
  have hs := askS_c f s l w so g u v it ba st recs hb hr
  by_cases h0 : askC ⟨f, s, l, w, so, ⟨g, u, v⟩, it, ba⟩ ⟨st, recs⟩ = 0
  · obtain ⟨k1, k2, k3⟩ := askC_zero h0
    obtain ⟨b, c1, c2⟩ := claims_c f s l w so g u v it ba st recs k1 k2 k3
    rw [h0] at ha hs
    refine ⟨b, 0, ?_, ?_⟩
    · refine Den.pureI Tryz.func6 rfl 2 [.tmp 4, .tmp 5] (by kernel_rfl) rfl rfl (by simp only [initE_nil, initE_cons, Nat.reduceAdd]; exact rfl) ?_
      repeat' first | (with_reducible first | refine nx' ?_ | refine n0 ?_ | refine rD ?_ | refine n1 ?_ | refine nilB_i fun b hb => ?_ | refine nPc (hs) ?_ | refine nPc (c1) ?_ | refine nP ?_ ?_ | refine nS fun K hK => ?_ | (refine n2 ?_ ?_ <;> intro h <;> first | subst (h : _ = true) | subst (h : _ = false) | skip) | refine And.intro ?_ ?_ | refine nK ‹Imp _ _› ?_) | exact nl | fail
    · refine Den.pureI Tryz.func9 rfl 2 [.tmp 4, .tmp 5] (by kernel_rfl) rfl rfl (by simp only [initE_nil, initE_cons, Nat.reduceAdd]; exact rfl) ?_
      repeat' first | (with_reducible first | refine nx' ?_ | refine n0 ?_ | refine rD ?_ | refine n1 ?_ | refine nilB_i fun b hb => ?_ | refine nPc (ha) ?_ | refine nPc (c2) ?_ | refine nP ?_ ?_ | refine nS fun K hK => ?_ | (refine n2 ?_ ?_ <;> intro h <;> first | subst (h : _ = true) | subst (h : _ = false) | skip) | refine And.intro ?_ ?_ | refine nK ‹Imp _ _› ?_) | exact nl | fail
  · have hn : (askC ⟨f, s, l, w, so, ⟨g, u, v⟩, it, ba⟩ ⟨st, recs⟩ != 0) = true := by rw [bne_iff_ne]; exact h0
    generalize askC ⟨f, s, l, w, so, ⟨g, u, v⟩, it, ba⟩ ⟨st, recs⟩ = c at *
    refine ⟨false, c, ?_, ?_⟩
    · refine Den.pureI Tryz.func6 rfl 2 [.tmp 4, .tmp 5] (by kernel_rfl) rfl rfl (by simp only [initE_nil, initE_cons, Nat.reduceAdd]; exact rfl) ?_
      repeat' first | (with_reducible first | refine nx' ?_ (by simp -implicitDefEqProofs (disch := omega) only [go_sem, hn]; exact rfl) | refine n0 ?_ | refine rD ?_ | refine n1 ?_ | refine nilB_i fun b hb => ?_ | refine nPc (hs) ?_ | refine nP ?_ ?_ | refine nS fun K hK => ?_ | (refine n2 ?_ ?_ <;> intro h <;> first | subst (h : _ = true) | subst (h : _ = false) | (simp only [FX, LX, hn] at h) | skip) | refine And.intro ?_ ?_ | refine nK ‹Imp _ _› ?_) | exact nl | fail
    · refine Den.pureI Tryz.func9 rfl 2 [.tmp 4, .tmp 5] (by kernel_rfl) rfl rfl (by simp only [initE_nil, initE_cons, Nat.reduceAdd]; exact rfl) ?_
      repeat' first | (with_reducible first | refine nx' ?_ (by simp -implicitDefEqProofs (disch := omega) only [go_sem, hn]; exact rfl) | refine n0 ?_ | refine rD ?_ | refine n1 ?_ | refine nilB_i fun b hb => ?_ | refine nPc (ha) ?_ | refine nP ?_ ?_ | refine nS fun K hK => ?_ | (refine n2 ?_ ?_ <;> intro h <;> first | subst (h : _ = true) | subst (h : _ = false) | (simp only [FX, LX, hn] at h) | skip) | refine And.intro ?_ ?_ | refine nK ‹Imp _ _› ?_) | exact nl | fail
end Go.PL

/- XG7 -/
namespace Go.PL
open Go Go.Proofs
set_option maxRecDepth 10000
set_option maxHeartbeats 4000000
set_option linter.unusedSimpArgs false
set_option linter.unusedVariables false
theorem bPb_of {p : Pb} (h : szPb p ≤ 1048576) : bPb p := by
  unfold szPb at h
  exact ⟨by omega, bV_of (by omega), bV_of (by omega), bV_of (by omega), by unfold szR at h; omega, by unfold szR at h; omega⟩
instance (f : List Nd) (s l w : List Rt) (so : Int) (g : Bool) (u v : List Int) (it ba st : Int) (m : List Rc) : Con CC 3 [.d (pbD f s l w so g u v it ba), .d (.agg [.i st, .sl (m.map encRc)])]
    (pPb ⟨f, s, l, w, so, ⟨g, u, v⟩, it, ba⟩ ∧ pRcs m) (.d (.b true)) := by
  constructor; intro ⟨hp, hq⟩
  by_cases h1 : szL 1048576 (szPb ⟨f, s, l, w, so, ⟨g, u, v⟩, it, ba⟩) < 0
  · refine Den.pureI Tryz.func3 rfl 2 [.tmp 4] (by kernel_rfl) rfl rfl (by simp only [initE_nil, initE_cons, Nat.reduceAdd]; exact rfl) ?_
    repeat' first | (with_reducible first | refine nx' ?_ | refine n0 ?_ | refine Wp.drawR (by decide +kernel) ?_ | refine Wp.drawSR [2, 3, 4] [false, false, true, true, true] (.op 2 [0] (.op 3 [] (.op 4 [] .done))) (by decide +kernel) ?_ | refine Wp.drawSR [2, 3, 4] [false, false, true, true, true] (.op 2 [0] (.op 3 [] (.op 4 [] .done))) (by decide +kernel) ?_ | refine Wp.drawSR [] [false, false, false, false, false, false, false, false, false, false] .done (by decide +kernel) ?_ | refine n1 ?_ | refine nilB_i fun b hb => ?_ | refine nP ?_ ?_ | refine nS fun K hK => ?_ | (refine n2 ?_ ?_ <;> intro h <;> first | subst (h : _ = true) | subst (h : _ = false) | skip) | refine And.intro ?_ ?_ | refine nK ‹Imp _ _› ?_) | exact nl | fail
  · obtain ⟨q1, q2⟩ := szL_of (left := 1048576) (n := szPb ⟨f, s, l, w, so, ⟨g, u, v⟩, it, ba⟩) (by omega)
    have b1 : bPb ⟨f, s, l, w, so, ⟨g, u, v⟩, it, ba⟩ := bPb_of (by omega)
    have hr := szL_rm (left := 1048576) (n := szPb ⟨f, s, l, w, so, ⟨g, u, v⟩, it, ba⟩) ⟨by omega, by omega⟩
    by_cases h2 : szL (szL 1048576 (szPb ⟨f, s, l, w, so, ⟨g, u, v⟩, it, ba⟩)) (szRcs m) < 0
    · refine Den.pureI Tryz.func3 rfl 2 [.tmp 4] (by kernel_rfl) rfl rfl (by simp only [initE_nil, initE_cons, Nat.reduceAdd]; exact rfl) ?_
      repeat' first | (with_reducible first | refine nx' ?_ | refine n0 ?_ | refine Wp.drawR (by decide +kernel) ?_ | refine Wp.drawSR [2, 3, 4] [false, false, true, true, true] (.op 2 [0] (.op 3 [] (.op 4 [] .done))) (by decide +kernel) ?_ | refine Wp.drawSR [2, 3, 4] [false, false, true, true, true] (.op 2 [0] (.op 3 [] (.op 4 [] .done))) (by decide +kernel) ?_ | refine Wp.drawSR [] [false, false, false, false, false, false, false, false, false, false] .done (by decide +kernel) ?_ | refine n1 ?_ | refine nilB_i fun b hb => ?_ | refine nP ?_ ?_ | refine nS fun K hK => ?_ | (refine n2 ?_ ?_ <;> intro h <;> first | subst (h : _ = true) | subst (h : _ = false) | skip) | refine And.intro ?_ ?_ | refine nK ‹Imp _ _› ?_) | exact nl | fail
    · have b2 : bRcs m := by
        obtain ⟨q3, _⟩ := szL_of (left := szL 1048576 (szPb ⟨f, s, l, w, so, ⟨g, u, v⟩, it, ba⟩)) (n := szRcs m) (by omega)
        exact bRcs_of (by rw [szL_pos (by rw [q2] at q3; omega)]; rw [q2] at q3; omega)
      obtain ⟨b, c, c1, c2⟩ := claimTrue_c f s l w so g u v it ba st m b1 b2
      refine Den.pureI Tryz.func3 rfl 2 [.tmp 4] (by kernel_rfl) rfl rfl (by simp only [initE_nil, initE_cons, Nat.reduceAdd]; exact rfl) ?_
      repeat' first | (with_reducible first | refine nx' ?_ | refine n0 ?_ | refine Wp.drawR (by decide +kernel) ?_ | refine Wp.drawSR [2, 3, 4] [false, false, true, true, true] (.op 2 [0] (.op 3 [] (.op 4 [] .done))) (by decide +kernel) ?_ | refine Wp.drawSR [2, 3, 4] [false, false, true, true, true] (.op 2 [0] (.op 3 [] (.op 4 [] .done))) (by decide +kernel) ?_ | refine Wp.drawSR [] [false, false, false, false, false, false, false, false, false, false] .done (by decide +kernel) ?_ | refine n1 ?_ | refine nilB_i fun b hb => ?_ | refine nPc (c1) ?_ | refine nPc (c2) ?_ | refine nP ?_ ?_ | refine nS fun K hK => ?_ | (refine n2 ?_ ?_ <;> intro h <;> first | subst (h : _ = true) | subst (h : _ = false) | skip) | refine And.intro ?_ ?_ | refine nK ‹Imp _ _› ?_) | exact nl | fail
      all_goals (first | exact absurd rfl (by assumption) | exact absurd trivial (by assumption) | simp at h)
end Go.PL
