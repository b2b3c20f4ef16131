/- A plain machine, sound for the given model, and contracts of functions over it, part 33: RM2. Nothing is assumed. -/
import Derived.Test.YtedbifiejciocadGreatDoorRM
set_option linter.unusedSimpArgs false
set_option linter.unusedVariables false
set_option linter.unusedSectionVars false
/- RM2 -/
namespace Go.PL
open Go Go.Proofs
set_option maxRecDepth 10000
set_option maxHeartbeats 4000000
set_option linter.unusedSimpArgs false
set_option linter.unusedVariables false
theorem okN_dg {l : List UInt8} (h : okN l = true) : okDg l := by
  obtain ⟨h1, _, h2, h3⟩ := okN_iff.1 h
  refine ⟨by rintro rfl; simp at h1, h3, ?_⟩
  by_cases e : l.getD 0 0 = 48
  · exact .inl (by have := h2 e; omega)
  · exact .inr e
theorem okN_free {l : List UInt8} (h : okN l = true) : (47 : UInt8) ∉ l := fun hm => by
  have := (okN_iff.1 h).2.2.2 _ hm
  unfold isDg at this; simp at this
theorem bd_eq (t : List UInt8) : (if ngT t then [45] else []) ++ bdT t = t := by
  unfold bdT
  cases h : ngT t with
  | false => rfl
  | true =>
    unfold ngT at h
    rw [decide_eq_true_eq] at h
    cases t with
    | nil => cases h
    | cons c r => simp at h; subst h; rfl
theorem rd_one {t : List UInt8} (h : cutH (bdT t) = false) : rdOk t = (okN (bdT t) && okRat ⟨ngT t, digs (rdN (bdT t)), [1]⟩) ∧ rdVal t = ⟨ngT t, digs (rdN (bdT t)), [1]⟩ := by
  have hn : (47 : UInt8) ∉ bdT t := by unfold cutH at h; exact of_decide_eq_false h
  unfold rdOk rdVal
  rw [spl_free hn]
  exact ⟨rfl, rfl⟩
theorem rd_two {t : List UInt8} (h : cutH (bdT t) = true) : rdOk t = (okN (cutA (bdT t)) && (okN (cutB (bdT t)) && (!(cmpN (rdN (cutB (bdT t))) 1 == 0) && okRat ⟨ngT t, digs (rdN (cutA (bdT t))), digs (rdN (cutB (bdT t)))⟩))) ∧
    (rdOk t = true → rdVal t = ⟨ngT t, digs (rdN (cutA (bdT t))), digs (rdN (cutB (bdT t)))⟩) ∧ bdT t = cutA (bdT t) ++ 47 :: cutB (bdT t) := by
  have hm : (47 : UInt8) ∈ bdT t := by unfold cutH at h; exact of_decide_eq_true h
  obtain ⟨w, r, e, hw⟩ := first_at hm
  obtain ⟨_, e2, e3⟩ := cut_yes (r := r) hw
  unfold rdOk rdVal
  rw [e, e2, e3, spl_app r hw]
  by_cases hr : (47 : UInt8) ∈ r
  · have h1 : okN r = false := by rw [Bool.eq_false_iff]; exact fun hk => okN_free hk hr
    obtain ⟨a, s, e4, hs⟩ := first_at hr
    have h2 : spl 47 r = a :: spl 47 s := by rw [e4, spl_app s hs]
    cases h3 : spl 47 s with
    | nil => exact absurd h3 (spl_ne _ _)
    | cons b q => rw [h2, h3, h1]; refine ⟨by simp, by simp, rfl⟩
  · rw [spl_free hr]; exact ⟨rfl, fun _ => rfl, rfl⟩
theorem text_one {t : List UInt8} (h : okN (bdT t) = true) : ratTB ⟨ngT t, digs (rdN (bdT t)), [1]⟩ = strT t := by
  refine bsT_inj ?_
  rw [← digs_one, ratTB_bs, rdN_yes h]
  unfold ratL
  rw [dec_of (okN_dg h), if_pos rfl, List.append_nil, bd_eq]
  rfl
theorem text_two {t : List UInt8} (h : bdT t = cutA (bdT t) ++ 47 :: cutB (bdT t)) (ha : okN (cutA (bdT t)) = true) (hb : okN (cutB (bdT t)) = true) :
    ((ratTB ⟨ngT t, digs (rdN (cutA (bdT t))), digs (rdN (cutB (bdT t)))⟩).toList == (strT t).toList) = !(cmpN (rdN (cutB (bdT t))) 1 == 0) := by
  have e2 := bd_eq t
  rw [tl_beq, cmpN_eq]
  rw [rdN_yes ha, rdN_yes hb]
  have e : ∀ n, (ratTB ⟨ngT t, digs (dv (cutA (bdT t))), digs n⟩ = strT t) ↔ ratL (ngT t) (dv (cutA (bdT t))) n = t := fun n => by
    constructor
    · intro hq; have := congrArg bsT hq; rw [ratTB_bs] at this; exact this
    · intro hq; refine bsT_inj ?_; rw [ratTB_bs, hq]; rfl
  rw [Bool.eq_iff_iff, decide_eq_true_eq, e]
  unfold ratL
  rw [dec_of (okN_dg ha), dec_of (okN_dg hb)]
  by_cases h1 : dv (cutB (bdT t)) = 1
  · rw [if_pos h1, h1]
    constructor
    · intro hq
      exfalso
      rw [List.append_nil] at hq
      have hl := congrArg List.length (hq.trans e2.symm)
      have hl2 := congrArg List.length h
      simp only [List.length_append, List.length_cons] at hl hl2
      omega
    · intro hq; simp at hq
  · rw [if_neg h1, List.append_assoc, ← h, e2]
    simp [h1]
theorem zR {b : Bool} {x y : List Int} : (⟨b, x, y⟩ : Rt) = ⟨b, x, y⟩ := rfl
theorem atoi_c (l : List UInt8) (h1 : 1 ≤ l.length) (h2 : l.length ≤ 4) (h : ∀ c ∈ l, isDg c) : CC 34 [.d (.s (strT l))] [] (.tup [.d (.i (dv l)), .d (.val .nilIface)]) [] :=
  Den.ext ⟨rfl, rfl, .inr (.inr (.inr ⟨rfl, l, h1, by omega, h, rfl, rfl⟩))⟩
theorem cutA_len (l : List UInt8) : (cutA l).length ≤ l.length := by unfold cutA; exact (List.takeWhile_sublist _).length_le
theorem cutB_len (l : List UInt8) : (cutB l).length ≤ l.length := by unfold cutB; rw [List.length_drop]; have := (List.dropWhile_sublist (l := l) (fun c => c != 47)).length_le; omega
set_option maxHeartbeats 4000000 in
theorem readRat_no (t : List UInt8) (ht : t.length ≤ 1048576) (hk : rdOk t = false) : CC 11 [.d (.s (strT t))] [] (.tup [.d (.agg [.b false, .sl [], .sl []]), .d (.b false)]) [] := by
  have hbl := bd_len t
  have hal := cutA_len (bdT t)
  have hbl2 := cutB_len (bdT t)
  have na := rdN_len (cutA (bdT t))
  have nb := rdN_len (cutB (bdT t))
  have cA := readNat_c atoi_c (cutA (bdT t)) (by omega)
  have cB := readNat_c atoi_c (cutB (bdT t)) (by omega)
  cases hH : cutH (bdT t) with
  | false =>
    have hca : cutA (bdT t) = bdT t := (cut_no (by unfold cutH at hH; exact of_decide_eq_false hH)).2.1
    obtain ⟨e1, _⟩ := rd_one hH
    rw [hk] at e1
    rw [← hca] at e1
    cases ha : okN (cutA (bdT t)) with
    | false =>
      refine Den.pureI Tryz.func11 rfl 1 [.cell 2 24, .tmp 3] (by kernel_rfl) rfl rfl (by simp only [initE_nil, initE_cons, Nat.reduceAdd]; exact rfl) ?_
      repeat' first | (with_reducible first | refine nx' ?_ (by simp -implicitDefEqProofs (disch := omega) only [go_sem, hH, ha]; exact rfl) | refine n0 ?_ | refine rD ?_ | refine n1 ?_ | refine nilB_i fun b hb => ?_ | refine nPc (cA) ?_ | refine nP ?_ ?_ | refine nS fun K hK => ?_ | (refine n2 ?_ ?_ <;> intro h <;> first | subst (h : _ = true) | subst (h : _ = false) | (simp only [FX, LX, hH, ha] at h) | skip) | refine And.intro ?_ ?_ | refine nK ‹Imp _ _› ?_) | exact nl | fail
      all_goals first | rfl | (simp at *; done) | skip
    | true =>
      rw [ha, Bool.true_and] at e1
      refine Den.pureI Tryz.func11 rfl 1 [.cell 2 24, .tmp 3] (by kernel_rfl) rfl rfl (by simp only [initE_nil, initE_cons, Nat.reduceAdd]; exact rfl) ?_
      repeat' first | (with_reducible first | refine nx' ?_ (by simp -implicitDefEqProofs (disch := omega) only [go_sem, hH, ha, ← e1]; exact rfl) | refine n0 ?_ | refine rD ?_ | refine n1 ?_ | refine nilB_i fun b hb => ?_ | refine nPc (cA) ?_ | refine nP ?_ ?_ | refine nS fun K hK => ?_ | (refine n2 ?_ ?_ <;> intro h <;> first | subst (h : _ = true) | subst (h : _ = false) | (simp only [FX, LX, hH, ha, ← e1] at h) | skip) | refine And.intro ?_ ?_ | refine nK ‹Imp _ _› ?_) | exact nl | fail
      all_goals first | rfl | (simp at *; done) | skip
  | true =>
    obtain ⟨e1, _, e3⟩ := rd_two hH
    rw [hk] at e1
    cases ha : okN (cutA (bdT t)) with
    | false =>
      refine Den.pureI Tryz.func11 rfl 1 [.cell 2 24, .tmp 3] (by kernel_rfl) rfl rfl (by simp only [initE_nil, initE_cons, Nat.reduceAdd]; exact rfl) ?_
      repeat' first | (with_reducible first | refine nx' ?_ (by simp -implicitDefEqProofs (disch := omega) only [go_sem, hH, ha]; exact rfl) | refine n0 ?_ | refine rD ?_ | refine n1 ?_ | refine nilB_i fun b hb => ?_ | refine nPc (cA) ?_ | refine nP ?_ ?_ | refine nS fun K hK => ?_ | (refine n2 ?_ ?_ <;> intro h <;> first | subst (h : _ = true) | subst (h : _ = false) | (simp only [FX, LX, hH, ha] at h) | skip) | refine And.intro ?_ ?_ | refine nK ‹Imp _ _› ?_) | exact nl | fail
      all_goals first | rfl | (simp at *; done) | skip
    | true =>
      cases hb : okN (cutB (bdT t)) with
      | false =>
        refine Den.pureI Tryz.func11 rfl 1 [.cell 2 24, .tmp 3] (by kernel_rfl) rfl rfl (by simp only [initE_nil, initE_cons, Nat.reduceAdd]; exact rfl) ?_
        repeat' first | (with_reducible first | refine nx' ?_ (by simp -implicitDefEqProofs (disch := omega) only [go_sem, hH, ha, hb]; exact rfl) | refine n0 ?_ | refine rD ?_ | refine n1 ?_ | refine nilB_i fun b hb => ?_ | refine nPc (cA) ?_ | refine nPc (cB) ?_ | refine nP ?_ ?_ | refine nS fun K hK => ?_ | (refine n2 ?_ ?_ <;> intro h <;> first | subst (h : _ = true) | subst (h : _ = false) | (simp only [FX, LX, hH, ha, hb] at h) | skip) | refine And.intro ?_ ?_ | refine nK ‹Imp _ _› ?_) | exact nl | fail
        all_goals first | rfl | (simp at *; done) | skip
      | true =>
        rw [ha, hb, Bool.true_and, Bool.true_and, ← text_two e3 ha hb] at e1
        cases hr : okRat ⟨ngT t, digs (rdN (cutA (bdT t))), digs (rdN (cutB (bdT t)))⟩ with
        | false =>
          refine Den.pureI Tryz.func11 rfl 1 [.cell 2 24, .tmp 3] (by kernel_rfl) rfl rfl (by simp only [initE_nil, initE_cons, Nat.reduceAdd]; exact rfl) ?_
          repeat' first | (with_reducible first | refine nx' ?_ (by simp -implicitDefEqProofs (disch := omega) only [go_sem, hH, ha, hb, hr]; exact rfl) | refine n0 ?_ | refine rD ?_ | refine n1 ?_ | refine nilB_i fun b hb => ?_ | refine nPc (cA) ?_ | refine nPc (cB) ?_ | refine nP ?_ ?_ | refine nS fun K hK => ?_ | (refine n2 ?_ ?_ <;> intro h <;> first | subst (h : _ = true) | subst (h : _ = false) | (simp only [FX, LX, hH, ha, hb, hr] at h) | skip) | refine And.intro ?_ ?_ | refine nK ‹Imp _ _› ?_) | exact nl | fail
          all_goals first | rfl | (simp at *; done) | skip
        | true =>
          rw [hr, Bool.and_true] at e1
          refine Den.pureI Tryz.func11 rfl 1 [.cell 2 24, .tmp 3] (by kernel_rfl) rfl rfl (by simp only [initE_nil, initE_cons, Nat.reduceAdd]; exact rfl) ?_
          repeat' first | (with_reducible first | refine nx' ?_ (by simp -implicitDefEqProofs (disch := omega) only [go_sem, hH, ha, hb, hr, ← e1]; exact rfl) | refine n0 ?_ | refine rD ?_ | refine n1 ?_ | refine nilB_i fun b hb => ?_ | refine nPc (cA) ?_ | refine nPc (cB) ?_ | refine nP ?_ ?_ | refine nS fun K hK => ?_ | (refine n2 ?_ ?_ <;> intro h <;> first | subst (h : _ = true) | subst (h : _ = false) | (simp only [FX, LX, hH, ha, hb, hr, ← e1] at h) | skip) | refine And.intro ?_ ?_ | refine nK ‹Imp _ _› ?_) | exact nl | fail
          all_goals first | rfl | (simp at *; done) | skip
end Go.PL
