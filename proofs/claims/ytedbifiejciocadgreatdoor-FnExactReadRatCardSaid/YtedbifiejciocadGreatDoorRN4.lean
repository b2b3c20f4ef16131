/- A plain machine, sound for the given model, and contracts of functions over it, part 35: RN4. Nothing is assumed. -/
import Derived.Test.YtedbifiejciocadGreatDoorRM3
set_option linter.unusedSimpArgs false
set_option linter.unusedVariables false
set_option linter.unusedSectionVars false
/- RN4 -/
namespace Go.PL
open Go Go.Proofs
set_option maxRecDepth 10000
set_option maxHeartbeats 4000000
set_option linter.unusedSimpArgs false
set_option linter.unusedVariables false
set_option maxHeartbeats 4000000 in
instance (t : List UInt8) : Con CC 9 [.d (.s (strT t))] (t.length ≤ 1048576) (.tup [.d (.agg [.b (outR t).neg, .sl ((outR t).num.map .i), .sl ((outR t).den.map .i)]), .d (.b (rdOk t))]) := by
  constructor; intro ht
  have hsz : (strT t).size = t.length := strT_size
  have hdt : (strT t).data.toList = t := rfl
  have cc : CC 16 [.d (.s (strT (bdT t))), .d (.val (.int .u8 47))] [] (.d (.sl (((spl 47 (bdT t)).map strT).map .s))) [] := Con.ok (C := CC) (vs := [.d (.s (strT (bdT t))), .d (.val (.int .u8 ((47 : UInt8).toNat : Int)))]) (Nat.le_trans (bd_len t) ht)
  have hel : ∀ w ∈ spl 47 (bdT t), w.length ≤ 1048576 := fun w hw => Nat.le_trans (spl_el hw) (Nat.le_trans (bd_len t) ht)
  have no : rdOk t = false → V.tup [V.d (D.agg [D.b false, D.sl [], D.sl []]), V.d (D.b false)] = V.tup [V.d (D.agg [D.b (outR t).neg, D.sl (List.map D.i (outR t).num), D.sl (List.map D.i (outR t).den)]), V.d (D.b (rdOk t))] := fun h => by
    rw [show outR t = ⟨false, [], []⟩ from if_neg (by rw [h]; simp), h]; rfl
  have yes : ∀ x : Rt, rdOk t = true → rdVal t = x → V.tup [V.d (D.agg [D.b x.neg, D.sl (List.map D.i x.num), D.sl (List.map D.i x.den)]), V.d (D.b true)] = V.tup [V.d (D.agg [D.b (outR t).neg, D.sl (List.map D.i (outR t).num), D.sl (List.map D.i (outR t).den)]), V.d (D.b (rdOk t))] := fun x h e => by
    rw [show outR t = rdVal t from if_pos h, h, e]
  cases hg : ngT t with
  | false =>
    have hb : bdT t = t := by unfold bdT; rw [hg]; rfl
    have h45 : ((t.getD 0 0).toNat : Int) ≠ 45 := fun h => by unfold ngT at hg; rw [decide_eq_false_iff_not] at hg; exact hg (u45.1 h)
    have hq : (((t.getD 0 0).toNat : Int) == 45) = false := by rw [beq_eq_false_iff_ne]; exact h45
    have hc2 : strT (bdT t) = strT t := by rw [hb]
    rw [hc2] at cc
    match hs : spl 47 (bdT t) with
    | [] => exact absurd hs (spl_ne _ _)
    | [a] =>
      rw [hs] at cc
      have la := hel a (by rw [hs]; simp)
      have na := rdN_len a
      have g0 : (List.map strT [a]).getD 0 ByteArray.empty = strT a := rfl
      have ok : rdOk t = (okN a && okRat ⟨false, digs (rdN a), [1]⟩) := by unfold rdOk; rw [hs, hg]
      have vl : rdVal t = ⟨false, digs (rdN a), [1]⟩ := by unfold rdVal; rw [hs, hg]
      refine Den.pureI Tryz.func9 rfl 1 [.cell 2 24, .tmp 3] (by kernel_rfl) rfl rfl (by simp only [initE_nil, initE_cons, Nat.reduceAdd]; exact rfl) ?_
      repeat' first | (with_reducible first | refine nx' ?_ (by simp -implicitDefEqProofs (disch := omega) only [go_sem, hsz, hdt, hq, g0]; exact rfl) | refine n0 ?_ | refine rD ?_ | refine n1 ?_ | refine nilB_i fun b hb => ?_ | refine nPc (cc) ?_ | refine nP ?_ ?_ | refine nS fun K hK => ?_ | (refine n2 ?_ ?_ <;> intro h <;> first | subst (h : _ = true) | subst (h : _ = false) | (simp only [FX, LX, hsz, hdt, hq, g0] at h) | skip) | refine And.intro ?_ ?_ | refine nK ‹Imp _ _› ?_) | exact nl | fail
      all_goals (first | exact no ok | exact no (by rw [ok]; simp [*]) | exact yes _ (by rw [ok]; simp [*]) vl | (simp; omega) | skip)
    | [a, b] =>
      rw [hs] at cc
      have la := hel a (by rw [hs]; simp)
      have na := rdN_len a
      have g0 : (List.map strT [a, b]).getD 0 ByteArray.empty = strT a := rfl
      have lb := hel b (by rw [hs]; simp)
      have nb := rdN_len b
      have g1 : (List.map strT [a, b]).getD 1 ByteArray.empty = strT b := rfl
      have ok : rdOk t = (okN a && (okN b && (!(cmpN (rdN b) 1 == 0) && okRat ⟨false, digs (rdN a), digs (rdN b)⟩))) := by unfold rdOk; rw [hs, hg]
      have vl : rdVal t = ⟨false, digs (rdN a), digs (rdN b)⟩ := by unfold rdVal; rw [hs, hg]
      refine Den.pureI Tryz.func9 rfl 1 [.cell 2 24, .tmp 3] (by kernel_rfl) rfl rfl (by simp only [initE_nil, initE_cons, Nat.reduceAdd]; exact rfl) ?_
      repeat' first | (with_reducible first | refine nx' ?_ (by simp -implicitDefEqProofs (disch := omega) only [go_sem, hsz, hdt, hq, g0, g1]; exact rfl) | refine n0 ?_ | refine rD ?_ | refine n1 ?_ | refine nilB_i fun b hb => ?_ | refine nPc (cc) ?_ | refine nP ?_ ?_ | refine nS fun K hK => ?_ | (refine n2 ?_ ?_ <;> intro h <;> first | subst (h : _ = true) | subst (h : _ = false) | (simp only [FX, LX, hsz, hdt, hq, g0, g1] at h) | skip) | refine And.intro ?_ ?_ | refine nK ‹Imp _ _› ?_) | exact nl | fail
      all_goals (first | exact no ok | exact no (by rw [ok]; simp [*]) | exact yes _ (by rw [ok]; simp [*]) vl | (simp; omega) | skip)
    | a :: b :: c :: q =>
      rw [hs] at cc
      have la := hel a (by rw [hs]; simp)
      have na := rdN_len a
      have g0 : (List.map strT (a :: b :: c :: q)).getD 0 ByteArray.empty = strT a := rfl
      have ln : (List.map strT (a :: b :: c :: q)).length = q.length + 3 := by simp
      have ok : rdOk t = false := by unfold rdOk; rw [hs]
      refine Den.pureI Tryz.func9 rfl 1 [.cell 2 24, .tmp 3] (by kernel_rfl) rfl rfl (by simp only [initE_nil, initE_cons, Nat.reduceAdd]; exact rfl) ?_
      repeat' first | (with_reducible first | refine nx' ?_ (by simp -implicitDefEqProofs (disch := omega) only [go_sem, hsz, hdt, hq, g0, ln]; exact rfl) | refine n0 ?_ | refine rD ?_ | refine n1 ?_ | refine nilB_i fun b hb => ?_ | refine nPc (cc) ?_ | refine nP ?_ ?_ | refine nS fun K hK => ?_ | (refine n2 ?_ ?_ <;> intro h <;> first | subst (h : _ = true) | subst (h : _ = false) | (simp only [FX, LX, hsz, hdt, hq, g0, ln] at h) | skip) | refine And.intro ?_ ?_ | refine nK ‹Imp _ _› ?_) | exact nl | fail
      all_goals (first | exact no ok | exact no (by rw [ok]; simp [*]) | exact yes _ (by rw [ok]; simp [*]) vl | (simp; omega) | skip)
  | true =>
    have hb : bdT t = t.drop 1 := by unfold bdT; rw [hg]; rfl
    have h0 : t.getD 0 0 = 45 := by unfold ngT at hg; exact of_decide_eq_true hg
    have hq : (((t.getD 0 0).toNat : Int) == 45) = true := by rw [beq_iff_eq]; exact u45.2 h0
    have hpos : 0 < t.length := by cases t; cases h0; simp
    have hx : (strT t).extract 1 t.length = strT (bdT t) := by rw [hb, strT_ext, List.take_of_length_le (by rw [List.length_drop]; omega)]
    match hs : spl 47 (bdT t) with
    | [] => exact absurd hs (spl_ne _ _)
    | [a] =>
      rw [hs] at cc
      have la := hel a (by rw [hs]; simp)
      have na := rdN_len a
      have g0 : (List.map strT [a]).getD 0 ByteArray.empty = strT a := rfl
      have ok : rdOk t = (okN a && okRat ⟨true, digs (rdN a), [1]⟩) := by unfold rdOk; rw [hs, hg]
      have vl : rdVal t = ⟨true, digs (rdN a), [1]⟩ := by unfold rdVal; rw [hs, hg]
      refine Den.pureI Tryz.func9 rfl 1 [.cell 2 24, .tmp 3] (by kernel_rfl) rfl rfl (by simp only [initE_nil, initE_cons, Nat.reduceAdd]; exact rfl) ?_
      repeat' first | (with_reducible first | refine nx' ?_ (by simp -implicitDefEqProofs (disch := omega) only [go_sem, hsz, hdt, hx, hq, g0]; exact rfl) | refine n0 ?_ | refine rD ?_ | refine n1 ?_ | refine nilB_i fun b hb => ?_ | refine nPc (cc) ?_ | refine nP ?_ ?_ | refine nS fun K hK => ?_ | (refine n2 ?_ ?_ <;> intro h <;> first | subst (h : _ = true) | subst (h : _ = false) | (simp only [FX, LX, hsz, hdt, hx, hq, g0] at h) | skip) | refine And.intro ?_ ?_ | refine nK ‹Imp _ _› ?_) | exact nl | fail
      all_goals (first | exact no ok | exact no (by rw [ok]; simp [*]) | exact yes _ (by rw [ok]; simp [*]) vl | (simp; omega) | skip)
    | [a, b] =>
      rw [hs] at cc
      have la := hel a (by rw [hs]; simp)
      have na := rdN_len a
      have g0 : (List.map strT [a, b]).getD 0 ByteArray.empty = strT a := rfl
      have lb := hel b (by rw [hs]; simp)
      have nb := rdN_len b
      have g1 : (List.map strT [a, b]).getD 1 ByteArray.empty = strT b := rfl
      have ok : rdOk t = (okN a && (okN b && (!(cmpN (rdN b) 1 == 0) && okRat ⟨true, digs (rdN a), digs (rdN b)⟩))) := by unfold rdOk; rw [hs, hg]
      have vl : rdVal t = ⟨true, digs (rdN a), digs (rdN b)⟩ := by unfold rdVal; rw [hs, hg]
      refine Den.pureI Tryz.func9 rfl 1 [.cell 2 24, .tmp 3] (by kernel_rfl) rfl rfl (by simp only [initE_nil, initE_cons, Nat.reduceAdd]; exact rfl) ?_
      repeat' first | (with_reducible first | refine nx' ?_ (by simp -implicitDefEqProofs (disch := omega) only [go_sem, hsz, hdt, hx, hq, g0, g1]; exact rfl) | refine n0 ?_ | refine rD ?_ | refine n1 ?_ | refine nilB_i fun b hb => ?_ | refine nPc (cc) ?_ | refine nP ?_ ?_ | refine nS fun K hK => ?_ | (refine n2 ?_ ?_ <;> intro h <;> first | subst (h : _ = true) | subst (h : _ = false) | (simp only [FX, LX, hsz, hdt, hx, hq, g0, g1] at h) | skip) | refine And.intro ?_ ?_ | refine nK ‹Imp _ _› ?_) | exact nl | fail
      all_goals (first | exact no ok | exact no (by rw [ok]; simp [*]) | exact yes _ (by rw [ok]; simp [*]) vl | (simp; omega) | skip)
    | a :: b :: c :: q =>
      rw [hs] at cc
      have la := hel a (by rw [hs]; simp)
      have na := rdN_len a
      have g0 : (List.map strT (a :: b :: c :: q)).getD 0 ByteArray.empty = strT a := rfl
      have ln : (List.map strT (a :: b :: c :: q)).length = q.length + 3 := by simp
      have ok : rdOk t = false := by unfold rdOk; rw [hs]
      refine Den.pureI Tryz.func9 rfl 1 [.cell 2 24, .tmp 3] (by kernel_rfl) rfl rfl (by simp only [initE_nil, initE_cons, Nat.reduceAdd]; exact rfl) ?_
      repeat' first | (with_reducible first | refine nx' ?_ (by simp -implicitDefEqProofs (disch := omega) only [go_sem, hsz, hdt, hx, hq, g0, ln]; exact rfl) | refine n0 ?_ | refine rD ?_ | refine n1 ?_ | refine nilB_i fun b hb => ?_ | refine nPc (cc) ?_ | refine nP ?_ ?_ | refine nS fun K hK => ?_ | (refine n2 ?_ ?_ <;> intro h <;> first | subst (h : _ = true) | subst (h : _ = false) | (simp only [FX, LX, hsz, hdt, hx, hq, g0, ln] at h) | skip) | refine And.intro ?_ ?_ | refine nK ‹Imp _ _› ?_) | exact nl | fail
      all_goals (first | exact no ok | exact no (by rw [ok]; simp [*]) | exact yes _ (by rw [ok]; simp [*]) vl | (simp; omega) | skip)
end Go.PL
