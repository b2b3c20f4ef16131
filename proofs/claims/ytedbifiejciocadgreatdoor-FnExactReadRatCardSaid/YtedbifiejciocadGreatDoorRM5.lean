/- A plain machine, sound for the given model, and contracts of functions over it, part 37: RM5. Nothing is assumed. -/
import Derived.Test.YtedbifiejciocadGreatDoorG36
set_option linter.unusedSimpArgs false
set_option linter.unusedVariables false
set_option linter.unusedSectionVars false
/- RM5 -/
namespace Go.PL
open Go Go.Proofs
set_option maxRecDepth 10000
set_option maxHeartbeats 4000000
set_option linter.unusedSimpArgs false
set_option linter.unusedVariables false
/-- What reading answers. -/
def rv (t : List UInt8) : Rt × Int := if 65536 < t.length then (⟨false, [], []⟩, 2) else (outR t, if rdOk t then 0 else 3)
theorem rv_long {t : List UInt8} (h : 65536 < t.length) : rv t = (⟨false, [], []⟩, 2) := if_pos h
theorem rv_no {t : List UInt8} (h : ¬ 65536 < t.length) (hk : rdOk t = false) : rv t = (⟨false, [], []⟩, 3) := by
  unfold rv outR; rw [if_neg h, hk]; rfl
theorem rv_yes {t : List UInt8} (h : ¬ 65536 < t.length) (hk : rdOk t = true) : rv t = (rdVal t, 0) := by
  unfold rv outR; rw [if_neg h, hk]; rfl
theorem outR_no {t : List UInt8} (hk : rdOk t = false) : outR t = ⟨false, [], []⟩ := by unfold outR; rw [hk]; rfl
theorem outR_yes {t : List UInt8} (hk : rdOk t = true) : outR t = rdVal t := by unfold outR; rw [hk]; rfl
instance (t : List UInt8) : Con CC 4 [.d (.s (strT t))] (t.length ≤ 1048576) (.tup [.d (.agg [.b (rv t).1.neg, .sl ((rv t).1.num.map .i), .sl ((rv t).1.den.map .i)]), .d (.i (rv t).2)]) := by
  constructor; intro ht
  have hsz : (strT t).size = t.length := strT_size
  by_cases h : 65536 < t.length
  · rw [rv_long h]
    refine Den.pureI Tryz.func4 rfl 1 [.cell 2 24, .tmp 3] (by kernel_rfl) rfl rfl (by simp only [initE_nil, initE_cons, Nat.reduceAdd]; exact rfl) ?_
    repeat' first | (with_reducible first | refine nx' ?_ (by simp -implicitDefEqProofs (disch := omega) only [go_sem, hsz]; exact rfl) | refine n0 ?_ | refine rD ?_ | refine n1 ?_ | refine nilB_i fun b hb => ?_ | refine nP ?_ ?_ | refine nS fun K hK => ?_ | (refine n2 ?_ ?_ <;> intro h <;> first | subst (h : _ = true) | subst (h : _ = false) | (simp only [FX, LX, hsz] at h) | skip) | refine And.intro ?_ ?_ | refine nK ‹Imp _ _› ?_) | exact nl | fail
    all_goals rfl
  · cases hk : rdOk t with
    | false =>
      rw [rv_no h hk]
      refine Den.pureI Tryz.func4 rfl 1 [.cell 2 24, .tmp 3] (by kernel_rfl) rfl rfl (by simp only [initE_nil, initE_cons, Nat.reduceAdd]; exact rfl) ?_
      repeat' first | (with_reducible first | refine nx' ?_ (by simp -implicitDefEqProofs (disch := omega) only [go_sem, hsz, hk]; exact rfl) | refine n0 ?_ | refine rD ?_ | refine n1 ?_ | refine nilB_i fun b hb => ?_ | refine nP ?_ ?_ | refine nS fun K hK => ?_ | (refine n2 ?_ ?_ <;> intro h <;> first | subst (h : _ = true) | subst (h : _ = false) | (simp only [FX, LX, hsz, hk] at h) | skip) | refine And.intro ?_ ?_ | refine nK ‹Imp _ _› ?_) | exact nl | fail
      all_goals rfl
    | true =>
      have ho := outR_yes hk
      rw [rv_yes h hk]
      refine Den.pureI Tryz.func4 rfl 1 [.cell 2 24, .tmp 3] (by kernel_rfl) rfl rfl (by simp only [initE_nil, initE_cons, Nat.reduceAdd]; exact rfl) ?_
      repeat' first | (with_reducible first | refine nx' ?_ (by simp -implicitDefEqProofs (disch := omega) only [go_sem, hsz, hk, ho]; exact rfl) | refine n0 ?_ | refine rD ?_ | refine n1 ?_ | refine nilB_i fun b hb => ?_ | refine nP ?_ ?_ | refine nS fun K hK => ?_ | (refine n2 ?_ ?_ <;> intro h <;> first | subst (h : _ = true) | subst (h : _ = false) | (simp only [FX, LX, hsz, hk, ho] at h) | skip) | refine And.intro ?_ ?_ | refine nK ‹Imp _ _› ?_) | exact nl | fail
theorem long1 {n : Nat} (h : 65536 < n) : longI 65536 [(n : Int)] = 2 := by unfold longI; rw [if_pos]; simp; omega
theorem long0 {n : Nat} (h : ¬ 65536 < n) : longI 65536 [(n : Int)] = 0 := by unfold longI; rw [if_neg]; simp; omega
theorem ReadRat_long (t : List UInt8) (ht : t.length ≤ 1048576) (h : 65536 < t.length) : CC 5 [.d (.s (strT t))] [] (.tup [.d (.agg [.b false, .sl [], .sl []]), .d (.i 2)]) [] := by
  have hsz : (strT t).size = t.length := strT_size
  have hl := long1 h
  refine Den.pureI Tryz.func5 rfl 1 [.cell 2 24, .tmp 3] (by kernel_rfl) rfl rfl (by simp only [initE_nil, initE_cons, Nat.reduceAdd]; exact rfl) ?_
  repeat' first | (with_reducible first | refine nx' ?_ (by simp -implicitDefEqProofs (disch := omega) only [go_sem, hsz, hl]; exact rfl) | refine n0 ?_ | refine Wp.drawR (by decide +kernel) ?_ | refine Wp.drawSR [2, 3, 4] [false, false, true, true, true] (.op 2 [0] (.op 3 [] (.op 4 [] .done))) (by decide +kernel) ?_ | refine n1 ?_ | refine nilB_i fun b hb => ?_ | refine nP ?_ ?_ | refine nS fun K hK => ?_ | (refine n2 ?_ ?_ <;> intro h <;> first | subst (h : _ = true) | subst (h : _ = false) | (simp only [FX, LX, hsz, hl] at h) | skip) | refine And.intro ?_ ?_ | refine nK ‹Imp _ _› ?_) | exact nl | fail
theorem ReadRat_no (t : List UInt8) (ht : t.length ≤ 1048576) (h : ¬ 65536 < t.length) (hk : rdOk t = false) : CC 5 [.d (.s (strT t))] [] (.tup [.d (.agg [.b false, .sl [], .sl []]), .d (.i 3)]) [] := by
  have hsz : (strT t).size = t.length := strT_size
  have hl := long0 h
  have hr := readRat_no t ht hk
  refine Den.pureI Tryz.func5 rfl 1 [.cell 2 24, .tmp 3] (by kernel_rfl) rfl rfl (by simp only [initE_nil, initE_cons, Nat.reduceAdd]; exact rfl) ?_
  repeat' first | (with_reducible first | refine nx' ?_ (by simp -implicitDefEqProofs (disch := omega) only [go_sem, hsz, hl]; exact rfl) | refine n0 ?_ | refine Wp.drawR (by decide +kernel) ?_ | refine Wp.drawSR [2, 3, 4] [false, false, true, true, true] (.op 2 [0] (.op 3 [] (.op 4 [] .done))) (by decide +kernel) ?_ | refine n1 ?_ | refine nilB_i fun b hb => ?_ | refine nPc (hr) ?_ | refine nP ?_ ?_ | refine nS fun K hK => ?_ | (refine n2 ?_ ?_ <;> intro h <;> first | subst (h : _ = true) | subst (h : _ = false) | (simp only [FX, LX, hsz, hl] at h) | skip) | refine And.intro ?_ ?_ | refine nK ‹Imp _ _› ?_) | exact nl | fail
theorem ReadRat_yes (t : List UInt8) (ht : t.length ≤ 1048576) (h : ¬ 65536 < t.length) (hk : rdOk t = true) : ∃ e1 e2, RdR t e1 e2 ∧ CC 5 [.d (.s (strT t))] [] (.tup [.agg [.d (.b (rdVal t).neg), .msl 1 0 (rdVal t).num.length, .msl 0 0 (rdVal t).den.length], .d (.i 0)]) [.arr 1 (e2.map .i) false, .arr 1 (e1.map .i) false] := by
  have hsz : (strT t).size = t.length := strT_size
  have hl := long0 h
  obtain ⟨e1, e2, hR, hr⟩ := readRat_yes t ht hk
  refine ⟨e1, e2, hR, ?_⟩
  generalize (rdVal t).neg = g at *
  generalize (rdVal t).num.length = a at *
  generalize (rdVal t).den.length = b at *
  refine Den.newG (vs := [.agg [.d (.b g), .msl 1 0 a, .msl 0 0 b], .d (.i 0)]) Tryz.func5 rfl 1 0 [.cell 2 24, .tmp 3] (by kernel_rfl) rfl rfl (by simp only [initE_nil, initE_cons, Nat.reduceAdd]; exact rfl) rfl rfl (by simp) rfl rfl ?_
  repeat' first | (with_reducible first | refine nx' ?_ (by simp -implicitDefEqProofs (disch := omega) only [go_sem, hsz, hl]; exact rfl) | refine n0 ?_ | refine Wp.drawR (by decide +kernel) ?_ | refine Wp.drawSR [2, 3, 4] [false, false, true, true, true] (.op 2 [0] (.op 3 [] (.op 4 [] .done))) (by decide +kernel) ?_ | refine n1 ?_ | refine nilB_i fun b hb => ?_ | refine nPn (hr) ?_ | refine nP ?_ ?_ | refine nS fun K hK => ?_ | (refine n2 ?_ ?_ <;> intro h <;> first | subst (h : _ = true) | subst (h : _ = false) | (simp only [FX, LX, hsz, hl] at h) | skip) | refine And.intro ?_ ?_ | refine nK ‹Imp _ _› ?_) | exact nl | fail
  exact finG_of [(2, .ref 2 0 0), (3, .d (.i 0))] [.var [.d (.b g), .msl 1 0 a, .msl 0 0 b] false, .arr 1 (([(t.length : Int)] : List Int).map .i) false, .var [.d (.b g), .msl 1 0 a, .msl 0 0 b] false] (Weak.perm [2, 3, 0, 1, 4] rfl rfl Weak.lo)
end Go.PL
