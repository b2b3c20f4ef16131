/- A plain machine, sound for the given model, and contracts of functions over it, part 32: XP XC XR. Nothing is assumed. -/
import Derived.Test.YtldgmfplnlnhcaaGreatG27
import Derived.Test.YtldgmfplnlnhcaaGreatXV
import Derived.Test.YtldgmfplnlnhcaaGreatEA
set_option linter.unusedSimpArgs false
set_option linter.unusedVariables false
set_option linter.unusedSectionVars false
/- XP -/
namespace Go.PL
open Go Go.Proofs
set_option maxRecDepth 10000
set_option maxHeartbeats 4000000
set_option linter.unusedSimpArgs false
set_option linter.unusedVariables false
theorem sgX_zero : sgX 0 = false := rfl
theorem sgX_iff {x : Rat} : sgX x = true ↔ x < 0 := by
  have e3 : sgX x = decide (x.num < 0) := rfl
  have e2 : x < 0 ↔ x.num < 0 := by
    have := Rat.num_nonneg (q := x)
    rw [← Rat.not_le, ← Int.not_le, this]
  rw [e3, e2, decide_eq_true_eq]
theorem sgX_mul {x y : Rat} (hx : x ≠ 0) (hy : y ≠ 0) : sgX (x * y) = (sgX x != sgX y) := by
  have h := congrArg Q.neg (ofR_mul x y)
  show (ofR (x * y)).neg = _
  rw [← h]
  unfold mulQ mkQ
  simp only
  have h1 := ofR_n0 hx
  have h2 := ofR_n0 hy
  have h3 : ¬ (ofR x).n * (ofR y).n / Nat.gcd ((ofR x).n * (ofR y).n) ((ofR x).d * (ofR y).d) = 0 := by
    rw [div_gcd_zero (Nat.mul_pos (ofR_d x) (ofR_d y))]
    exact Nat.ne_of_gt (Nat.mul_pos h1 h2)
  rw [show decide (0 < (ofR x).n * (ofR y).n / Nat.gcd ((ofR x).n * (ofR y).n) ((ofR x).d * (ofR y).d)) = true by rw [decide_eq_true_eq]; exact Nat.pos_of_ne_zero h3, Bool.and_true]
  rfl
theorem pow_ne {x : Rat} (h : x ≠ 0) (k : Nat) : x ^ k ≠ 0 := by
  induction k with
  | zero => simp
  | succ k ih =>
    rw [Rat.pow_succ]
    intro e
    rcases Rat.mul_eq_zero.1 e with e | e
    · exact ih e
    · exact h e
theorem zero_pow_sg (k : Nat) : sgX ((0 : Rat) ^ k) = false := by
  cases k with
  | zero => simp; rfl
  | succ k => rw [Rat.pow_succ, Rat.mul_zero]; rfl
theorem sgX_pow (x : Rat) (k : Nat) : sgX (x ^ (k + 1)) = (sgX (x ^ k) != sgX x) := by
  by_cases h : x = 0
  · subst h; rw [zero_pow_sg, zero_pow_sg]; rfl
  · rw [Rat.pow_succ, sgX_mul (pow_ne h k) h]
theorem pow_n (x : Rat) (k : Nat) : (ofR x).n ^ k = (ofR (x ^ k)).n := (ofR_pow x k).1.symm
theorem pow_d (x : Rat) (k : Nat) : (ofR x).d ^ k = (ofR (x ^ k)).d := (ofR_pow x k).2.symm
theorem Ln.pow {a : Nat} {x : Rat} (h : Ln a x) : ∀ k, Ln (1 + a * k) (x ^ k)
  | 0 => by
    rw [Rat.pow_zero]
    refine ⟨?_, ?_⟩
    · show (digs 1).length ≤ _; rw [digs_one]; simp
    · show (digs 1).length ≤ _; rw [digs_one]; simp
  | k + 1 => by
    rw [Rat.pow_succ]
    exact (Ln.mul (Ln.pow h k) h).mono (by rw [Nat.mul_succ]; omega)
theorem nuX_zero {x : Rat} : (nuX x).length = 0 ↔ x = 0 := by
  rw [← zero_iff]
  have : ((nuX x).length : Int) = 0 ↔ (ofR x).n = 0 := digs_len0
  omega
theorem deX_zero : deX 0 = [1] := digs_one
instance (x : Rat) (k : Nat) : Con CC 174 [xV x, .d (.i k)] (Ln 40 x ∧ k ≤ 8) (.d (encX (x ^ k))) := by
  constructor; intro ⟨hx, hk⟩
  have hM : ∀ i, i ≤ 8 → CC 81 [.d (encD (nuX (x ^ i))), .d (encD (nuX x))] [] (.d (encD (nuX (x ^ (i + 1))))) [] := fun i hi => by
    have hp := hx.pow i
    have := Nat.mul_le_mul_left 40 hi
    have h := Con.ok (C := CC) (n := 81) (vs := [.d (encD (digs (ofR (x ^ i)).n)), .d (encD (digs (ofR x).n))]) ⟨by have := hp.1; show (digs (x ^ i).num.natAbs).length < 4096; omega, by have := hx.1; show (digs x.num.natAbs).length < 4096; omega⟩
    rw [← pow_n, ← Nat.pow_succ, pow_n x (i + 1)] at h
    rw [pow_n] at h
    exact h
  have hD : ∀ i, i ≤ 8 → CC 81 [.d (encD (deX (x ^ i))), .d (encD (deX x))] [] (.d (encD (deX (x ^ (i + 1))))) [] := fun i hi => by
    have hp := hx.pow i
    have := Nat.mul_le_mul_left 40 hi
    have h := Con.ok (C := CC) (n := 81) (vs := [.d (encD (digs (ofR (x ^ i)).d)), .d (encD (digs (ofR x).d))]) ⟨by have := hp.2; show (digs (x ^ i).den).length < 4096; omega, by have := hx.2; show (digs x.den).length < 4096; omega⟩
    rw [← pow_d, ← Nat.pow_succ, pow_d x (i + 1)] at h
    rw [pow_d] at h
    exact h
  refine Den.pureI Tryz.func174 rfl 2 [.cell 4 42] (by kernel_rfl) rfl rfl (by simp only [initE_nil, initE_cons, Nat.reduceAdd]; exact rfl) ?_
  repeat' first | (with_reducible first | refine nx' ?_ | refine n0 ?_ | refine Wp.drawR (by decide +kernel) ?_ | refine Wp.drawSR [9, 14, 15, 16] [false, false, false, false, false, false, false, false, false, true, false, false, false, false, true, true, true] (.op 9 [0,1,2,3,4,10,11,12,13] (.op 14 [0,1,2,3,4] (.op 15 [] (.op 16 [] .done)))) (by decide +kernel) ?_ | refine n1 ?_ | refine nilB_i fun b hb => ?_ | refine nP ?_ ?_ | refine nS fun K hK => ?_ | (refine n2 ?_ ?_ <;> intro h <;> first | subst (h : _ = true) | subst (h : _ = false) | skip) | refine And.intro ?_ ?_ | refine nK ‹Imp _ _› ?_) | exact nl | fail
  refine Wp.loopR (fun i : Nat => ⟨[(2, .ref 0 0 0), (4, .ref 1 0 0), (5, .ref 2 0 0), (7, .d (.i k)), (8, .d (.i i))], [.var [.d (.b (sgX x)), .d (encD (nuX x)), .d (encD (deX x))] false, .var [.d (.b false), .d (.val (.slice none 0 0)), .d (.val (.slice none 0 0))] false, .var [.d (.b (sgX (x ^ i))), .d (encD (nuX (x ^ i))), .d (encD (deX (x ^ i)))] false]⟩) (fun i => k - i) (fun i => i ≤ k) 0 (by rw [Rat.pow_zero]; exact Weak.lo) (by simp) ?_
  rintro i hi K hK
  have hMi := hM i (by omega)
  have hDi := hD i (by omega)
  have es : (!(sgX (x ^ i) == sgX x)) = sgX (x ^ (i + 1)) := (sgX_pow x i).symm
  repeat' first | (with_reducible first | refine nx' ?_ (by simp -implicitDefEqProofs (disch := omega) only [go_sem, es]; exact rfl) | refine n0 ?_ | refine Wp.drawR (by decide +kernel) ?_ | refine Wp.drawSR [9, 14, 15, 16] [false, false, false, false, false, false, false, false, false, true, false, false, false, false, true, true, true] (.op 9 [0,1,2,3,4,10,11,12,13] (.op 14 [0,1,2,3,4] (.op 15 [] (.op 16 [] .done)))) (by decide +kernel) ?_ | refine n1 ?_ | refine nilB_i fun b hb => ?_ | refine nPc (hMi) ?_ | refine nPc (hDi) ?_ | refine nP ?_ ?_ | refine nS fun K hK => ?_ | (refine n2 ?_ ?_ <;> intro h <;> first | subst (h : _ = true) | subst (h : _ = false) | (simp only [FX, LX, es] at h) | skip) | refine And.intro ?_ ?_ | refine nK ‹Imp _ _› ?_) | exact nl | fail
  · exact ⟨i + 1, by omega, by omega, Weak.lo⟩
  · exfalso
    have h2 : sgX (x ^ i) = true := by assumption
    have e := nuX_zero.1 (show (nuX (x ^ i)).length = 0 by omega)
    rw [e] at h2
    cases h2
  · obtain rfl : i = k := by omega
    have h2 : sgX (x ^ i) = true := by assumption
    rw [h2, show (!((nuX (x ^ i)).length : Int) == 0) = true by rw [Bool.not_eq_true', beq_eq_false_iff_ne]; assumption]
  · obtain rfl : i = k := by omega
    have h2 : sgX (x ^ i) = false := by assumption
    have e := nuX_zero.1 (show (nuX (x ^ i)).length = 0 by omega)
    rw [h2, e, deX_zero]
  · obtain rfl : i = k := by omega
    have h2 : sgX (x ^ i) = false := by assumption
    rw [h2]
instance (x : Rat) (z : Int) : Con CC 174 [xV x, .d (.i z)] (Ln 40 x ∧ 0 ≤ z ∧ z ≤ 8) (.d (encX (x ^ z.toNat))) := by
  constructor; intro ⟨hx, h1, h2⟩
  obtain ⟨k, rfl⟩ : ∃ k : Nat, z = k := ⟨z.toNat, by omega⟩
  exact Con.ok (C := CC) (n := 174) (vs := [xV x, .d (.i k)]) (pre := Ln 40 x ∧ k ≤ 8) ⟨hx, by omega⟩
end Go.PL

/- XC -/
namespace Go.PL
open Go Go.Proofs
set_option maxRecDepth 10000
set_option maxHeartbeats 4000000
set_option linter.unusedSimpArgs false
set_option linter.unusedVariables false
def clampR (x lo hi : Rat) : Rat := if x < lo then lo else if hi < x then hi else x
theorem clampR_1 {x lo hi : Rat} (h : sgnX (x - lo) < 0) : clampR x lo hi = lo := by
  unfold clampR
  rw [if_pos]
  have := sgnX_neg.1 h
  grind
theorem clampR_2 {x lo hi : Rat} (h : 0 ≤ sgnX (x - lo)) (h2 : 0 < sgnX (x - hi)) : clampR x lo hi = hi := by
  unfold clampR
  have h3 : ¬ (x - lo < 0) := fun e => by have := sgnX_neg.2 e; omega
  have h4 : ¬ (x - hi < 0) := fun e => by have := sgnX_neg.2 e; omega
  have h5 : ¬ (x - hi = 0) := fun e => by have := sgnX_zero.2 e; omega
  rw [if_neg (by grind), if_pos (by grind)]
theorem clampR_3 {x lo hi : Rat} (h : 0 ≤ sgnX (x - lo)) (h2 : sgnX (x - hi) ≤ 0) : clampR x lo hi = x := by
  unfold clampR
  have h3 : ¬ (x - lo < 0) := fun e => by have := sgnX_neg.2 e; omega
  have h4 : x - hi < 0 ∨ x - hi = 0 := by
    rcases Int.lt_or_eq_of_le h2 with e | e
    · exact .inl (sgnX_neg.1 e)
    · exact .inr (sgnX_zero.1 e)
  rw [if_neg (by grind), if_neg (by grind)]
theorem cmpX_neg {x y : Rat} : cmpX x y < 0 ↔ sgnX (x - y) < 0 := by
  rw [← cmpX_sgn, sign_if]
  split
  · omega
  · split <;> omega
theorem cmpX_0le {x y : Rat} : 0 ≤ cmpX x y ↔ 0 ≤ sgnX (x - y) := by
  rw [← cmpX_sgn, sign_if]
  split
  · omega
  · split <;> omega
theorem cmpX_pos {x y : Rat} : 0 < cmpX x y ↔ 0 < sgnX (x - y) := by
  rw [← cmpX_sgn, sign_if]
  split
  · omega
  · split <;> omega
theorem cmpX_zero {x y : Rat} : cmpX x y = 0 ↔ x = y := by
  have h : cmpX x y = 0 ↔ sgnX (x - y) = 0 := by
    rw [← cmpX_sgn, sign_if]
    split
    · omega
    · split <;> omega
  rw [h, sgnX_zero]
  grind
def clampV (x l h : List Rat) : List Rat := alongX x.length fun i => clampR (x.getD i 0) (l.getD i 0) (h.getD i 0)
instance (x l h : List Rat) (i : Nat) : Con CC 156 [.d (.i i), .d (.ptr [.sl (x.map encX)]), .d (.ptr [.sl (l.map encX)]), .d (.ptr [.sl (h.map encX)])] (i < x.length ∧ i < l.length ∧ i < h.length ∧ LnV 800 x ∧ LnV 800 l ∧ LnV 800 h) (xV (clampR (x.getD i 0) (l.getD i 0) (h.getD i 0))) := by
  constructor; intro ⟨i1, i2, i3, hx, hl, hh⟩
  have h1 := hx.get i1
  have h2 := hl.get i2
  have h3 := hh.get i3
  refine Den.pureI Tryz.func156 rfl 4 [.cell 5 42] (by kernel_rfl) rfl rfl (by simp only [initE_nil, initE_cons, Nat.reduceAdd]; exact rfl) ?_
  repeat' first | (with_reducible first | refine nx' ?_ | refine n0 ?_ | refine rD ?_ | refine n1 ?_ | refine nilB_i fun b hb => ?_ | refine nP ?_ ?_ | refine nS fun K hK => ?_ | (refine n2 ?_ ?_ <;> intro h <;> first | subst (h : _ = true) | subst (h : _ = false) | skip) | refine And.intro ?_ ?_ | refine nK ‹Imp _ _› ?_) | exact nl | fail
  · rw [clampR_1 (cmpX_neg.1 (by assumption))]
  · rw [clampR_2 (cmpX_0le.1 (by assumption)) (cmpX_pos.1 (by assumption))]
  · rw [clampR_3 (cmpX_0le.1 (by assumption)) (cmpX_le.1 (by assumption))]
theorem clampR_len {a : Nat} {x lo hi : Rat} (hx : Ln a x) (hl : Ln a lo) (hh : Ln a hi) : Ln a (clampR x lo hi) := by
  unfold clampR
  split
  · exact hl
  · split
    · exact hh
    · exact hx
instance (x l h : List Rat) : Con CC 130 [vV x, vV l, vV h] (x.length ≤ 1000 ∧ x.length ≤ l.length ∧ x.length ≤ h.length ∧ LnV 800 x ∧ LnV 800 l ∧ LnV 800 h) (vV (clampV x l h)) := by
  constructor; intro ⟨h0, h1, h2, hx, hl, hh⟩
  have hv := vecOf_c 156 [.ptr [.sl (x.map encX)], .ptr [.sl (l.map encX)], .ptr [.sl (h.map encX)]] x.length (fun i => clampR (x.getD i 0) (l.getD i 0) (h.getD i 0)) h0
    (fun i hi => Con.ok (C := CC) (vs := [.d (.i i), .d (.ptr [.sl (x.map encX)]), .d (.ptr [.sl (l.map encX)]), .d (.ptr [.sl (h.map encX)])]) ⟨hi, by omega, by omega, hx, hl, hh⟩)
    (fun i hi => (clampR_len (hx.get hi) (hl.get (show i < l.length by omega)) (hh.get (show i < h.length by omega))).mono (by omega))
  refine Den.pureI Tryz.func130 rfl 3 [.tmp 6] (by kernel_rfl) rfl rfl (by simp only [initE_nil, initE_cons, Nat.reduceAdd]; exact rfl) ?_
  repeat' first | (with_reducible first | refine nx' ?_ | refine n0 ?_ | refine rD ?_ | refine n1 ?_ | refine nilB_i fun b hb => ?_ | refine nPc (hv) ?_ | refine nP ?_ ?_ | refine nS fun K hK => ?_ | (refine n2 ?_ ?_ <;> intro h <;> first | subst (h : _ = true) | subst (h : _ = false) | skip) | refine And.intro ?_ ?_ | refine nK ‹Imp _ _› ?_) | exact nl | fail
  rfl
instance (x l u : List Rat) : Con CC 108 [vV x, vV l, vV u] (x.length ≤ 1000 ∧ x.length ≤ l.length ∧ x.length ≤ u.length ∧ LnV 800 x ∧ LnV 800 l ∧ LnV 800 u) (vV (clampV x l u)) := by
  constructor; intro ⟨h0, h1, h2, hx, hl, hh⟩
  refine Den.pureI Tryz.func108 rfl 3 [.tmp 6] (by kernel_rfl) rfl rfl (by simp only [initE_nil, initE_cons, Nat.reduceAdd]; exact rfl) ?_
  repeat' first | (with_reducible first | refine nx' ?_ | refine n0 ?_ | refine rD ?_ | refine n1 ?_ | refine nilB_i fun b hb => ?_ | refine nP ?_ ?_ | refine nS fun K hK => ?_ | (refine n2 ?_ ?_ <;> intro h <;> first | subst (h : _ = true) | subst (h : _ = false) | skip) | refine And.intro ?_ ?_ | refine nK ‹Imp _ _› ?_) | exact nl | fail
  refine Wp.loopR (fun i : Nat => ⟨[(0, vV x), (1, vV l), (2, vV u), (7, .msl 0 0 i), (8, .d (.i i))], [.arr 3 ((alongX i fun i => clampR (x.getD i 0) (l.getD i 0) (u.getD i 0)).map encX) false]⟩) (fun i => x.length - i) (fun i => i ≤ x.length) 0 Weak.lo (by simp) ?_
  rintro i hi K hK
  have e := range_snoc (n := i) (p := fun i => clampR (x.getD i 0) (l.getD i 0) (u.getD i 0))
  by_cases hil : i < x.length
  · have k1 := hx.get hil
    have k2 := hl.get (show i < l.length by omega)
    have k3 := hh.get (show i < u.length by omega)
    by_cases g1 : sgnX (x.getD i 0 - l.getD i 0) < 0
    · rw [clampR_1 g1] at e
      repeat' first | (with_reducible first | refine nx' ?_ (by simp -implicitDefEqProofs (disch := omega) only [go_sem, alongX_len, e, decide_eq_true g1]; exact rfl) | refine n0 ?_ | refine rD ?_ | refine n1 ?_ | refine nilB_i fun b hb => ?_ | refine nP ?_ ?_ | refine nS fun K hK => ?_ | (refine n2 ?_ ?_ <;> intro h <;> first | subst (h : _ = true) | subst (h : _ = false) | (simp only [FX, LX, alongX_len, e, decide_eq_true g1] at h) | skip) | refine And.intro ?_ ?_ | refine nK ‹Imp _ _› ?_) | exact nl | fail
      exact ⟨i + 1, by omega, by omega, Weak.cu⟩
    · by_cases g2 : 0 < sgnX (x.getD i 0 - u.getD i 0)
      · rw [clampR_2 (by omega) g2] at e
        repeat' first | (with_reducible first | refine nx' ?_ (by simp -implicitDefEqProofs (disch := omega) only [go_sem, alongX_len, e, decide_eq_false g1, decide_eq_true g2]; exact rfl) | refine n0 ?_ | refine rD ?_ | refine n1 ?_ | refine nilB_i fun b hb => ?_ | refine nP ?_ ?_ | refine nS fun K hK => ?_ | (refine n2 ?_ ?_ <;> intro h <;> first | subst (h : _ = true) | subst (h : _ = false) | (simp only [FX, LX, alongX_len, e, decide_eq_false g1, decide_eq_true g2] at h) | skip) | refine And.intro ?_ ?_ | refine nK ‹Imp _ _› ?_) | exact nl | fail
        exact ⟨i + 1, by omega, by omega, Weak.cu⟩
      · rw [clampR_3 (by omega) (by omega)] at e
        repeat' first | (with_reducible first | refine nx' ?_ (by simp -implicitDefEqProofs (disch := omega) only [go_sem, alongX_len, e, decide_eq_false g1, decide_eq_false g2]; exact rfl) | refine n0 ?_ | refine rD ?_ | refine n1 ?_ | refine nilB_i fun b hb => ?_ | refine nP ?_ ?_ | refine nS fun K hK => ?_ | (refine n2 ?_ ?_ <;> intro h <;> first | subst (h : _ = true) | subst (h : _ = false) | (simp only [FX, LX, alongX_len, e, decide_eq_false g1, decide_eq_false g2] at h) | skip) | refine And.intro ?_ ?_ | refine nK ‹Imp _ _› ?_) | exact nl | fail
        exact ⟨i + 1, by omega, by omega, Weak.cu⟩
  · repeat' first | (with_reducible first | refine nx' ?_ | refine n0 ?_ | refine rD ?_ | refine n1 ?_ | refine nilB_i fun b hb => ?_ | refine nP ?_ ?_ | refine nS fun K hK => ?_ | (refine n2 ?_ ?_ <;> intro h <;> first | subst (h : _ = true) | subst (h : _ = false) | skip) | refine And.intro ?_ ?_ | refine nK ‹Imp _ _› ?_) | exact nl | fail
    obtain rfl : i = x.length := by omega
    rw [List.take_of_length_le (by simp)]
    rfl
end Go.PL

/- XR -/
namespace Go.PL
open Go Go.Proofs
set_option maxRecDepth 10000
set_option maxHeartbeats 4000000
set_option linter.unusedSimpArgs false
set_option linter.unusedVariables false
/-- A problem whose numbers are numbers. -/
abbrev pxD (f : List Nd) (s l u : List Rat) (so : Int) (e : Rat) (it ba : Int) : D := .agg [.sl (f.map encNd), .sl (s.map encX), .sl (l.map encX), .sl (u.map encX), .i so, .b (sgX e), encD (nuX e), encD (deX e), .i it, .i ba]
instance (f : List Nd) (s l u : List Rat) (so : Int) (e : Rat) (it ba : Int) : Con CC 66 [.d (pxD f s l u so e it ba)] (l.length ≤ 1048576) (.d (.b (decide (0 < l.length)))) := by
  constructor; intro pre
  refine Den.pureI Tryz.func66 rfl 1 [.tmp 2] (by kernel_rfl) rfl rfl (by simp only [initE_nil, initE_cons, Nat.reduceAdd]; exact rfl) ?_
  repeat' first | (with_reducible first | refine nx' ?_ | refine n0 ?_ | refine rD ?_ | refine n1 ?_ | refine nilB_i fun b hb => ?_ | refine nP ?_ ?_ | refine nS fun K hK => ?_ | (refine n2 ?_ ?_ <;> intro h <;> first | subst (h : _ = true) | subst (h : _ = false) | skip) | refine And.intro ?_ ?_ | refine nK ‹Imp _ _› ?_) | exact nl | fail
  all_goals (congr 3; rw [decide_eq_decide]; omega)
instance (f : List Nd) (s l u : List Rat) (so : Int) (e : Rat) (it ba : Int) : Con CC 129 [.d (pxD f s l u so e it ba)] (l.length ≤ 1048576) (.d (.b (decide (0 < l.length)))) := by
  constructor; intro pre
  refine Den.pureI Tryz.func129 rfl 1 [.tmp 2] (by kernel_rfl) rfl rfl (by simp only [initE_nil, initE_cons, Nat.reduceAdd]; exact rfl) ?_
  repeat' first | (with_reducible first | refine nx' ?_ | refine n0 ?_ | refine rD ?_ | refine n1 ?_ | refine nilB_i fun b hb => ?_ | refine nP ?_ ?_ | refine nS fun K hK => ?_ | (refine n2 ?_ ?_ <;> intro h <;> first | subst (h : _ = true) | subst (h : _ = false) | skip) | refine And.intro ?_ ?_ | refine nK ‹Imp _ _› ?_) | exact nl | fail
  all_goals (congr 3; rw [decide_eq_decide]; omega)
/-- A box that fits vectors of a length. -/
def boxV (n : Nat) (l u : List Rat) : Prop := n ≤ 4 ∧ (l.length = 0 ∨ (l.length = n ∧ u.length = n)) ∧ LnV 40 l ∧ LnV 40 u
def projV (l u x : List Rat) : List Rat := if 0 < l.length then clampV x l u else x
theorem LnV.mono {a b : Nat} {l : List Rat} (h : LnV a l) (hab : a ≤ b) : LnV b l := fun x hx => (h x hx).mono hab
instance (f : List Nd) (s l u : List Rat) (so : Int) (e : Rat) (it ba : Int) (x : List Rat) : Con CC 85 [.d (pxD f s l u so e it ba), vV x] (boxV x.length l u ∧ LnV 800 x) (vV (projV l u x)) := by
  constructor; intro ⟨⟨h0, hb, hl, hu⟩, hx⟩
  have hl := hl.mono (show 40 ≤ 800 by omega)
  have hu := hu.mono (show 40 ≤ 800 by omega)
  have hx2 := hx.mono (show 800 ≤ 2000 by omega)
  have h3 : l.length ≤ 1048576 := by omega
  by_cases h : 0 < l.length
  · rw [show projV l u x = clampV x l u from if_pos h]
    refine Den.pureI Tryz.func85 rfl 2 [.tmp 4] (by kernel_rfl) rfl rfl (by simp only [initE_nil, initE_cons, Nat.reduceAdd]; exact rfl) ?_
    repeat' first | (with_reducible first | refine nx' ?_ (by simp -implicitDefEqProofs (disch := omega) only [go_sem, decide_eq_true h]; exact rfl) | refine n0 ?_ | refine rD ?_ | refine n1 ?_ | refine nilB_i fun b hb => ?_ | refine nP ?_ ?_ | refine nS fun K hK => ?_ | (refine n2 ?_ ?_ <;> intro h <;> first | subst (h : _ = true) | subst (h : _ = false) | (simp only [FX, LX, decide_eq_true h] at h) | skip) | refine And.intro ?_ ?_ | refine nK ‹Imp _ _› ?_) | exact nl | fail
  · rw [show projV l u x = x from if_neg h]
    refine Den.pureI Tryz.func85 rfl 2 [.tmp 4] (by kernel_rfl) rfl rfl (by simp only [initE_nil, initE_cons, Nat.reduceAdd]; exact rfl) ?_
    repeat' first | (with_reducible first | refine nx' ?_ (by simp -implicitDefEqProofs (disch := omega) only [go_sem, decide_eq_false h]; exact rfl) | refine n0 ?_ | refine rD ?_ | refine n1 ?_ | refine nilB_i fun b hb => ?_ | refine nP ?_ ?_ | refine nS fun K hK => ?_ | (refine n2 ?_ ?_ <;> intro h <;> first | subst (h : _ = true) | subst (h : _ = false) | (simp only [FX, LX, decide_eq_false h] at h) | skip) | refine And.intro ?_ ?_ | refine nK ‹Imp _ _› ?_) | exact nl | fail
instance (f : List Nd) (s l u : List Rat) (so : Int) (e : Rat) (it ba : Int) (x : List Rat) : Con CC 72 [.d (pxD f s l u so e it ba), vV x] (boxV x.length l u ∧ LnV 800 x) (vV (projV l u x)) := by
  constructor; intro ⟨⟨h0, hb, hl, hu⟩, hx⟩
  have hl := hl.mono (show 40 ≤ 800 by omega)
  have hu := hu.mono (show 40 ≤ 800 by omega)
  have h3 : l.length ≤ 1048576 := by omega
  by_cases h : 0 < l.length
  · rw [show projV l u x = clampV x l u from if_pos h]
    refine Den.pureI Tryz.func72 rfl 2 [.tmp 4] (by kernel_rfl) rfl rfl (by simp only [initE_nil, initE_cons, Nat.reduceAdd]; exact rfl) ?_
    repeat' first | (with_reducible first | refine nx' ?_ (by simp -implicitDefEqProofs (disch := omega) only [go_sem, decide_eq_true h]; exact rfl) | refine n0 ?_ | refine rD ?_ | refine n1 ?_ | refine nilB_i fun b hb => ?_ | refine nP ?_ ?_ | refine nS fun K hK => ?_ | (refine n2 ?_ ?_ <;> intro h <;> first | subst (h : _ = true) | subst (h : _ = false) | (simp only [FX, LX, decide_eq_true h] at h) | skip) | refine And.intro ?_ ?_ | refine nK ‹Imp _ _› ?_) | exact nl | fail
  · rw [show projV l u x = x from if_neg h]
    refine Den.pureI Tryz.func72 rfl 2 [.tmp 4] (by kernel_rfl) rfl rfl (by simp only [initE_nil, initE_cons, Nat.reduceAdd]; exact rfl) ?_
    repeat' first | (with_reducible first | refine nx' ?_ (by simp -implicitDefEqProofs (disch := omega) only [go_sem, decide_eq_false h]; exact rfl) | refine n0 ?_ | refine rD ?_ | refine n1 ?_ | refine nilB_i fun b hb => ?_ | refine nP ?_ ?_ | refine nS fun K hK => ?_ | (refine n2 ?_ ?_ <;> intro h <;> first | subst (h : _ = true) | subst (h : _ = false) | (simp only [FX, LX, decide_eq_false h] at h) | skip) | refine And.intro ?_ ?_ | refine nK ‹Imp _ _› ?_) | exact nl | fail
theorem subV_len {x y : List Rat} : (subV x y).length = x.length := by simp [subV]
theorem clampV_len {x l u : List Rat} : (clampV x l u).length = x.length := by simp [clampV]
theorem projV_len {l u x : List Rat} : (projV l u x).length = x.length := by unfold projV; split <;> simp [clampV]
theorem axV_len {k : Rat} {x y : List Rat} : (axV k x y).length = x.length := by simp [axV]
theorem alongX_Ln {a n : Nat} {p : Nat → Rat} (h : ∀ i, i < n → Ln a (p i)) : LnV a (alongX n p) := by
  intro x hx
  simp only [alongX, List.mem_map, List.mem_range] at hx
  obtain ⟨i, hi, rfl⟩ := hx
  exact h i hi
theorem subV_Ln {a b : Nat} {x y : List Rat} (hx : LnV a x) (hy : LnV b y) (h : x.length ≤ y.length) : LnV (a + b + 1) (subV x y) := alongX_Ln fun i hi => by
  rw [Rat.sub_eq_add_neg]
  exact (hx.get hi).add (hy.get (show i < y.length by omega)).neg
theorem projV_Ln {a : Nat} {l u x : List Rat} (hb : boxV x.length l u) (hx : LnV a x) (ha : 40 ≤ a) : LnV a (projV l u x) := by
  obtain ⟨h0, hb, hl, hu⟩ := hb
  unfold projV
  split
  · rename_i h
    exact alongX_Ln fun i hi => clampR_len (hx.get hi) ((hl.get (show i < l.length by omega)).mono ha) ((hu.get (show i < u.length by omega)).mono ha)
  · exact hx
/-- How far a step against the gradient leads, squared. -/
def resR (l u x g : List Rat) : Rat := dotR (subV (projV l u (subV x g)) x) (subV (projV l u (subV x g)) x)
theorem residI_c (f : List Nd) (s l u : List Rat) (so : Int) (e : Rat) (it ba : Int) (x g : List Rat) (hb : boxV x.length l u) (hg : g.length = x.length) (hx : LnV 40 x) (hgl : LnV 40 g) :
    CC 55 [.d (pxD f s l u so e it ba), vV x, vV g] [] (xV (resR l u x g)) [] := by
  have h0 := hb.1
  have h1 := subV_Ln hx hgl (by omega)
  have hb1 : boxV (subV x g).length l u := by rw [subV_len]; exact hb
  have h2 := projV_Ln hb1 h1 (by omega)
  have h3 : LnV 122 (subV (projV l u (subV x g)) x) := subV_Ln h2 hx (by rw [projV_len, subV_len]; omega)
  have hd := dotI_c (subV (projV l u (subV x g)) x) (subV (projV l u (subV x g)) x) (by rw [subV_len, projV_len, subV_len]; omega) (by omega) h3 h3 (by omega)
  have k1 := h1.mono (show 40 + 40 + 1 ≤ 800 by omega)
  have k2 := h2.mono (show 40 + 40 + 1 ≤ 800 by omega)
  have kx := hx.mono (show 40 ≤ 800 by omega)
  have kg := hgl.mono (show 40 ≤ 800 by omega)
  have l1 : (projV l u (subV x g)).length = x.length := by rw [projV_len, subV_len]
  refine Den.pureI Tryz.func55 rfl 3 [.cell 6 42] (by kernel_rfl) rfl rfl (by simp only [initE_nil, initE_cons, Nat.reduceAdd]; exact rfl) ?_
  repeat' first | (with_reducible first | refine nx' ?_ (by simp -implicitDefEqProofs (disch := omega) only [go_sem, l1]; exact rfl) | refine n0 ?_ | refine Wp.drawR (by decide +kernel) ?_ | refine Wp.drawSR [3, 4, 6, 7] [false, false, false, true, true, false, true, true] (.op 3 [0,5] (.op 4 [5] (.op 6 [] (.op 7 [] .done)))) (by decide +kernel) ?_ | refine n1 ?_ | refine nilB_i fun b hb => ?_ | refine nPc (hd) ?_ | refine nP ?_ ?_ | refine nS fun K hK => ?_ | (refine n2 ?_ ?_ <;> intro h <;> first | subst (h : _ = true) | subst (h : _ = false) | (simp only [FX, LX, l1] at h) | skip) | refine And.intro ?_ ?_ | refine nK ‹Imp _ _› ?_) | exact nl | fail
  rfl
theorem residS_c (f : List Nd) (s l u : List Rat) (so : Int) (e : Rat) (it ba : Int) (x g : List Rat) (hb : boxV x.length l u) (hg : g.length = x.length) (hx : LnV 40 x) (hgl : LnV 40 g) :
    CC 74 [.d (pxD f s l u so e it ba), vV x, vV g] [] (xV (resR l u x g)) [] := by
  have h0 := hb.1
  have e1 : axV (-1) g x = subV x g := by
    unfold axV subV
    rw [hg]
    refine List.map_congr_left fun i _ => ?_
    grind
  have h1 := subV_Ln hx hgl (by omega)
  have hb1 : boxV (subV x g).length l u := by rw [subV_len]; exact hb
  have h2 := projV_Ln hb1 h1 (by omega)
  have l1 : (projV l u (subV x g)).length = x.length := by rw [projV_len, subV_len]
  have e2 : axV (-1) (projV l u (subV x g)) x = (subV (projV l u (subV x g)) x).map fun r => -r := by
    unfold axV subV
    rw [List.map_map]
    refine List.map_congr_left fun i _ => ?_
    show _ = -(_ - _)
    grind
  have e3 : ∀ w : List Rat, dotR (w.map fun r => -r) (w.map fun r => -r) = dotR w w := by
    intro w
    have : ∀ i, i ≤ w.length → dotN (w.map fun r => -r) (w.map fun r => -r) i = dotN w w i := by
      intro i
      induction i with
      | zero => intro _; rfl
      | succ i ih =>
        intro hi
        have e : (w.map fun r => -r).getD i 0 = - w.getD i 0 := by simp [List.getD, List.getElem?_eq_getElem (show i < w.length by omega)]
        rw [dotN, dotN, ih (by omega), e]
        grind
    unfold dotR
    rw [List.length_map, this _ (Nat.le_refl _)]
  have h3 : LnV 122 (subV (projV l u (subV x g)) x) := subV_Ln h2 hx (by omega)
  have h4 : LnV 122 (axV (-1) (projV l u (subV x g)) x) := by
    rw [e2]
    intro r hr
    obtain ⟨q, hq, rfl⟩ := List.mem_map.1 hr
    exact (h3 q hq).neg
  have hd := dotS_c (axV (-1) (projV l u (subV x g)) x) (axV (-1) (projV l u (subV x g)) x) (by rw [axV_len]; omega) (by omega) h4 h4 (by omega)
  rw [show dotR (axV (-1) (projV l u (subV x g)) x) (axV (-1) (projV l u (subV x g)) x) = resR l u x g by rw [e2, e3]; rfl] at hd
  have k1 := h1.mono (show 40 + 40 + 1 ≤ 800 by omega)
  have k2 := h2.mono (show 40 + 40 + 1 ≤ 400 by omega)
  have kx := hx.mono (show 40 ≤ 800 by omega)
  have kg := hgl.mono (show 40 ≤ 400 by omega)
  have km : Ln 400 (-1) := Ln.neg ⟨by show (digs 1).length ≤ _; rw [digs_one]; simp, by show (digs 1).length ≤ _; rw [digs_one]; simp⟩
  have c1 : ((-1 : Int) : Rat) = -1 := rfl
  refine Den.pureI Tryz.func74 rfl 3 [.cell 6 42] (by kernel_rfl) rfl rfl (by simp only [initE_nil, initE_cons, Nat.reduceAdd]; exact rfl) ?_
  repeat' first | (with_reducible first | refine nx' ?_ (by simp -implicitDefEqProofs (disch := omega) only [go_sem, l1, c1, e1]; exact rfl) | refine n0 ?_ | refine Wp.drawR (by decide +kernel) ?_ | refine Wp.drawSR [1, 4, 5, 6] [false, true, false, false, true, true, true] (.op 1 [0,2,3] (.op 4 [0] (.op 5 [] (.op 6 [] .done)))) (by decide +kernel) ?_ | refine n1 ?_ | refine nilB_i fun b hb => ?_ | refine nPc (hd) ?_ | refine nP ?_ ?_ | refine nS fun K hK => ?_ | (refine n2 ?_ ?_ <;> intro h <;> first | subst (h : _ = true) | subst (h : _ = false) | (simp only [FX, LX, l1, c1, e1] at h) | skip) | refine And.intro ?_ ?_ | refine nK ‹Imp _ _› ?_) | exact nl | fail
end Go.PL
