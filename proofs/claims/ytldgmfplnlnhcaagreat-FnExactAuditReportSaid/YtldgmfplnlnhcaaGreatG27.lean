/- A plain machine, sound for the given model, and contracts of functions over it, part 27: QA QR PlNew XN XQ. Nothing is assumed. -/
import Derived.Test.YtldgmfplnlnhcaaGreatG14
import Derived.Test.YtldgmfplnlnhcaaGreatG24
import Derived.Test.YtldgmfplnlnhcaaGreatG26
set_option linter.unusedSimpArgs false
set_option linter.unusedVariables false
set_option linter.unusedSectionVars false
/- QA -/
namespace Go.PL
open Go Go.Proofs
set_option maxRecDepth 10000
set_option maxHeartbeats 4000000
set_option linter.unusedSimpArgs false
set_option linter.unusedVariables false
instance (b : Bool) (m n : Nat) : Con CC 89 [.d (.b b), .d (encD (digs m)), .d (encD (digs n))] (0 < n ∧ (digs m).length ≤ 2000 ∧ (digs n).length ≤ 2000) (.d (encQ (mkQ b m n))) := by
  constructor; intro ⟨h0, hm, hn⟩
  have hg := gcd_pos (m := m) h0
  have hgl : (digs (Nat.gcd m n)).length ≤ 2000 := Nat.le_trans (digs_len_mono (Nat.le_of_dvd h0 (Nat.gcd_dvd_right m n))) (by omega)
  have hp := digs_len_mono (Nat.div_le_self m (Nat.gcd m n))
  have hq := digs_len_mono (Nat.div_le_self n (Nat.gcd m n))
  by_cases h1 : Nat.gcd m n = 1
  · have hc : cmpN (Nat.gcd m n) 1 = 0 := by rw [h1]; rfl
    have e : mkQ b m n = ⟨b && decide (0 < m), m, n⟩ := by unfold mkQ; rw [h1, Nat.div_one, Nat.div_one]
    rw [e]
    refine Den.pureI Tryz.func89 rfl 3 [.cell 6 42] (by kernel_rfl) rfl rfl (by simp only [initE_nil, initE_cons, Nat.reduceAdd]; exact rfl) ?_
    repeat' first | (with_reducible first | refine nx' ?_ (by simp -implicitDefEqProofs (disch := omega) only [go_sem, hc]; exact rfl) | refine n0 ?_ | refine rD ?_ | refine n1 ?_ | refine nilB_i fun b hb => ?_ | refine nP ?_ ?_ | refine nS fun K hK => ?_ | (refine n2 ?_ ?_ <;> intro h <;> first | subst (h : _ = true) | subst (h : _ = false) | (simp only [FX, LX, hc] at h) | skip) | refine And.intro ?_ ?_ | refine nK ‹Imp _ _› ?_) | exact nl | fail
    all_goals simp only [digs_len_pos', Bool.true_and, Bool.false_and]
  · have hc : (cmpN (Nat.gcd m n) 1 != 0) = true := by
      have := cmpN_eq (m := Nat.gcd m n) (n := 1)
      rw [bne, this]; simp [h1]
    refine Den.pureI Tryz.func89 rfl 3 [.cell 6 42] (by kernel_rfl) rfl rfl (by simp only [initE_nil, initE_cons, Nat.reduceAdd]; exact rfl) ?_
    repeat' first | (with_reducible first | refine nx' ?_ (by simp -implicitDefEqProofs (disch := omega) only [go_sem, hc]; exact rfl) | refine n0 ?_ | refine rD ?_ | refine n1 ?_ | refine nilB_i fun b hb => ?_ | refine nP ?_ ?_ | refine nS fun K hK => ?_ | (refine n2 ?_ ?_ <;> intro h <;> first | subst (h : _ = true) | subst (h : _ = false) | (simp only [FX, LX, hc] at h) | skip) | refine And.intro ?_ ?_ | refine nK ‹Imp _ _› ?_) | exact nl | fail
    all_goals simp only [mkQ, digs_len_pos', Bool.true_and, Bool.false_and]
theorem natAbs_of {z : Int} (h : 0 ≤ z) : ((z.natAbs : Nat) : Int) = z := Int.natAbs_of_nonneg h
def whQ (z : Int) : Q := ⟨decide (z < 0), z.natAbs, 1⟩
instance (z : Int) : Con CC 135 [.d (.i z)] (-1000000000000 < z ∧ z < 1000000000000) (.d (encQ (whQ z))) := by
  constructor; intro ⟨h1, h2⟩
  by_cases h : z < 0
  · obtain ⟨n, rfl⟩ : ∃ n : Nat, z = -(n : Int) := ⟨z.natAbs, by omega⟩
    have e1 : IntKind.i64.wrap (0 - -(n : Int)) = (n : Int) := by rw [w64 (by omega) (by omega)]; omega
    have e2 : whQ (-(n : Int)) = ⟨true, n, 1⟩ := by unfold whQ; rw [decide_eq_true h, Int.natAbs_neg, Int.natAbs_natCast]
    rw [e2]
    refine Den.pureI Tryz.func135 rfl 1 [.cell 2 42] (by kernel_rfl) rfl rfl (by simp only [initE_nil, initE_cons, Nat.reduceAdd]; exact rfl) ?_
    repeat' first | (with_reducible first | refine nx' ?_ (by simp -implicitDefEqProofs (disch := omega) only [go_sem, e1]; exact rfl) | refine n0 ?_ | refine rD ?_ | refine n1 ?_ | refine nilB_i fun b hb => ?_ | refine nP ?_ ?_ | refine nS fun K hK => ?_ | (refine n2 ?_ ?_ <;> intro h <;> first | subst (h : _ = true) | subst (h : _ = false) | (simp only [FX, LX, e1] at h) | skip) | refine And.intro ?_ ?_ | refine nK ‹Imp _ _› ?_) | exact nl | fail
    all_goals first | (rw [encQ_eq, digs_one]; done) | (simp only [encQ_eq, digs_one]; done) | omega
  · obtain ⟨n, rfl⟩ : ∃ n : Nat, z = (n : Int) := ⟨z.natAbs, by omega⟩
    have e2 : whQ (n : Int) = ⟨false, n, 1⟩ := by unfold whQ; rw [decide_eq_false h, Int.natAbs_natCast]
    rw [e2]
    refine Den.pureI Tryz.func135 rfl 1 [.cell 2 42] (by kernel_rfl) rfl rfl (by simp only [initE_nil, initE_cons, Nat.reduceAdd]; exact rfl) ?_
    repeat' first | (with_reducible first | refine nx' ?_ | refine n0 ?_ | refine rD ?_ | refine n1 ?_ | refine nilB_i fun b hb => ?_ | refine nP ?_ ?_ | refine nS fun K hK => ?_ | (refine n2 ?_ ?_ <;> intro h <;> first | subst (h : _ = true) | subst (h : _ = false) | skip) | refine And.intro ?_ ?_ | refine nK ‹Imp _ _› ?_) | exact nl | fail
    all_goals first | (rw [encQ_eq, digs_one]; done) | (simp only [encQ_eq, digs_one]; done) | omega
instance (b : Bool) (m n : Nat) (c : Bool) (u v : Nat) : Con CC 56 [.d (.agg [.b b, encD (digs m), encD (digs n)]), .d (.agg [.b c, encD (digs u), encD (digs v)])] (lenQ 1000 ⟨b, m, n⟩ ∧ lenQ 1000 ⟨c, u, v⟩) (.d (encQ (mulQ ⟨b, m, n⟩ ⟨c, u, v⟩))) := by
  constructor; rintro ⟨⟨a1, a2, a3⟩, b1, b2, b3⟩
  simp only at a1 a2 a3 b1 b2 b3
  have h1 := digs_mul_le m u
  have h2 := digs_mul_le n v
  have h3 := Nat.mul_pos a3 b3
  refine Den.pureI Tryz.func56 rfl 2 [.cell 4 42] (by kernel_rfl) rfl rfl (by simp only [initE_nil, initE_cons, Nat.reduceAdd]; exact rfl) ?_
  repeat' first | (with_reducible first | refine nx' ?_ | refine n0 ?_ | refine Wp.drawR (by decide +kernel) ?_ | refine Wp.drawSR [9, 14, 15, 16] [false, false, false, false, false, false, false, false, false, true, false, false, false, false, true, true, true] (.op 9 [0,1,2,3,4,10,11,12,13] (.op 14 [0,1,2,3,4] (.op 15 [] (.op 16 [] .done)))) (by decide +kernel) ?_ | refine n1 ?_ | refine nilB_i fun b hb => ?_ | refine nP ?_ ?_ | refine nS fun K hK => ?_ | (refine n2 ?_ ?_ <;> intro h <;> first | subst (h : _ = true) | subst (h : _ = false) | skip) | refine And.intro ?_ ?_ | refine nK ‹Imp _ _› ?_) | exact nl | fail
  all_goals rfl
instance (b : Bool) (m n : Nat) (c : Bool) (u v : Nat) : Con CC 186 [.d (.agg [.b b, encD (digs m), encD (digs n)]), .d (.agg [.b c, encD (digs u), encD (digs v)])] (0 < u ∧ lenQ 1000 ⟨b, m, n⟩ ∧ lenQ 1000 ⟨c, u, v⟩) (.d (encQ (divQ ⟨b, m, n⟩ ⟨c, u, v⟩))) := by
  constructor; rintro ⟨b0, ⟨a1, a2, a3⟩, b1, b2, b3⟩
  simp only at a1 a2 a3 b1 b2 b3
  have h1 := digs_mul_le m v
  have h2 := digs_mul_le n u
  have h3 := Nat.mul_pos a3 b0
  refine Den.pureI Tryz.func186 rfl 2 [.cell 4 42] (by kernel_rfl) rfl rfl (by simp only [initE_nil, initE_cons, Nat.reduceAdd]; exact rfl) ?_
  repeat' first | (with_reducible first | refine nx' ?_ | refine n0 ?_ | refine Wp.drawR (by decide +kernel) ?_ | refine Wp.drawSR [9, 14, 15, 16] [false, false, false, false, false, false, false, false, false, true, false, false, false, false, true, true, true] (.op 9 [0,1,2,3,4,10,11,12,13] (.op 14 [0,1,2,3,4] (.op 15 [] (.op 16 [] .done)))) (by decide +kernel) ?_ | refine n1 ?_ | refine nilB_i fun b hb => ?_ | refine nP ?_ ?_ | refine nS fun K hK => ?_ | (refine n2 ?_ ?_ <;> intro h <;> first | subst (h : _ = true) | subst (h : _ = false) | skip) | refine And.intro ?_ ?_ | refine nK ‹Imp _ _› ?_) | exact nl | fail
  all_goals rfl
instance (b : Bool) (x y : List Int) : Con CC 175 [.d (.agg [.b b, encD x, encD y])] True (.d (.b (decide (x.length ≤ 40) && decide (y.length ≤ 40)))) := by
  constructor; intro _
  refine Den.pureI Tryz.func175 rfl 1 [.tmp 2] (by kernel_rfl) rfl rfl (by simp only [initE_nil, initE_cons, Nat.reduceAdd]; exact rfl) ?_
  repeat' first | (with_reducible first | refine nx' ?_ | refine n0 ?_ | refine rD ?_ | refine n1 ?_ | refine nilB_i fun b hb => ?_ | refine nP ?_ ?_ | refine nS fun K hK => ?_ | (refine n2 ?_ ?_ <;> intro h <;> first | subst (h : _ = true) | subst (h : _ = false) | skip) | refine And.intro ?_ ?_ | refine nK ‹Imp _ _› ?_) | exact nl | fail
  all_goals (congr 3; rw [Bool.eq_iff_iff]; simp; omega)
end Go.PL

/- QR -/
namespace Go.PL
/-- A rational's value. -/
def toR (q : Q) : Rat := ((sg q.neg q.n : Int) : Rat) / ((q.d : Nat) : Rat)
/-- In lowest terms. -/
def Can (q : Q) : Prop := 0 < q.d ∧ Nat.gcd q.n q.d = 1 ∧ (q.n = 0 → q.neg = false)
theorem natR_ne {n : Nat} (h : 0 < n) : ((n : Nat) : Rat) ≠ 0 := by
  intro e
  have : ((n : Nat) : Rat) = ((0 : Nat) : Rat) := by simpa using e
  rw [Rat.natCast_inj] at this
  omega
theorem sg_and {b : Bool} {m : Nat} : sg (b && decide (0 < m)) m = sg b m := by
  unfold sg
  cases b <;> by_cases h : 0 < m <;> simp [h]; omega
theorem sg_mul {b : Bool} {g m : Nat} : sg b (g * m) = (g : Int) * sg b m := by
  unfold sg; cases b <;> simp [Int.mul_neg]
theorem div_mulL {g a b : Rat} (hg : g ≠ 0) : (g * a) / (g * b) = a / b := by
  by_cases hb : b = 0
  · subst hb; simp [Rat.div_def]
  · grind
theorem toR_mk {b : Bool} {m n : Nat} (hn : 0 < n) : toR (mkQ b m n) = ((sg b m : Int) : Rat) / ((n : Nat) : Rat) := by
  have hg := gcd_pos (m := m) hn
  have h1 := Nat.mul_div_cancel' (Nat.gcd_dvd_left m n)
  have h2 := Nat.mul_div_cancel' (Nat.gcd_dvd_right m n)
  unfold toR mkQ
  simp only
  rw [sg_and]
  generalize Nat.gcd m n = g at *
  generalize m / g = m' at *
  generalize n / g = n' at *
  subst h1 h2
  rw [sg_mul]
  have := div_mulL (g := ((g : Nat) : Rat)) (a := ((sg b m' : Int) : Rat)) (b := ((n' : Nat) : Rat)) (natR_ne hg)
  rw [Rat.intCast_mul, Rat.natCast_mul, Rat.intCast_natCast, this]
theorem Can_mk {b : Bool} {m n : Nat} (hn : 0 < n) : Can (mkQ b m n) := by
  refine ⟨div_gcd_pos hn, Nat.gcd_div_gcd_div_gcd_of_pos_right hn, fun h => ?_⟩
  unfold mkQ at *
  simp only at *
  simp [h]
theorem Can_neg {a : Q} (h : Can a) : Can (negQ a) := ⟨h.1, h.2.1, fun h0 => by
  have : a.n = 0 := h0
  simp [negQ, this]⟩
theorem toR_neg {a : Q} : toR (negQ a) = - toR a := by
  unfold toR negQ
  simp only
  rw [sg_and]
  have : sg (!a.neg) a.n = - sg a.neg a.n := by unfold sg; cases a.neg <;> simp
  rw [this]
  simp [Rat.div_def, Rat.neg_mul]
theorem sg_xor {a b : Bool} {m n : Nat} : sg (a != b) (m * n) = sg a m * sg b n := by
  unfold sg; cases a <;> cases b <;> simp [Int.mul_neg, Int.neg_mul]
theorem toR_mul {a b : Q} (ha : 0 < a.d) (hb : 0 < b.d) : toR (mulQ a b) = toR a * toR b := by
  unfold mulQ
  rw [toR_mk (Nat.mul_pos ha hb), sg_xor]
  have h1 := natR_ne ha
  have h2 := natR_ne hb
  unfold toR
  rw [Rat.intCast_mul, Rat.natCast_mul]
  grind
theorem toR_add {a b : Q} (ha : 0 < a.d) (hb : 0 < b.d) : toR (addQ a b) = toR a + toR b := by
  have h1 := natR_ne ha
  have h2 := natR_ne hb
  have key : toR (addQ a b) = ((sg a.neg a.n * b.d + sg b.neg b.n * a.d : Int) : Rat) / ((a.d * b.d : Nat) : Rat) := by
    unfold addQ
    split
    · rename_i h
      rw [toR_mk (Nat.mul_pos ha hb), h]
      congr 2
      unfold sg; cases b.neg <;> simp <;> grind
    · rename_i h
      split
      · rename_i h3
        rw [toR_mk (Nat.mul_pos ha hb)]
        congr 2
        unfold sg; cases hx : a.neg <;> cases hy : b.neg <;> simp [hx, hy] at h ⊢ <;> grind
      · rename_i h3
        rw [toR_mk (Nat.mul_pos ha hb)]
        congr 2
        unfold sg; cases hx : a.neg <;> cases hy : b.neg <;> simp [hx, hy] at h ⊢ <;> grind
  rw [key, Rat.intCast_add, Rat.intCast_mul, Rat.intCast_mul, Rat.natCast_mul, Rat.intCast_natCast, Rat.intCast_natCast]
  unfold toR
  grind
theorem Can_add {a b : Q} (ha : 0 < a.d) (hb : 0 < b.d) : Can (addQ a b) := by
  unfold addQ
  split
  · exact Can_mk (Nat.mul_pos ha hb)
  split
  · exact Can_mk (Nat.mul_pos ha hb)
  · exact Can_mk (Nat.mul_pos ha hb)
theorem toR_div {a b : Q} (ha : 0 < a.d) (hb : 0 < b.d) (h0 : 0 < b.n) : toR (divQ a b) = toR a / toR b := by
  unfold divQ
  rw [toR_mk (Nat.mul_pos ha h0)]
  have h1 := natR_ne ha
  have h2 := natR_ne hb
  have h3 := natR_ne h0
  have e : ((sg (a.neg != b.neg) (a.n * b.d) : Int) : Rat) = ((sg a.neg a.n : Int) : Rat) * ((sg b.neg 1 : Int) : Rat) * ((b.d : Nat) : Rat) := by
    rw [← Rat.intCast_mul, ← Rat.intCast_natCast b.d, ← Rat.intCast_mul]
    congr 1
    unfold sg; cases a.neg <;> cases b.neg <;> simp [Int.mul_neg, Int.neg_mul]
  have e2 : ((sg b.neg b.n : Int) : Rat) = ((sg b.neg 1 : Int) : Rat) * ((b.n : Nat) : Rat) := by
    rw [← Rat.intCast_natCast b.n, ← Rat.intCast_mul]
    congr 1
    unfold sg; cases b.neg <;> simp
  have e3 : ((sg b.neg 1 : Int) : Rat) * ((sg b.neg 1 : Int) : Rat) = 1 := by
    rw [← Rat.intCast_mul]
    unfold sg; cases b.neg <;> rfl
  unfold toR
  rw [e, e2, Rat.natCast_mul]
  generalize ((sg b.neg 1 : Int) : Rat) = s at *
  grind
theorem sg_abs {b : Bool} {m : Nat} : (sg b m).natAbs = m := by unfold sg; cases b <;> simp
theorem Can.eq {a b : Q} (ha : Can a) (hb : Can b) (h : toR a = toR b) : a = b := by
  obtain ⟨a1, a2, a3⟩ := ha
  obtain ⟨b1, b2, b3⟩ := hb
  have h1 := natR_ne a1
  have h2 := natR_ne b1
  have key : sg a.neg a.n * b.d = sg b.neg b.n * a.d := by
    unfold toR at h
    have : ((sg a.neg a.n : Int) : Rat) * ((b.d : Nat) : Rat) = ((sg b.neg b.n : Int) : Rat) * ((a.d : Nat) : Rat) := by grind
    rw [← Rat.intCast_natCast, ← Rat.intCast_natCast, ← Rat.intCast_mul, ← Rat.intCast_mul, Rat.intCast_inj] at this
    exact this
  have hn : a.n * b.d = b.n * a.d := by
    have := congrArg Int.natAbs key
    rw [Int.natAbs_mul, Int.natAbs_mul, sg_abs, sg_abs] at this
    simpa using this
  have d1 : a.d ∣ b.d := by
    have : a.d ∣ a.n * b.d := ⟨b.n, by rw [hn, Nat.mul_comm]⟩
    exact (Nat.Coprime.symm a2).dvd_of_dvd_mul_left this
  have d2 : b.d ∣ a.d := by
    have : b.d ∣ b.n * a.d := ⟨a.n, by rw [← hn, Nat.mul_comm]⟩
    exact (Nat.Coprime.symm b2).dvd_of_dvd_mul_left this
  have ed := Nat.dvd_antisymm d1 d2
  have en : a.n = b.n := by
    rw [ed] at hn
    exact Nat.eq_of_mul_eq_mul_right b1 hn
  obtain ⟨x, n, d⟩ := a
  obtain ⟨y, m, e⟩ := b
  simp only at *
  subst ed en
  congr 1
  by_cases h0 : n = 0
  · rw [a3 h0, b3 h0]
  · have hp : (0 : Int) < (n : Int) * d := Int.mul_pos (by omega) (by omega)
    unfold sg at key
    cases x <;> cases y
    · rfl
    · exfalso
      simp only [Bool.false_eq_true, if_false, if_true, Int.neg_mul] at key
      omega
    · exfalso
      simp only [Bool.false_eq_true, if_false, if_true, Int.neg_mul] at key
      omega
    · rfl
/-- A rational in lowest terms, of a number. -/
def ofR (x : Rat) : Q := ⟨decide (x.num < 0), x.num.natAbs, x.den⟩
theorem ofR_d (x : Rat) : 0 < (ofR x).d := x.den_pos
theorem Can_of (x : Rat) : Can (ofR x) := ⟨x.den_pos, x.reduced, fun h => by
  have : x.num = 0 := Int.natAbs_eq_zero.1 h
  simp [ofR, this]⟩
theorem sg_num (z : Int) : sg (decide (z < 0)) z.natAbs = z := by
  unfold sg
  by_cases h : z < 0
  · simp [h]; omega
  · simp [h]; omega
theorem toR_of (x : Rat) : toR (ofR x) = x := by
  unfold toR ofR
  simp only
  rw [sg_num]
  have h1 := Rat.num_divInt_den x
  rw [Rat.divInt_eq_div, Rat.intCast_natCast] at h1
  exact h1
theorem ofR_toR {q : Q} (h : Can q) : ofR (toR q) = q := (Can_of _).eq h (toR_of _)
theorem ofR_add (x y : Rat) : addQ (ofR x) (ofR y) = ofR (x + y) :=
  (Can_add (ofR_d x) (ofR_d y)).eq (Can_of _) (by rw [toR_add (ofR_d x) (ofR_d y), toR_of, toR_of, toR_of])
theorem ofR_mul (x y : Rat) : mulQ (ofR x) (ofR y) = ofR (x * y) :=
  (Can_mk (Nat.mul_pos (ofR_d x) (ofR_d y))).eq (Can_of _) (by
    have := toR_mul (ofR_d x) (ofR_d y)
    unfold mulQ at this
    rw [this, toR_of, toR_of, toR_of])
theorem ofR_neg (x : Rat) : negQ (ofR x) = ofR (-x) := (Can_neg (Can_of x)).eq (Can_of _) (by rw [toR_neg, toR_of, toR_of])
theorem ofR_n0 {y : Rat} (h : y ≠ 0) : 0 < (ofR y).n := by
  have : y.num ≠ 0 := fun e => h (Rat.num_eq_zero.1 e)
  show 0 < y.num.natAbs
  omega
theorem ofR_div (x : Rat) {y : Rat} (h : y ≠ 0) : divQ (ofR x) (ofR y) = ofR (x / y) :=
  (Can_mk (Nat.mul_pos (ofR_d x) (ofR_n0 h))).eq (Can_of _) (by
    have := toR_div (ofR_d x) (ofR_d y) (ofR_n0 h)
    unfold divQ at this
    rw [this, toR_of, toR_of, toR_of])
theorem ofR_inj {x y : Rat} (h : ofR x = ofR y) : x = y := by rw [← toR_of x, h, toR_of]
/-- Not longer than some limbs. -/
def Ln (a : Nat) (x : Rat) : Prop := (digs x.num.natAbs).length ≤ a ∧ (digs x.den).length ≤ a
theorem Ln.q {a : Nat} {x : Rat} (h : Ln a x) : lenQ a (ofR x) := ⟨h.1, h.2, x.den_pos⟩
theorem Ln.of {a : Nat} {x : Rat} (h : lenQ a (ofR x)) : Ln a x := ⟨h.1, h.2.1⟩
theorem Ln.mono {a b : Nat} {x : Rat} (h : Ln a x) (hab : a ≤ b) : Ln b x := ⟨Nat.le_trans h.1 hab, Nat.le_trans h.2 hab⟩
theorem Ln.neg {a : Nat} {x : Rat} (h : Ln a x) : Ln a (-x) := by
  refine .of ?_
  rw [← ofR_neg]
  exact h.q
theorem Ln.mul {a b : Nat} {x y : Rat} (h : Ln a x) (k : Ln b y) : Ln (a + b) (x * y) := by
  refine .of ?_
  rw [← ofR_mul]
  refine mkQ_len ?_ ?_ (Nat.mul_pos (ofR_d x) (ofR_d y))
  · exact Nat.le_trans (digs_mul_le _ _) (Nat.add_le_add h.1 k.1)
  · exact Nat.le_trans (digs_mul_le _ _) (Nat.add_le_add h.2 k.2)
theorem digs_sub_le {m n L : Nat} (hm : (digs m).length ≤ L) : (digs (m - n)).length ≤ L := Nat.le_trans (digs_len_mono (Nat.sub_le m n)) hm
theorem Ln.add {a b : Nat} {x y : Rat} (h : Ln a x) (k : Ln b y) : Ln (a + b + 1) (x + y) := by
  refine .of ?_
  rw [← ofR_add]
  have h1 : (digs ((ofR x).n * (ofR y).d)).length ≤ a + b := Nat.le_trans (digs_mul_le _ _) (Nat.add_le_add h.1 k.2)
  have h2 : (digs ((ofR y).n * (ofR x).d)).length ≤ a + b := Nat.le_trans (digs_mul_le _ _) (by rw [Nat.add_comm a b]; exact Nat.add_le_add k.1 h.2)
  have h3 : (digs ((ofR x).d * (ofR y).d)).length ≤ a + b + 1 := Nat.le_trans (digs_mul_le _ _) (Nat.le_succ_of_le (Nat.add_le_add h.2 k.2))
  have hp := Nat.mul_pos (ofR_d x) (ofR_d y)
  unfold addQ
  split
  · exact mkQ_len (digs_add_le h1 h2) h3 hp
  split
  · exact mkQ_len (Nat.le_succ_of_le (digs_sub_le h1)) h3 hp
  · exact mkQ_len (Nat.le_succ_of_le (digs_sub_le h2)) h3 hp
theorem Ln.div {a b : Nat} {x y : Rat} (h : Ln a x) (k : Ln b y) (h0 : y ≠ 0) : Ln (a + b) (x / y) := by
  refine .of ?_
  rw [← ofR_div x h0]
  refine mkQ_len ?_ ?_ (Nat.mul_pos (ofR_d x) (ofR_n0 h0))
  · exact Nat.le_trans (digs_mul_le _ _) (Nat.add_le_add h.1 k.2)
  · exact Nat.le_trans (digs_mul_le _ _) (Nat.add_le_add h.2 k.1)
end Go.PL

/- PlNew -/
/- Calls that hand out objects, and calls that write to the caller's objects; the steps of the walk over them. -/
namespace Go.PL
open Go
/-- The end of a walk: what is handed out, less known of the frame; behind the objects that stay, others are left. -/
def finG (T : Tab) (m : Nat) (rs : List ResultVar) (vs : List V) (os' : List Ob) (s : St) : Prop :=
  ∃ s' tl, Weak m s s' ∧ resVs T s' rs = some vs ∧ s'.os = os' ++ tl ∧ vs.map (asD s'.os) = vs
theorem finG_of {T : Tab} {m : Nat} {rs : List ResultVar} {vs : List V} {os' : List Ob} {s : St} (env : List (Nat × V)) (tl : List Ob) (hw : Weak m s ⟨env, os' ++ tl⟩)
    (h1 : resVs T ⟨env, os' ++ tl⟩ rs = some vs := by exact rfl) (h2 : vs.map (asD (os' ++ tl)) = vs := by exact rfl) : finG T m rs vs os' s := ⟨_, tl, hw, h1, rfl, h2⟩
theorem Den.newG {P : Program} {T : Tab} [TOk T P] {X : Call} {f : FuncId} {fn : Func} {body : Code} {a : List V} {vs : List V} {r : V} {env : List (Nat × V)} {os os' : List Ob} (hf : P.funcs[f]? = some fn) (hb : fn.body = some body) (n m : Nat) (rs : List ResultVar)
    (ho : okFn fn n = true) (hn : a.length = n) (hrs : fn.results.toList = rs) (he : initE 0 a = env) (hv : resOf vs = r) (hm : os.length = m) (hl : m ≤ os'.length) (hr : r.bndR os'.length = true) (hd : os'.all (Ob.bnd os'.length) = true)
    (h : Wp T (Den P T X) m body ⟨env, os⟩ (endQ (finG T m rs vs os'))) : Den P T X f a os r os' := by
  subst hm
  subst hv
  refine Den.of hf hb n ho hn (.mono (by rw [init_eq, he]; exact h) ?_)
  have key : ∀ s, finG T os.length rs vs os' s → ∃ s', Weak os.length s s' ∧ Ends T fn os.length s' (resOf vs) os' := by
    rintro s ⟨s', tl, h1, h2, h3, h4⟩
    exact ⟨s', h1, .mk vs tl (by rw [hrs]; exact h2) (by rw [h4]; exact .refl _) h3 hl hr hd⟩
  intro e s hs
  cases e with
  | ret => exact ⟨.inl rfl, key s hs⟩
  | normal => exact ⟨.inr rfl, key s hs⟩
  | exit n => exact hs.elim
section
variable {T : Tab} {C : Call} {nF : Nat} {env : List (Nat × V)} {os : List Ob} {K : St → Prop} {f : Operand} {args : List Operand} {ats : Array TypeId} {n : FuncId} {us : List V} {l : List Nat}
theorem wCN0 {N : List Ob} {r : V} (e : callV (ev env f) (evL env args) os = some (n, us, l)) (h : C n us [] r N) (hN : N.all Ob.plain = true) (hs : r.scal = false) (k : K ⟨env, freeze os l ++ N⟩) :
    op1R T C nF none (.call { callee := .value f, args := args.toArray, argTypes := ats }) ⟨env, os⟩ K := by
  obtain ⟨vs, ds, h1, h2, h3⟩ := callV_inv e
  rw [r1_call0, h1]
  refine .inl ⟨ds, l, r, N, h2, by rw [dV_eq] at h3; rw [h3]; exact h, hN, ?_⟩
  simp only [hs, Bool.false_eq_true, false_and, if_false]
  exact k
theorem wCm0 {os' : List Ob} {r : V} (e : calleeR (ev env f) (evL env args) = some (n, us)) (h : C n us os r os') (k : K ⟨env, os'⟩) :
    op1R T C nF none (.call { callee := .value f, args := args.toArray, argTypes := ats }) ⟨env, os⟩ K := by
  rw [r1_call0, e]
  exact .inr ⟨r, os', h, k⟩
end
def sh1L (n : Nat) : List V → List V
  | [] => []
  | x :: r => V.shift1 n x :: sh1L n r
def sh2L (n : Nat) : List V → List V
  | [] => []
  | x :: r => V.shift2 n x :: sh2L n r
theorem sh1L_eq {n : Nat} : ∀ l, l.map (V.shift1 n) = sh1L n l
  | [] => rfl
  | x :: r => by rw [List.map_cons, sh1L_eq r]; rfl
theorem sh2L_eq {n : Nat} : ∀ l, l.map (V.shift2 n) = sh2L n l
  | [] => rfl
  | x :: r => by rw [List.map_cons, sh2L_eq r]; rfl
theorem sh_tup {n : Nat} {cs : List V} : V.shift n (.tup cs) = .tup (sh2L n cs) := by show V.tup (cs.map _) = _; rw [sh2L_eq]
theorem sh_agg {n : Nat} {cs : List V} : V.shift n (.agg cs) = .agg (sh1L n cs) := by show V.agg (cs.map _) = _; rw [sh1L_eq]
theorem sh_d {n : Nat} {x : D} : V.shift n (.d x) = .d x := rfl
theorem sh_ref {n o i j : Nat} : V.shift n (.ref o i j) = .ref (n + o) i j := rfl
theorem sh2_agg {n : Nat} {cs : List V} : V.shift2 n (.agg cs) = .agg (sh1L n cs) := by show V.agg (cs.map _) = _; rw [sh1L_eq]
theorem sh2_d {n : Nat} {x : D} : V.shift2 n (.d x) = .d x := rfl
theorem sh2_ref {n o i j : Nat} : V.shift2 n (.ref o i j) = .ref (n + o) i j := rfl
theorem sh2_msl {n o i j : Nat} : V.shift2 n (.msl o i j) = .msl (n + o) i j := rfl
theorem sh1_d {n : Nat} {x : D} : V.shift1 n (.d x) = .d x := rfl
theorem sh1_ref {n o i j : Nat} : V.shift1 n (.ref o i j) = .ref (n + o) i j := rfl
theorem sh1_msl {n o i j : Nat} : V.shift1 n (.msl o i j) = .msl (n + o) i j := rfl
theorem sh1L_nil {n : Nat} : sh1L n [] = [] := rfl
theorem sh1L_cons {n : Nat} {x : V} {r : List V} : sh1L n (x :: r) = V.shift1 n x :: sh1L n r := rfl
theorem sh2L_nil {n : Nat} : sh2L n [] = [] := rfl
theorem sh2L_cons {n : Nat} {x : V} {r : List V} : sh2L n (x :: r) = V.shift2 n x :: sh2L n r := rfl
theorem ren_agg {f : Nat → Nat} {cs : List V} : V.ren f (.agg cs) = .agg (cs.map (V.ren1 f)) := rfl
attribute [go_sem] sh_tup sh_agg sh_d sh_ref sh2_agg sh2_d sh2_ref sh2_msl sh1_d sh1_ref sh1_msl sh1L_nil sh1L_cons sh2L_nil sh2L_cons
/-- A call that hands out objects. -/
theorem nPn {C : Call} {n : FuncId} {vs : List V} {r : V} {N : List Ob} {P Q : Prop} (hc : C n vs [] r N) (h2 : Q) (e : C n vs [] r N → Q → P := by
  intro a b
  first
  | (refine wCN (by simp -implicitDefEqProofs (disch := omega) only [callV, go_sem]; first | done | exact rfl | fail) a rfl rfl ?_; refine Eq.mpr ?_ b; simp -implicitDefEqProofs (disch := omega) only [go_sem]; exact rfl)
  | (refine wCN0 (by simp -implicitDefEqProofs (disch := omega) only [callV, go_sem]; first | done | exact rfl | fail) a rfl rfl ?_; refine Eq.mpr ?_ b; simp -implicitDefEqProofs (disch := omega) only [go_sem]; exact rfl)
  | fail) : P := e hc h2
/-- A call that works on the caller's objects. -/
theorem nPm {C : Call} {n : FuncId} {vs : List V} {os os' : List Ob} {r : V} {P Q : Prop} (hc : C n vs os r os') (h2 : Q) (e : C n vs os r os' → Q → P := by
  intro a b
  first
  | (refine wCm (by simp -implicitDefEqProofs (disch := omega) only [calleeR, go_sem]; first | done | exact rfl | fail) a ?_; refine Eq.mpr ?_ b; simp -implicitDefEqProofs (disch := omega) only [go_sem]; exact rfl)
  | (refine wCm0 (by simp -implicitDefEqProofs (disch := omega) only [calleeR, go_sem]; first | done | exact rfl | fail) a ?_; refine Eq.mpr ?_ b; simp -implicitDefEqProofs (disch := omega) only [go_sem]; exact rfl)
  | fail) : P := e hc h2
end Go.PL

/- XN -/
namespace Go.PL
open Go Go.Proofs
set_option maxRecDepth 10000
set_option maxHeartbeats 4000000
set_option linter.unusedSimpArgs false
set_option linter.unusedVariables false
theorem max_if (a b : Int) : (if a < b then b else a) = max a b := by rw [Int.max_def]; split <;> split <;> omega
instance (m n : Nat) : Con CC 159 [.d (encD (digs m)), .d (encD (digs n))] ((digs m).length < 4096 ∧ (digs n).length < 4096) (.d (encD (digs (m + n)))) := by
  constructor; intro ⟨hm, hn⟩
  have hdm := Dig.digs m
  have hdn := Dig.digs n
  have hvm := val_digs m
  have hvn := val_digs n
  have hgm := @digs_len_ge m
  have hgn := @digs_len_ge n
  generalize digs m = a at *
  generalize digs n = b at *
  refine Den.pureI Tryz.func159 rfl 2 [.tmp 4] (by kernel_rfl) rfl rfl (by simp only [initE_nil, initE_cons, Nat.reduceAdd]; exact rfl) ?_
  repeat' first | (with_reducible first | refine nx' ?_ | refine n0 ?_ | refine rD ?_ | refine n1 ?_ | refine nilB_i fun b hb => ?_ | refine nP ?_ ?_ | refine nS fun K hK => ?_ | (refine n2 ?_ ?_ <;> intro h <;> first | subst (h : _ = true) | subst (h : _ = false) | skip) | refine And.intro ?_ ?_ | refine nK ‹Imp _ _› ?_) | exact nl | fail
  refine Wp.loopR (fun x : Nat × Int × List Int => ⟨[(0, .d (encD a)), (1, .d (encD b)), (5, .msl 0 0 x.2.2.length), (6, .d (.i x.2.1)), (7, .d (.i x.1))], [.arr 1 (x.2.2.map .i) false]⟩) (fun x => 4097 - x.1)
    (fun x => addI a b (m + n) x.1 x.2.1 x.2.2) (0, 0, []) Weak.lo addI_zero ?_
  rintro ⟨i, c, l⟩ hI K hK
  simp only at hI ⊢
  obtain ⟨hl, hd, hc0, hc1, hv, ht, hi⟩ := id hI
  have ga := hdm.get i
  have gb := hdn.get i
  have st := fun s => addI_step (s := s) hdm hdn hvm hvn hm hn hgm hgn hI
  repeat' first | (with_reducible first | refine nx' ?_ (by simp -implicitDefEqProofs (disch := omega) only [go_sem, max_if]; exact rfl) | refine n0 ?_ | refine rD ?_ | refine n1 ?_ | refine nilB_i fun b hb => ?_ | refine nP ?_ ?_ | refine nS fun K hK => ?_ | (refine n2 ?_ ?_ <;> intro h <;> first | subst (h : _ = true) | subst (h : _ = false) | (simp only [FX, LX, max_if] at h) | skip) | refine And.intro ?_ ?_ | refine nK ‹Imp _ _› ?_) | exact nl | fail
  · have h3 := st _ rfl (by omega)
    exact ⟨(i + 1, _, _), by have := h3.2.2.2.2.2.2; simp only; omega, h3, Weak.cu⟩
  · have h3 := st (c + a.getD i 0) (by rw [getD_over (by omega : b.length ≤ i)]; omega) (by omega)
    exact ⟨(i + 1, _, _), by have := h3.2.2.2.2.2.2; simp only; omega, h3, Weak.cu⟩
  · have h3 := st (c + b.getD i 0) (by rw [getD_over (by omega : a.length ≤ i)]; omega) (by omega)
    exact ⟨(i + 1, _, _), by have := h3.2.2.2.2.2.2; simp only; omega, h3, Weak.cu⟩
  · have h3 := st c (by rw [getD_over (by omega : a.length ≤ i), getD_over (by omega : b.length ≤ i)]; omega) (by omega)
    exact ⟨(i + 1, _, _), by have := h3.2.2.2.2.2.2; simp only; omega, h3, Weak.cu⟩
  · rw [addI_end hvm hvn hI (by omega) (by omega) (by omega)]
instance (m n : Nat) : Con CC 160 [.d (encD (digs m)), .d (encD (digs n))] (n ≤ m ∧ (digs m).length < 4096) (.d (encD (digs (m - n)))) := by
  constructor; intro ⟨hmn, hm⟩
  by_cases h0 : (digs m).length = 0
  · have e1 : digs m = [] := List.eq_nil_of_length_eq_zero h0
    have e2 : m = 0 := digs_nil.1 e1
    subst e2
    obtain rfl : n = 0 := by omega
    rw [e1]
    refine Den.pureI Tryz.func160 rfl 2 [.tmp 4] (by kernel_rfl) rfl rfl (by simp only [initE_nil, initE_cons, Nat.reduceAdd]; exact rfl) ?_
    repeat' first | (with_reducible first | refine nx' ?_ | refine n0 ?_ | refine rD ?_ | refine n1 ?_ | refine nilB_i fun b hb => ?_ | refine nP ?_ ?_ | refine nS fun K hK => ?_ | (refine n2 ?_ ?_ <;> intro h <;> first | subst (h : _ = true) | subst (h : _ = false) | skip) | refine And.intro ?_ ?_ | refine nK ‹Imp _ _› ?_) | exact nl | fail
    refine Wp.loopR (fun _ : Unit => ⟨[(5, .d (.sl [])), (12, .d (.i 0)), (13, .d (.i 0))], []⟩) (fun _ => 0) (fun _ => True) () Weak.lo trivial ?_
    rintro _ _ K hK
    have hT : CC 124 [.d (.sl [])] [] (.d (.sl [])) [] := Con.ok (C := CC) (n := 124) (vs := [.d (encD [])]) (by simp)
    repeat' first | (with_reducible first | refine nx' ?_ | refine n0 ?_ | refine rD ?_ | refine n1 ?_ | refine nilB_i fun b hb => ?_ | refine nPc (hT) ?_ | refine nP ?_ ?_ | refine nS fun K hK => ?_ | (refine n2 ?_ ?_ <;> intro h <;> first | subst (h : _ = true) | subst (h : _ = false) | skip) | refine And.intro ?_ ?_ | refine nK ‹Imp _ _› ?_) | exact nl | fail
    rfl
  have hdm := Dig.digs m
  have hdn := Dig.digs n
  have hvm := val_digs m
  have hvn := val_digs n
  have hlen : (digs n).length ≤ (digs m).length := by
    rcases Nat.lt_or_ge (digs m).length (digs n).length with h | h
    · have := len_lt h; omega
    · exact h
  have hcl := clone_new (digs m) (by omega) (by omega)
  generalize digs m = a at *
  generalize digs n = b at *
  refine Den.pureI Tryz.func160 rfl 2 [.tmp 4] (by kernel_rfl) rfl rfl (by simp only [initE_nil, initE_cons, Nat.reduceAdd]; exact rfl) ?_
  repeat' first | (with_reducible first | refine nx' ?_ | refine n0 ?_ | refine rD ?_ | refine n1 ?_ | refine nilB_i fun b hb => ?_ | refine nPn (hcl) ?_ | refine nP ?_ ?_ | refine nS fun K hK => ?_ | (refine n2 ?_ ?_ <;> intro h <;> first | subst (h : _ = true) | subst (h : _ = false) | skip) | refine And.intro ?_ ?_ | refine nK ‹Imp _ _› ?_) | exact nl | fail
  refine Wp.loopR (fun x : Nat × Int × List Int => ⟨[(1, .d (encD b)), (5, .msl 0 0 x.2.2.length), (6, .d (.i x.2.1)), (12, .d (.i a.length)), (13, .d (.i x.1))], [.arr 1 (x.2.2.map .i) false]⟩) (fun x => a.length - x.1)
    (fun x => x.1 ≤ a.length ∧ x.2.2.length = a.length ∧ Dig x.2.2 ∧ x.2.2.drop x.1 = a.drop x.1 ∧ 0 ≤ x.2.1 ∧ x.2.1 ≤ 1 ∧ val (x.2.2.take x.1) - 10000 ^ x.1 * x.2.1 = val (a.take x.1) - val (b.take x.1)) (0, 0, a)
    Weak.lo ⟨by simp, rfl, hdm, rfl, by simp, by simp, by simp [val]⟩ ?_
  rintro ⟨i, c, l⟩ ⟨hi, hl, hd, hdr, hc0, hc1, hv⟩ K hK
  simp only at hi hl hd hdr hc0 hc1 hv ⊢
  have ga := hdm.get i
  have gb := hdn.get i
  have gl := hd.get i
  have key : ∀ d : Int, i < a.length → 0 ≤ d → d ≤ 1 → 0 ≤ a.getD i 0 - c - b.getD i 0 + d * 10000 → a.getD i 0 - c - b.getD i 0 + d * 10000 < 10000 →
      (l.set i (a.getD i 0 - c - b.getD i 0 + d * 10000)).length = a.length ∧ Dig (l.set i (a.getD i 0 - c - b.getD i 0 + d * 10000)) ∧ (l.set i (a.getD i 0 - c - b.getD i 0 + d * 10000)).drop (i + 1) = a.drop (i + 1) ∧
      val ((l.set i (a.getD i 0 - c - b.getD i 0 + d * 10000)).take (i + 1)) - 10000 ^ (i + 1) * d = val (a.take (i + 1)) - val (b.take (i + 1)) := by
    intro d hia h1 h2 h3 h4
    refine ⟨by simp [hl], hd.set _ h3 h4, ?_, ?_⟩
    · rw [List.drop_set_of_lt (by omega), show i + 1 = 1 + i by omega, Nat.add_comm 1 i, ← List.drop_drop, ← List.drop_drop, hdr]
    · have e : (l.set i (a.getD i 0 - c - b.getD i 0 + d * 10000)).take (i + 1) = l.take i ++ [a.getD i 0 - c - b.getD i 0 + d * 10000] := by
        rw [List.take_add_one, List.getElem?_set_self (by omega), List.take_set_of_le (Nat.le_refl _)]; rfl
      rw [e]
      exact sub_step (by rw [List.length_take]; omega) hv
  have hli : i < a.length → l.getD i 0 = a.getD i 0 := fun hia => by
    have e1 := congrArg (fun t => t.getD 0 0) hdr
    simpa [List.getD] using e1
  by_cases hia : i < a.length
  · have hli := hli hia
    repeat' first | (with_reducible first | refine nx' ?_ (by simp -implicitDefEqProofs (disch := omega) only [go_sem, hli]; exact rfl) | refine n0 ?_ | refine rD ?_ | refine n1 ?_ | refine nilB_i fun b hb => ?_ | refine nP ?_ ?_ | refine nS fun K hK => ?_ | (refine n2 ?_ ?_ <;> intro h <;> first | subst (h : _ = true) | subst (h : _ = false) | (simp only [FX, LX, hli] at h) | skip) | refine And.intro ?_ ?_ | refine nK ‹Imp _ _› ?_) | exact nl | fail
    · have k := key 1 hia (by omega) (by omega) (by omega) (by omega)
      exact ⟨(i + 1, 1, l.set i (a.getD i 0 - c - b.getD i 0 + 1 * 10000)), by simp only; omega, ⟨by simp only; omega, k.1, k.2.1, k.2.2.1, by simp, by simp, k.2.2.2⟩, Weak.lo⟩
    · have k := key 0 hia (by omega) (by omega) (by omega) (by omega)
      simp only [Int.zero_mul, Int.add_zero] at k
      exact ⟨(i + 1, 0, l.set i (a.getD i 0 - c - b.getD i 0)), by simp only; omega, ⟨by simp only; omega, k.1, k.2.1, k.2.2.1, by simp, by simp, k.2.2.2⟩, Weak.lo⟩
    · have hz : b.getD i 0 = 0 := getD_over (by omega)
      have k := key 1 hia (by omega) (by omega) (by omega) (by omega)
      simp only [hz, Int.sub_zero] at k
      exact ⟨(i + 1, 1, l.set i (a.getD i 0 - c + 1 * 10000)), by simp only; omega, ⟨by simp only; omega, k.1, k.2.1, k.2.2.1, by simp, by simp, k.2.2.2⟩, Weak.lo⟩
    · have hz : b.getD i 0 = 0 := getD_over (by omega)
      have k := key 0 hia (by omega) (by omega) (by omega) (by omega)
      simp only [hz, Int.zero_mul, Int.add_zero, Int.sub_zero] at k
      exact ⟨(i + 1, 0, l.set i (a.getD i 0 - c)), by simp only; omega, ⟨by simp only; omega, k.1, k.2.1, k.2.2.1, by simp, by simp, k.2.2.2⟩, Weak.lo⟩
  · repeat' first | (with_reducible first | refine nx' ?_ | refine n0 ?_ | refine rD ?_ | refine n1 ?_ | refine nilB_i fun b hb => ?_ | refine nP ?_ ?_ | refine nS fun K hK => ?_ | (refine n2 ?_ ?_ <;> intro h <;> first | subst (h : _ = true) | subst (h : _ = false) | skip) | refine And.intro ?_ ?_ | refine nK ‹Imp _ _› ?_) | exact nl | fail
    have hi2 : i = a.length := by omega
    subst hi2
    rw [List.take_of_length_le (by omega), List.take_length, List.take_of_length_le hlen, hvm, hvn] at hv
    have h1 := val_lt hd
    have h2 := val_nonneg hd
    rw [hl] at h1
    have hc : c = 0 := by
      rcases (show c = 0 ∨ c = 1 by omega) with h | h
      · exact h
      · rw [h] at hv; omega
    rw [hc] at hv
    rw [← digs_val hd]
    have : (val l).toNat = m - n := by omega
    rw [this]
end Go.PL

/- XQ -/
namespace Go.PL
open Go Go.Proofs
set_option maxRecDepth 10000
set_option maxHeartbeats 4000000
set_option linter.unusedSimpArgs false
set_option linter.unusedVariables false
/-- A number's parts as the program has them. -/
def sgX (x : Rat) : Bool := (ofR x).neg
def nuX (x : Rat) : List Int := digs (ofR x).n
def deX (x : Rat) : List Int := digs (ofR x).d
def encX (x : Rat) : D := encQ (ofR x)
theorem encX_eq {x : Rat} : encX x = .agg [.b (sgX x), encD (nuX x), encD (deX x)] := rfl
abbrev xV (x : Rat) : V := .d (.agg [.b (sgX x), encD (nuX x), encD (deX x)])
instance : Enc encX 3 0 := ⟨fun _ => rfl, fun x => by simp [encX_eq, D.cells, D.one]⟩
theorem app_X {l : List Rat} {x : Rat} : l.map encX ++ [D.agg [.val (.bool (sgX x)), .sl ((nuX x).map .i), .sl ((deX x).map .i)]] = (l ++ [x]).map encX := by simp [encX_eq]
theorem set_X {l : List Rat} {k : Nat} {x : Rat} : (l.map encX).set k (D.agg [.val (.bool (sgX x)), .sl ((nuX x).map .i), .sl ((deX x).map .i)]) = (l.set k x).map encX := by rw [List.map_set]; rfl
theorem mkFn_ref {f : Fn} {o i j : Nat} {r : List V} : mkFn f [] (.ref o i j :: r) = .fn f [] (.ref o i j :: r) := rfl
theorem x_cast0 : ((0 : Int) : Rat) = 0 := rfl
theorem x_cast1 : ((1 : Int) : Rat) = 1 := rfl
attribute [go_sem] encX_eq app_X set_X mkFn_ref x_cast0 x_cast1
/-- A contract's result in other words. -/
theorem Con.res {n : FuncId} {vs : List V} {pre : Prop} {r r' : V} [i : Con CC n vs pre r] (h : pre) (e : r = r') : CC n vs [] r' [] := e ▸ i.ok h
theorem nuX_len {x : Rat} : (nuX x).length = (digs x.num.natAbs).length := rfl
theorem deX_len {x : Rat} : (deX x).length = (digs x.den).length := rfl
theorem Ln.nu {a : Nat} {x : Rat} (h : Ln a x) : (nuX x).length ≤ a := h.1
theorem Ln.de {a : Nat} {x : Rat} (h : Ln a x) : (deX x).length ≤ a := h.2
def fitX (x : Rat) : Bool := decide ((nuX x).length ≤ 40) && decide ((deX x).length ≤ 40)
theorem fitX_Ln {x : Rat} (h : fitX x = true) : Ln 40 x := by
  unfold fitX at h
  rw [Bool.and_eq_true, decide_eq_true_eq, decide_eq_true_eq] at h
  exact h
def sgnX (x : Rat) : Int := sgnQ (ofR x)
def cmpX (x y : Rat) : Int := cmpI (ofR x) (ofR y)
/- The rationals of the reference. -/
instance (b : Bool) (m n : Nat) (c : Bool) (u v : Nat) : Con CC 75 [.d (.agg [.b b, encD (digs m), encD (digs n)]), .d (.agg [.b c, encD (digs u), encD (digs v)])] (lenQ 800 ⟨b, m, n⟩ ∧ lenQ 800 ⟨c, u, v⟩) (.d (encQ (mulQ ⟨b, m, n⟩ ⟨c, u, v⟩))) := by
  constructor; rintro ⟨⟨a1, a2, a3⟩, b1, b2, b3⟩
  simp only at a1 a2 a3 b1 b2 b3
  have h1 := digs_mul_le m u
  have h2 := digs_mul_le n v
  have h3 := Nat.mul_pos a3 b3
  refine Den.pureI Tryz.func75 rfl 2 [.cell 4 42] (by kernel_rfl) rfl rfl (by simp only [initE_nil, initE_cons, Nat.reduceAdd]; exact rfl) ?_
  repeat' first | (with_reducible first | refine nx' ?_ | refine n0 ?_ | refine Wp.drawR (by decide +kernel) ?_ | refine Wp.drawSR [9, 14, 15, 16] [false, false, false, false, false, false, false, false, false, true, false, false, false, false, true, true, true] (.op 9 [0,1,2,3,4,10,11,12,13] (.op 14 [0,1,2,3,4] (.op 15 [] (.op 16 [] .done)))) (by decide +kernel) ?_ | refine n1 ?_ | refine nilB_i fun b hb => ?_ | refine nP ?_ ?_ | refine nS fun K hK => ?_ | (refine n2 ?_ ?_ <;> intro h <;> first | subst (h : _ = true) | subst (h : _ = false) | skip) | refine And.intro ?_ ?_ | refine nK ‹Imp _ _› ?_) | exact nl | fail
  all_goals rfl
instance (b : Bool) (m n : Nat) (c : Bool) (u v : Nat) : Con CC 143 [.d (.agg [.b b, encD (digs m), encD (digs n)]), .d (.agg [.b c, encD (digs u), encD (digs v)])] (0 < u ∧ lenQ 800 ⟨b, m, n⟩ ∧ lenQ 800 ⟨c, u, v⟩) (.d (encQ (divQ ⟨b, m, n⟩ ⟨c, u, v⟩))) := by
  constructor; rintro ⟨b0, ⟨a1, a2, a3⟩, b1, b2, b3⟩
  simp only at a1 a2 a3 b1 b2 b3
  have h1 := digs_mul_le m v
  have h2 := digs_mul_le n u
  have h3 := Nat.mul_pos a3 b0
  refine Den.pureI Tryz.func143 rfl 2 [.cell 4 42] (by kernel_rfl) rfl rfl (by simp only [initE_nil, initE_cons, Nat.reduceAdd]; exact rfl) ?_
  repeat' first | (with_reducible first | refine nx' ?_ | refine n0 ?_ | refine Wp.drawR (by decide +kernel) ?_ | refine Wp.drawSR [9, 14, 15, 16] [false, false, false, false, false, false, false, false, false, true, false, false, false, false, true, true, true] (.op 9 [0,1,2,3,4,10,11,12,13] (.op 14 [0,1,2,3,4] (.op 15 [] (.op 16 [] .done)))) (by decide +kernel) ?_ | refine n1 ?_ | refine nilB_i fun b hb => ?_ | refine nP ?_ ?_ | refine nS fun K hK => ?_ | (refine n2 ?_ ?_ <;> intro h <;> first | subst (h : _ = true) | subst (h : _ = false) | skip) | refine And.intro ?_ ?_ | refine nK ‹Imp _ _› ?_) | exact nl | fail
  all_goals rfl
theorem whQ_of (z : Int) : whQ z = ofR (z : Rat) := by
  unfold whQ ofR
  simp [Rat.num_intCast, Rat.den_intCast]
  exact decide_eq_decide.2 Iff.rfl
abbrev qV (q : Q) : V := .d (.agg [.b q.neg, encD (digs q.n), encD (digs q.d)])
theorem two {n : FuncId} {x y : Rat} {pre : Prop} {r r' : V} [i : Con CC n [qV (ofR x), qV (ofR y)] pre r] (h : pre) (e : r = r') : CC n [xV x, xV y] [] r' [] := e ▸ i.ok h
theorem one1 {n : FuncId} {x : Rat} {pre : Prop} {r r' : V} [i : Con CC n [qV (ofR x)] pre r] (h : pre) (e : r = r') : CC n [xV x] [] r' [] := e ▸ i.ok h
theorem eQ {p q : Q} (h : p = q) : V.d (encQ p) = V.d (encQ q) := by rw [h]
theorem Ln.big {a : Nat} {x : Rat} (h : Ln a x) (ha : a ≤ 1048576) : (digs (ofR x).n).length ≤ 1048576 := Nat.le_trans h.1 ha
theorem ofR_sub (x y : Rat) : addQ (ofR x) (negQ (ofR y)) = ofR (x - y) := by rw [ofR_neg, ofR_add, Rat.sub_eq_add_neg]
theorem sgnX_zero {x : Rat} : sgnX x = 0 ↔ x = 0 := by
  unfold sgnX sgnQ
  have e : (ofR x).n = x.num.natAbs := rfl
  have e2 : x = 0 ↔ x.num = 0 := Rat.num_eq_zero.symm
  rw [e, e2]
  split
  · omega
  · split <;> omega
theorem sgnX_neg {x : Rat} : sgnX x < 0 ↔ x < 0 := by
  unfold sgnX sgnQ
  have e : (ofR x).n = x.num.natAbs := rfl
  have e3 : (ofR x).neg = decide (x.num < 0) := rfl
  have e2 : x < 0 ↔ x.num < 0 := by
    have := Rat.num_nonneg (q := x)
    rw [← Rat.not_le, ← Int.not_le, this]
  rw [e, e2, e3]
  split
  · omega
  · split <;> simp_all <;> omega
theorem zero_iff {x : Rat} : (ofR x).n = 0 ↔ x = 0 := by
  have e : (ofR x).n = x.num.natAbs := rfl
  have e2 : x = 0 ↔ x.num = 0 := Rat.num_eq_zero.symm
  rw [e, e2]; omega
instance (x y : Rat) : Con CC 106 [xV x, xV y] (Ln 800 x ∧ Ln 800 y) (.d (encX (x + y))) := ⟨fun h => two (n := 106) ⟨h.1.q, h.2.q⟩ (eQ (ofR_add x y))⟩
instance (x y : Rat) : Con CC 71 [xV x, xV y] (Ln 800 x ∧ Ln 800 y) (.d (encX (x - y))) := ⟨fun h => two (n := 71) ⟨h.1.q, h.2.q⟩ (eQ (ofR_sub x y))⟩
instance (x y : Rat) : Con CC 75 [xV x, xV y] (Ln 800 x ∧ Ln 800 y) (.d (encX (x * y))) := ⟨fun h => two (n := 75) ⟨h.1.q, h.2.q⟩ (eQ (ofR_mul x y))⟩
instance (x y : Rat) : Con CC 143 [xV x, xV y] (y ≠ 0 ∧ Ln 800 x ∧ Ln 800 y) (.d (encX (x / y))) := ⟨fun h => two (n := 143) ⟨ofR_n0 h.1, h.2.1.q, h.2.2.q⟩ (eQ (ofR_div x h.1))⟩
instance (x y : Rat) : Con CC 37 [xV x, xV y] (Ln 800 x ∧ Ln 800 y) (.d (.i (sgnX (x - y)))) :=
  ⟨fun h => two (n := 37) ⟨h.1.q, h.2.q⟩ (by rw [← cmpQ_sub (ofR_d x) (ofR_d y), ofR_sub]; rfl)⟩
instance (x : Rat) : Con CC 107 [xV x] (Ln 800 x) (.d (encX (-x))) := ⟨fun h => one1 (n := 107) (h.big (by omega)) (eQ (ofR_neg x))⟩
instance (x : Rat) : Con CC 65 [xV x] (Ln 800 x) (.d (.i (sgnX x))) := ⟨fun h => one1 (n := 65) (h.big (by omega)) rfl⟩
instance (x : Rat) : Con CC 98 [xV x] (Ln 800 x) (.d (.b (decide (x = 0)))) := ⟨fun h => one1 (n := 98) (h.big (by omega)) (congrArg (fun b => V.d (.b b)) (decide_eq_decide.2 zero_iff))⟩
instance (b : Bool) (x y : List Int) : Con CC 144 [.d (.agg [.b b, encD x, encD y])] (x.length ≤ 1048576 ∧ y.length ≤ 1048576) (.d (.b (decide (x.length ≤ 40) && decide (y.length ≤ 40)))) := by
  constructor; intro ⟨h1, h2⟩
  refine Den.pureI Tryz.func144 rfl 1 [.tmp 2] (by kernel_rfl) rfl rfl (by simp only [initE_nil, initE_cons, Nat.reduceAdd]; exact rfl) ?_
  repeat' first | (with_reducible first | refine nx' ?_ | refine n0 ?_ | refine rD ?_ | refine n1 ?_ | refine nilB_i fun b hb => ?_ | refine nP ?_ ?_ | refine nS fun K hK => ?_ | (refine n2 ?_ ?_ <;> intro h <;> first | subst (h : _ = true) | subst (h : _ = false) | skip) | refine And.intro ?_ ?_ | refine nK ‹Imp _ _› ?_) | exact nl | fail
  all_goals (congr 3; rw [Bool.eq_iff_iff]; simp; omega)
instance (b : Bool) (x y : List Int) : Con CC 70 [.d (.agg [.b b, encD x, encD y])] (x.length ≤ 1048576 ∧ y.length ≤ 1048576) (.d (.agg [.b b, encD x, encD y])) := by
  constructor; intro ⟨h1, h2⟩
  refine Den.pureI Tryz.func70 rfl 1 [.cell 2 42] (by kernel_rfl) rfl rfl (by simp only [initE_nil, initE_cons, Nat.reduceAdd]; exact rfl) ?_
  repeat' first | (with_reducible first | refine nx' ?_ | refine n0 ?_ | refine Wp.drawR (by decide +kernel) ?_ | refine n1 ?_ | refine nilB_i fun b hb => ?_ | refine nP ?_ ?_ | refine nS fun K hK => ?_ | (refine n2 ?_ ?_ <;> intro h <;> first | subst (h : _ = true) | subst (h : _ = false) | skip) | refine And.intro ?_ ?_ | refine nK ‹Imp _ _› ?_) | exact nl | fail
  refine Wp.drawSR [2, 5, 6, 9, 10, 11] [false, false, true, false, false, true, true, false, false, true, true, true] (.both (.op 2 [0,1,3,4,7,8] (.both (.op 5 [0,1,7,8] (.op 6 [0,1,7,8] (.op 9 [0,1] (.op 10 [] (.op 11 [] .done))))) (.op 6 [0,1,3,4,7,8] (.op 5 [0,1,7,8] (.op 9 [0,1] (.op 10 [] (.op 11 [] .done))))))) (.op 6 [0,1,3,4,7,8] (.op 2 [0,1,3,4,7,8] (.op 5 [0,1,7,8] (.op 9 [0,1] (.op 10 [] (.op 11 [] .done))))))) (by decide +kernel) ?_
  repeat' first | (with_reducible first | refine nx' ?_ | refine n0 ?_ | refine Wp.drawR (by decide +kernel) ?_ | refine n1 ?_ | refine nilB_i fun b hb => ?_ | refine nP ?_ ?_ | refine nS fun K hK => ?_ | (refine n2 ?_ ?_ <;> intro h <;> first | subst (h : _ = true) | subst (h : _ = false) | skip) | refine And.intro ?_ ?_ | refine nK ‹Imp _ _› ?_) | exact nl | fail
instance (z : Int) : Con CC 99 [.d (.i z)] (-1000000000000 < z ∧ z < 1000000000000) (.d (encX (z : Rat))) := by
  constructor; intro ⟨h1, h2⟩
  show CC 99 [.d (.i z)] [] (.d (encQ (ofR (z : Rat)))) []
  rw [← whQ_of]
  by_cases h : z < 0
  · obtain ⟨n, rfl⟩ : ∃ n : Nat, z = -(n : Int) := ⟨z.natAbs, by omega⟩
    have e1 : IntKind.i64.wrap (0 - -(n : Int)) = (n : Int) := by rw [w64 (by omega) (by omega)]; omega
    have e2 : whQ (-(n : Int)) = ⟨true, n, 1⟩ := by unfold whQ; rw [decide_eq_true h, Int.natAbs_neg, Int.natAbs_natCast]
    rw [e2]
    refine Den.pureI Tryz.func99 rfl 1 [.cell 2 42] (by kernel_rfl) rfl rfl (by simp only [initE_nil, initE_cons, Nat.reduceAdd]; exact rfl) ?_
    repeat' first | (with_reducible first | refine nx' ?_ (by simp -implicitDefEqProofs (disch := omega) only [go_sem, e1]; exact rfl) | refine n0 ?_ | refine rD ?_ | refine n1 ?_ | refine nilB_i fun b hb => ?_ | refine nP ?_ ?_ | refine nS fun K hK => ?_ | (refine n2 ?_ ?_ <;> intro h <;> first | subst (h : _ = true) | subst (h : _ = false) | (simp only [FX, LX, e1] at h) | skip) | refine And.intro ?_ ?_ | refine nK ‹Imp _ _› ?_) | exact nl | fail
    all_goals first | (rw [encQ_eq, digs_one]; done) | (simp only [encQ_eq, digs_one]; done) | omega
  · obtain ⟨n, rfl⟩ : ∃ n : Nat, z = (n : Int) := ⟨z.natAbs, by omega⟩
    have e2 : whQ (n : Int) = ⟨false, n, 1⟩ := by unfold whQ; rw [decide_eq_false h, Int.natAbs_natCast]
    rw [e2]
    refine Den.pureI Tryz.func99 rfl 1 [.cell 2 42] (by kernel_rfl) rfl rfl (by simp only [initE_nil, initE_cons, Nat.reduceAdd]; exact rfl) ?_
    repeat' first | (with_reducible first | refine nx' ?_ | refine n0 ?_ | refine rD ?_ | refine n1 ?_ | refine nilB_i fun b hb => ?_ | refine nP ?_ ?_ | refine nS fun K hK => ?_ | (refine n2 ?_ ?_ <;> intro h <;> first | subst (h : _ = true) | subst (h : _ = false) | skip) | refine And.intro ?_ ?_ | refine nK ‹Imp _ _› ?_) | exact nl | fail
    all_goals first | (rw [encQ_eq, digs_one]; done) | (simp only [encQ_eq, digs_one]; done) | omega
/- The program's rationals. -/
instance (b : Bool) (m n : Nat) : Con CC 157 [.d (.agg [.b b, encD (digs m), encD (digs n)])] ((digs m).length ≤ 1048576 ∧ (digs n).length ≤ 1048576) (.d (encQ (negQ ⟨b, m, n⟩))) := by
  constructor; intro ⟨hm, hn⟩
  refine Den.pureI Tryz.func157 rfl 1 [.cell 2 42] (by kernel_rfl) rfl rfl (by simp only [initE_nil, initE_cons, Nat.reduceAdd]; exact rfl) ?_
  repeat' first | (with_reducible first | refine nx' ?_ | refine n0 ?_ | refine Wp.drawR (by decide +kernel) ?_ | refine Wp.drawSR [15] [false, false, false, false, false, false, false, false, false, false, false, false, false, false, false, true] (.op 15 [] .done) (by decide +kernel) ?_ | refine n1 ?_ | refine nilB_i fun b hb => ?_ | refine nP ?_ ?_ | refine nS fun K hK => ?_ | (refine n2 ?_ ?_ <;> intro h <;> first | subst (h : _ = true) | subst (h : _ = false) | skip) | refine And.intro ?_ ?_ | refine nK ‹Imp _ _› ?_) | exact nl | fail
  all_goals (simp only [negQ, Bool.not_true, Bool.not_false, Bool.true_and, Bool.false_and])
  have e : (!((digs m).length : Int) == 0) = decide (0 < m) := by
    have := digs_len0 (n := m)
    rw [Bool.eq_iff_iff]
    simp only [Bool.not_eq_true', beq_eq_false_iff_ne, ne_eq, decide_eq_true_eq]
    omega
  rw [e]
instance (b : Bool) (m n : Nat) (c : Bool) (u v : Nat) : Con CC 136 [.d (.agg [.b b, encD (digs m), encD (digs n)]), .d (.agg [.b c, encD (digs u), encD (digs v)])] (lenQ 800 ⟨b, m, n⟩ ∧ lenQ 800 ⟨c, u, v⟩) (.d (encQ (addQ ⟨b, m, n⟩ ⟨c, u, v⟩))) := by
  constructor; rintro ⟨⟨a1, a2, a3⟩, b1, b2, b3⟩
  simp only at a1 a2 a3 b1 b2 b3
  have h1 := digs_mul_le m v
  have h2 := digs_mul_le u n
  have h3 := digs_mul_le n v
  have h4 := Nat.mul_pos a3 b3
  have h5 := digs_add_le (L := 1600) (m := m * v) (n := u * n) (by omega) (by omega)
  have h6 := digs_len_mono (Nat.sub_le (m * v) (u * n))
  have h7 := digs_len_mono (Nat.sub_le (u * n) (m * v))
  refine Den.pureI Tryz.func136 rfl 2 [.cell 4 42] (by kernel_rfl) rfl rfl (by simp only [initE_nil, initE_cons, Nat.reduceAdd]; exact rfl) ?_
  repeat' first | (with_reducible first | refine nx' ?_ | refine n0 ?_ | refine Wp.drawR (by decide +kernel) ?_ | refine Wp.drawSR [4, 9, 10, 11] [false, false, false, false, true, false, false, false, false, true, true, true] (.op 4 [5,6,7,8] (.op 9 [] (.op 10 [] (.op 11 [] .done)))) (by decide +kernel) ?_ | refine Wp.drawSR [4, 6, 7] [false, false, false, false, true, false, true, true] (.op 4 [0,1,5] (.op 6 [] (.op 7 [] .done))) (by decide +kernel) ?_ | refine Wp.drawSR [4, 6, 7] [false, false, false, false, true, false, true, true] (.op 4 [0,1,5] (.op 6 [] (.op 7 [] .done))) (by decide +kernel) ?_ | refine Wp.drawSR [4, 6, 7] [false, false, false, false, true, false, true, true] (.op 4 [0,1,5] (.op 6 [] (.op 7 [] .done))) (by decide +kernel) ?_ | refine n1 ?_ | refine nilB_i fun b hb => ?_ | refine nP ?_ ?_ | refine nS fun K hK => ?_ | (refine n2 ?_ ?_ <;> intro h <;> first | subst (h : _ = true) | subst (h : _ = false) | skip) | refine And.intro ?_ ?_ | refine nK ‹Imp _ _› ?_) | exact nl | fail
  · rw [addQ_1 (by assumption)]
  · exact cmpN_nonneg.1 (by assumption)
  · rw [addQ_2 (by assumption) (cmpN_nonneg.1 (by assumption))]
  · exact Nat.le_of_lt (cmpN_neg.1 (by assumption))
  · rw [addQ_3 (by assumption) (cmpN_neg.1 (by assumption))]
instance (b : Bool) (x y : List Int) : Con CC 84 [.d (.agg [.b b, encD x, encD y])] (x.length ≤ 1048576 ∧ y.length ≤ 1048576) (.d (.agg [.b b, encD x, encD y])) := by
  constructor; intro ⟨h1, h2⟩
  refine Den.pureI Tryz.func84 rfl 1 [.cell 2 42] (by kernel_rfl) rfl rfl (by simp only [initE_nil, initE_cons, Nat.reduceAdd]; exact rfl) ?_
  repeat' first | (with_reducible first | refine nx' ?_ | refine n0 ?_ | refine Wp.drawR (by decide +kernel) ?_ | refine Wp.drawSR [4, 7, 8, 9] [false, false, false, false, true, false, false, true, true, true] (.op 4 [0,1,5,6] (.op 7 [0,1] (.op 8 [] (.op 9 [] .done)))) (by decide +kernel) ?_ | refine n1 ?_ | refine nilB_i fun b hb => ?_ | refine nP ?_ ?_ | refine nS fun K hK => ?_ | (refine n2 ?_ ?_ <;> intro h <;> first | subst (h : _ = true) | subst (h : _ = false) | skip) | refine And.intro ?_ ?_ | refine nK ‹Imp _ _› ?_) | exact nl | fail
instance (x : Rat) : Con CC 157 [xV x] (Ln 800 x) (.d (encX (-x))) := ⟨fun h => one1 (n := 157) ⟨h.big (by omega), Nat.le_trans h.2 (by omega)⟩ (eQ (ofR_neg x))⟩
instance (x y : Rat) : Con CC 136 [xV x, xV y] (Ln 800 x ∧ Ln 800 y) (.d (encX (x + y))) := ⟨fun h => two (n := 136) ⟨h.1.q, h.2.q⟩ (eQ (ofR_add x y))⟩
instance (x y : Rat) : Con CC 56 [xV x, xV y] (Ln 800 x ∧ Ln 800 y) (.d (encX (x * y))) := ⟨fun h => two (n := 56) ⟨(h.1.mono (by omega)).q, (h.2.mono (by omega)).q⟩ (eQ (ofR_mul x y))⟩
instance (x y : Rat) : Con CC 186 [xV x, xV y] (y ≠ 0 ∧ Ln 800 x ∧ Ln 800 y) (.d (encX (x / y))) := ⟨fun h => two (n := 186) ⟨ofR_n0 h.1, (h.2.1.mono (by omega)).q, (h.2.2.mono (by omega)).q⟩ (eQ (ofR_div x h.1))⟩
instance (x y : Rat) : Con CC 134 [xV x, xV y] (Ln 800 x ∧ Ln 800 y) (.d (encX (x - y))) := by
  constructor; intro ⟨hx, hy⟩
  rw [Rat.sub_eq_add_neg]
  have hn := hy.neg
  refine Den.pureI Tryz.func134 rfl 2 [.cell 4 42] (by kernel_rfl) rfl rfl (by simp only [initE_nil, initE_cons, Nat.reduceAdd]; exact rfl) ?_
  repeat' first | (with_reducible first | refine nx' ?_ | refine n0 ?_ | refine Wp.drawR (by decide +kernel) ?_ | refine Wp.drawSR [2, 3, 4] [false, false, true, true, true] (.op 2 [0] (.op 3 [] (.op 4 [] .done))) (by decide +kernel) ?_ | refine n1 ?_ | refine nilB_i fun b hb => ?_ | refine nP ?_ ?_ | refine nS fun K hK => ?_ | (refine n2 ?_ ?_ <;> intro h <;> first | subst (h : _ = true) | subst (h : _ = false) | skip) | refine And.intro ?_ ?_ | refine nK ‹Imp _ _› ?_) | exact nl | fail
instance (x y : Rat) : Con CC 51 [xV x, xV y] (Ln 800 x ∧ Ln 800 y) (.d (.i (cmpX x y))) := ⟨fun h => two (n := 51) ⟨(h.1.mono (by omega)).q, (h.2.mono (by omega)).q⟩ rfl⟩
instance (x : Rat) : Con CC 79 [xV x] (Ln 800 x) (.d (.i (sgnX x))) := ⟨fun h => one1 (n := 79) (h.big (by omega)) rfl⟩
instance (priority := 2000) (z : Int) : Con CC 135 [.d (.i z)] (-1000000000000 < z ∧ z < 1000000000000) (.d (encX (z : Rat))) := by
  constructor; intro h
  show CC 135 [.d (.i z)] [] (.d (encQ (ofR (z : Rat)))) []
  rw [← whQ_of]
  exact Con.ok (C := CC) h
theorem cmpX_le {x y : Rat} : cmpX x y ≤ 0 ↔ sgnX (x - y) ≤ 0 := by
  have h := cmpI_sign (ofR_d x) (ofR_d y)
  have h2 := cmpQ_sub (ofR_d x) (ofR_d y)
  rw [ofR_sub] at h2
  show cmpI (ofR x) (ofR y) ≤ 0 ↔ sgnQ (ofR (x - y)) ≤ 0
  rw [h2, ← h]
  generalize cmpI (ofR x) (ofR y) = c
  rw [sign_if]
  split
  · omega
  · split <;> omega
theorem cmpX_sgn (x y : Rat) : Int.sign (cmpX x y) = sgnX (x - y) := by
  have h := cmpI_sign (ofR_d x) (ofR_d y)
  have h2 := cmpQ_sub (ofR_d x) (ofR_d y)
  rw [ofR_sub] at h2
  show Int.sign (cmpI (ofR x) (ofR y)) = sgnQ (ofR (x - y))
  rw [h2, ← h]
/-- A power whose terms are not brought to lowest terms: they are. -/
theorem ofR_pow (x : Rat) (k : Nat) : (ofR (x ^ k)).n = (ofR x).n ^ k ∧ (ofR (x ^ k)).d = (ofR x).d ^ k := by
  have e1 : (x ^ k).num = x.num ^ k := Rat.num_pow x k
  have e2 : (x ^ k).den = x.den ^ k := Rat.den_pow x k
  exact ⟨by show (x ^ k).num.natAbs = x.num.natAbs ^ k; rw [e1, Int.natAbs_pow], e2⟩
end Go.PL
