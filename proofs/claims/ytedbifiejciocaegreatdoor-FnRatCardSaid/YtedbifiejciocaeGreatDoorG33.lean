/- A plain machine, sound for the given model, and contracts of functions over it, part 33: RM2 AQ AF. Nothing is assumed. -/
import Derived.Test.YtedbifiejciocaeGreatDoorRM
set_option linter.unusedSimpArgs false
set_option linter.unusedVariables false
set_option linter.unusedSectionVars false
/- RM2 -/
namespace Go.PL
open Go Go.Proofs
set_option maxRecDepth 10000
set_option maxHeartbeats 4000000
set_option linter.unusedSimpArgs false
set_option linter.unusedVariables false
theorem okN_dg {l : List UInt8} (h : okN l = true) : okDg l := by
  obtain ⟨h1, _, h2, h3⟩ := okN_iff.1 h
  refine ⟨by rintro rfl; simp at h1, h3, ?_⟩
  by_cases e : l.getD 0 0 = 48
  · exact .inl (by have := h2 e; omega)
  · exact .inr e
theorem okN_free {l : List UInt8} (h : okN l = true) : (47 : UInt8) ∉ l := fun hm => by
  have := (okN_iff.1 h).2.2.2 _ hm
  unfold isDg at this; simp at this
theorem bd_eq (t : List UInt8) : (if ngT t then [45] else []) ++ bdT t = t := by
  unfold bdT
  cases h : ngT t with
  | false => rfl
  | true =>
    unfold ngT at h
    rw [decide_eq_true_eq] at h
    cases t with
    | nil => cases h
    | cons c r => simp at h; subst h; rfl
theorem rd_one {t : List UInt8} (h : cutH (bdT t) = false) : rdOk t = (okN (bdT t) && okRat ⟨ngT t, digs (rdN (bdT t)), [1]⟩) ∧ rdVal t = ⟨ngT t, digs (rdN (bdT t)), [1]⟩ := by
  have hn : (47 : UInt8) ∉ bdT t := by unfold cutH at h; exact of_decide_eq_false h
  unfold rdOk rdVal
  rw [spl_free hn]
  exact ⟨rfl, rfl⟩
theorem rd_two {t : List UInt8} (h : cutH (bdT t) = true) : rdOk t = (okN (cutA (bdT t)) && (okN (cutB (bdT t)) && (!(cmpN (rdN (cutB (bdT t))) 1 == 0) && okRat ⟨ngT t, digs (rdN (cutA (bdT t))), digs (rdN (cutB (bdT t)))⟩))) ∧
    (rdOk t = true → rdVal t = ⟨ngT t, digs (rdN (cutA (bdT t))), digs (rdN (cutB (bdT t)))⟩) ∧ bdT t = cutA (bdT t) ++ 47 :: cutB (bdT t) := by
  have hm : (47 : UInt8) ∈ bdT t := by unfold cutH at h; exact of_decide_eq_true h
  obtain ⟨w, r, e, hw⟩ := first_at hm
  obtain ⟨_, e2, e3⟩ := cut_yes (r := r) hw
  unfold rdOk rdVal
  rw [e, e2, e3, spl_app r hw]
  by_cases hr : (47 : UInt8) ∈ r
  · have h1 : okN r = false := by rw [Bool.eq_false_iff]; exact fun hk => okN_free hk hr
    obtain ⟨a, s, e4, hs⟩ := first_at hr
    have h2 : spl 47 r = a :: spl 47 s := by rw [e4, spl_app s hs]
    cases h3 : spl 47 s with
    | nil => exact absurd h3 (spl_ne _ _)
    | cons b q => rw [h2, h3, h1]; refine ⟨by simp, by simp, rfl⟩
  · rw [spl_free hr]; exact ⟨rfl, fun _ => rfl, rfl⟩
theorem text_one {t : List UInt8} (h : okN (bdT t) = true) : ratTB ⟨ngT t, digs (rdN (bdT t)), [1]⟩ = strT t := by
  refine bsT_inj ?_
  rw [← digs_one, ratTB_bs, rdN_yes h]
  unfold ratL
  rw [dec_of (okN_dg h), if_pos rfl, List.append_nil, bd_eq]
  rfl
theorem text_two {t : List UInt8} (h : bdT t = cutA (bdT t) ++ 47 :: cutB (bdT t)) (ha : okN (cutA (bdT t)) = true) (hb : okN (cutB (bdT t)) = true) :
    ((ratTB ⟨ngT t, digs (rdN (cutA (bdT t))), digs (rdN (cutB (bdT t)))⟩).toList == (strT t).toList) = !(cmpN (rdN (cutB (bdT t))) 1 == 0) := by
  have e2 := bd_eq t
  rw [tl_beq, cmpN_eq]
  rw [rdN_yes ha, rdN_yes hb]
  have e : ∀ n, (ratTB ⟨ngT t, digs (dv (cutA (bdT t))), digs n⟩ = strT t) ↔ ratL (ngT t) (dv (cutA (bdT t))) n = t := fun n => by
    constructor
    · intro hq; have := congrArg bsT hq; rw [ratTB_bs] at this; exact this
    · intro hq; refine bsT_inj ?_; rw [ratTB_bs, hq]; rfl
  rw [Bool.eq_iff_iff, decide_eq_true_eq, e]
  unfold ratL
  rw [dec_of (okN_dg ha), dec_of (okN_dg hb)]
  by_cases h1 : dv (cutB (bdT t)) = 1
  · rw [if_pos h1, h1]
    constructor
    · intro hq
      exfalso
      rw [List.append_nil] at hq
      have hl := congrArg List.length (hq.trans e2.symm)
      have hl2 := congrArg List.length h
      simp only [List.length_append, List.length_cons] at hl hl2
      omega
    · intro hq; simp at hq
  · rw [if_neg h1, List.append_assoc, ← h, e2]
    simp [h1]
theorem zR {b : Bool} {x y : List Int} : (⟨b, x, y⟩ : Rt) = ⟨b, x, y⟩ := rfl
theorem atoi_c (l : List UInt8) (h1 : 1 ≤ l.length) (h2 : l.length ≤ 4) (h : ∀ c ∈ l, isDg c) : CC 64 [.d (.s (strT l))] [] (.tup [.d (.i (dv l)), .d (.val .nilIface)]) [] :=
  Den.ext ⟨rfl, rfl, .inr (.inr (.inr ⟨rfl, l, h1, by omega, h, rfl, rfl⟩))⟩
theorem cutA_len (l : List UInt8) : (cutA l).length ≤ l.length := by unfold cutA; exact (List.takeWhile_sublist _).length_le
theorem cutB_len (l : List UInt8) : (cutB l).length ≤ l.length := by unfold cutB; rw [List.length_drop]; have := (List.dropWhile_sublist (l := l) (fun c => c != 47)).length_le; omega
set_option maxHeartbeats 4000000 in
theorem readRat_no (t : List UInt8) (ht : t.length ≤ 1048576) (hk : rdOk t = false) : CC 19 [.d (.s (strT t))] [] (.tup [.d (.agg [.b false, .sl [], .sl []]), .d (.b false)]) [] := by
  have hbl := bd_len t
  have hal := cutA_len (bdT t)
  have hbl2 := cutB_len (bdT t)
  have na := rdN_len (cutA (bdT t))
  have nb := rdN_len (cutB (bdT t))
  have cA := readNat_c atoi_c (cutA (bdT t)) (by omega)
  have cB := readNat_c atoi_c (cutB (bdT t)) (by omega)
  cases hH : cutH (bdT t) with
  | false =>
    have hca : cutA (bdT t) = bdT t := (cut_no (by unfold cutH at hH; exact of_decide_eq_false hH)).2.1
    obtain ⟨e1, _⟩ := rd_one hH
    rw [hk] at e1
    rw [← hca] at e1
    cases ha : okN (cutA (bdT t)) with
    | false =>
      refine Den.pureI Tryz.func19 rfl 1 [.cell 2 25, .tmp 3] (by kernel_rfl) rfl rfl (by simp only [initE_nil, initE_cons, Nat.reduceAdd]; exact rfl) ?_
      repeat' first | (with_reducible first | refine nx' ?_ (by simp -implicitDefEqProofs (disch := omega) only [go_sem, hH, ha]; exact rfl) | refine n0 ?_ | refine rD ?_ | refine n1 ?_ | refine nilB_i fun b hb => ?_ | refine nPc (cA) ?_ | refine nP ?_ ?_ | refine nS fun K hK => ?_ | (refine n2 ?_ ?_ <;> intro h <;> first | subst (h : _ = true) | subst (h : _ = false) | (simp only [FX, LX, hH, ha] at h) | skip) | refine And.intro ?_ ?_ | refine nK ‹Imp _ _› ?_) | exact nl | fail
      all_goals first | rfl | (simp at *; done) | skip
    | true =>
      rw [ha, Bool.true_and] at e1
      refine Den.pureI Tryz.func19 rfl 1 [.cell 2 25, .tmp 3] (by kernel_rfl) rfl rfl (by simp only [initE_nil, initE_cons, Nat.reduceAdd]; exact rfl) ?_
      repeat' first | (with_reducible first | refine nx' ?_ (by simp -implicitDefEqProofs (disch := omega) only [go_sem, hH, ha, ← e1]; exact rfl) | refine n0 ?_ | refine rD ?_ | refine n1 ?_ | refine nilB_i fun b hb => ?_ | refine nPc (cA) ?_ | refine nP ?_ ?_ | refine nS fun K hK => ?_ | (refine n2 ?_ ?_ <;> intro h <;> first | subst (h : _ = true) | subst (h : _ = false) | (simp only [FX, LX, hH, ha, ← e1] at h) | skip) | refine And.intro ?_ ?_ | refine nK ‹Imp _ _› ?_) | exact nl | fail
      all_goals first | rfl | (simp at *; done) | skip
  | true =>
    obtain ⟨e1, _, e3⟩ := rd_two hH
    rw [hk] at e1
    cases ha : okN (cutA (bdT t)) with
    | false =>
      refine Den.pureI Tryz.func19 rfl 1 [.cell 2 25, .tmp 3] (by kernel_rfl) rfl rfl (by simp only [initE_nil, initE_cons, Nat.reduceAdd]; exact rfl) ?_
      repeat' first | (with_reducible first | refine nx' ?_ (by simp -implicitDefEqProofs (disch := omega) only [go_sem, hH, ha]; exact rfl) | refine n0 ?_ | refine rD ?_ | refine n1 ?_ | refine nilB_i fun b hb => ?_ | refine nPc (cA) ?_ | refine nP ?_ ?_ | refine nS fun K hK => ?_ | (refine n2 ?_ ?_ <;> intro h <;> first | subst (h : _ = true) | subst (h : _ = false) | (simp only [FX, LX, hH, ha] at h) | skip) | refine And.intro ?_ ?_ | refine nK ‹Imp _ _› ?_) | exact nl | fail
      all_goals first | rfl | (simp at *; done) | skip
    | true =>
      cases hb : okN (cutB (bdT t)) with
      | false =>
        refine Den.pureI Tryz.func19 rfl 1 [.cell 2 25, .tmp 3] (by kernel_rfl) rfl rfl (by simp only [initE_nil, initE_cons, Nat.reduceAdd]; exact rfl) ?_
        repeat' first | (with_reducible first | refine nx' ?_ (by simp -implicitDefEqProofs (disch := omega) only [go_sem, hH, ha, hb]; exact rfl) | refine n0 ?_ | refine rD ?_ | refine n1 ?_ | refine nilB_i fun b hb => ?_ | refine nPc (cA) ?_ | refine nPc (cB) ?_ | refine nP ?_ ?_ | refine nS fun K hK => ?_ | (refine n2 ?_ ?_ <;> intro h <;> first | subst (h : _ = true) | subst (h : _ = false) | (simp only [FX, LX, hH, ha, hb] at h) | skip) | refine And.intro ?_ ?_ | refine nK ‹Imp _ _› ?_) | exact nl | fail
        all_goals first | rfl | (simp at *; done) | skip
      | true =>
        rw [ha, hb, Bool.true_and, Bool.true_and, ← text_two e3 ha hb] at e1
        cases hr : okRat ⟨ngT t, digs (rdN (cutA (bdT t))), digs (rdN (cutB (bdT t)))⟩ with
        | false =>
          refine Den.pureI Tryz.func19 rfl 1 [.cell 2 25, .tmp 3] (by kernel_rfl) rfl rfl (by simp only [initE_nil, initE_cons, Nat.reduceAdd]; exact rfl) ?_
          repeat' first | (with_reducible first | refine nx' ?_ (by simp -implicitDefEqProofs (disch := omega) only [go_sem, hH, ha, hb, hr]; exact rfl) | refine n0 ?_ | refine rD ?_ | refine n1 ?_ | refine nilB_i fun b hb => ?_ | refine nPc (cA) ?_ | refine nPc (cB) ?_ | refine nP ?_ ?_ | refine nS fun K hK => ?_ | (refine n2 ?_ ?_ <;> intro h <;> first | subst (h : _ = true) | subst (h : _ = false) | (simp only [FX, LX, hH, ha, hb, hr] at h) | skip) | refine And.intro ?_ ?_ | refine nK ‹Imp _ _› ?_) | exact nl | fail
          all_goals first | rfl | (simp at *; done) | skip
        | true =>
          rw [hr, Bool.and_true] at e1
          refine Den.pureI Tryz.func19 rfl 1 [.cell 2 25, .tmp 3] (by kernel_rfl) rfl rfl (by simp only [initE_nil, initE_cons, Nat.reduceAdd]; exact rfl) ?_
          repeat' first | (with_reducible first | refine nx' ?_ (by simp -implicitDefEqProofs (disch := omega) only [go_sem, hH, ha, hb, hr, ← e1]; exact rfl) | refine n0 ?_ | refine rD ?_ | refine n1 ?_ | refine nilB_i fun b hb => ?_ | refine nPc (cA) ?_ | refine nPc (cB) ?_ | refine nP ?_ ?_ | refine nS fun K hK => ?_ | (refine n2 ?_ ?_ <;> intro h <;> first | subst (h : _ = true) | subst (h : _ = false) | (simp only [FX, LX, hH, ha, hb, hr, ← e1] at h) | skip) | refine And.intro ?_ ?_ | refine nK ‹Imp _ _› ?_) | exact nl | fail
          all_goals first | rfl | (simp at *; done) | skip
end Go.PL

/- AQ -/
/- Rationals as the program has them: sign, numerator, denominator, as naturals; the same functions on both sides. -/
namespace Go.PL
open Go

theorem digs_mul_le (m n : Nat) : (digs (m * n)).length ≤ (digs m).length + (digs n).length := by
  refine digs_len_le ?_
  rw [Nat.pow_add]
  exact Nat.mul_lt_mul'' (digs_lt_pow m) (digs_lt_pow n)
theorem digs_add_le {m n L : Nat} (hm : (digs m).length ≤ L) (hn : (digs n).length ≤ L) : (digs (m + n)).length ≤ L + 1 := by
  refine digs_len_le ?_
  have h1 := Nat.lt_of_lt_of_le (digs_lt_pow m) (Nat.pow_le_pow_right (by omega : 0 < 10000) hm)
  have h2 := Nat.lt_of_lt_of_le (digs_lt_pow n) (Nat.pow_le_pow_right (by omega : 0 < 10000) hn)
  rw [Nat.pow_succ]
  omega

theorem dig_ext : ∀ {a b : List Int}, Dig a → Dig b → a.length = b.length → val a = val b → a = b
  | [], [], _, _, _, _ => rfl
  | x :: r, y :: s, ha, hb, hl, hv => by
    have h1 := ha.head
    have h2 := hb.head
    simp only [val] at hv
    have h3 : x = y := by omega
    have h4 : val r = val s := by omega
    rw [h3, dig_ext ha.tail hb.tail (by simpa using hl) h4]

/-- Limbs whose highest stands for something. -/
theorem digs_of {l : List Int} {x : Nat} (hd : Dig l) (hv : val l = x) (ht : l.length = 0 ∨ 10000 ^ (l.length - 1) ≤ x) : l = digs x := by
  refine dig_ext hd (Dig.digs x) ?_ (by rw [hv, val_digs])
  have h1 := val_lt hd
  rw [hv] at h1
  have h2 : x < 10000 ^ l.length := by
    have : ((10000 ^ l.length : Nat) : Int) = (10000 : Int) ^ l.length := by simp
    omega
  have h3 := digs_len_le h2
  rcases ht with ht | ht
  · omega
  · rcases Nat.lt_or_ge (digs x).length l.length with h4 | h4
    · have h5 := digs_lt_pow x
      have h6 := Nat.pow_le_pow_right (by omega : 0 < 10000) (by omega : (digs x).length ≤ l.length - 1)
      omega
    · omega

structure Q where
  neg : Bool
  n : Nat
  d : Nat
deriving DecidableEq

def encQ (q : Q) : D := .agg [.b q.neg, encD (digs q.n), encD (digs q.d)]
theorem encQ_eq {q : Q} : encQ q = .agg [.b q.neg, encD (digs q.n), encD (digs q.d)] := rfl
theorem Q.eta {q : Q} : Q.mk q.neg q.n q.d = q := rfl

/-- Not longer than some limbs; over a number. -/
def lenQ (L : Nat) (q : Q) : Prop := (digs q.n).length ≤ L ∧ (digs q.d).length ≤ L ∧ 0 < q.d

def mkQ (b : Bool) (m n : Nat) : Q := ⟨b && decide (0 < m / Nat.gcd m n), m / Nat.gcd m n, n / Nat.gcd m n⟩
def negQ (a : Q) : Q := ⟨!a.neg && decide (0 < a.n), a.n, a.d⟩
def addQ (a b : Q) : Q :=
  if a.neg = b.neg then mkQ a.neg (a.n * b.d + b.n * a.d) (a.d * b.d)
  else if b.n * a.d ≤ a.n * b.d then mkQ a.neg (a.n * b.d - b.n * a.d) (a.d * b.d)
  else mkQ b.neg (b.n * a.d - a.n * b.d) (a.d * b.d)
def mulQ (a b : Q) : Q := mkQ (a.neg != b.neg) (a.n * b.n) (a.d * b.d)
def divQ (a b : Q) : Q := mkQ (a.neg != b.neg) (a.n * b.d) (a.d * b.n)
def sgnQ (a : Q) : Int := if a.n = 0 then 0 else if a.neg then -1 else 1

theorem gcd_pos {m n : Nat} (hn : 0 < n) : 0 < Nat.gcd m n := Nat.gcd_pos_of_pos_right m hn
theorem div_gcd_pos {m n : Nat} (hn : 0 < n) : 0 < n / Nat.gcd m n := Nat.div_pos (Nat.le_of_dvd hn (Nat.gcd_dvd_right m n)) (gcd_pos hn)
theorem mkQ_len {L : Nat} {b : Bool} {m n : Nat} (hm : (digs m).length ≤ L) (hn : (digs n).length ≤ L) (h0 : 0 < n) : lenQ L (mkQ b m n) :=
  ⟨Nat.le_trans (digs_len_mono (Nat.div_le_self _ _)) hm, Nat.le_trans (digs_len_mono (Nat.div_le_self _ _)) hn, div_gcd_pos h0⟩
theorem negQ_len {L : Nat} {a : Q} (h : lenQ L a) : lenQ L (negQ a) := h
theorem addQ_len {L : Nat} {a b : Q} (ha : lenQ L a) (hb : lenQ L b) : lenQ (2 * L + 1) (addQ a b) := by
  obtain ⟨a1, a2, a3⟩ := ha
  obtain ⟨b1, b2, b3⟩ := hb
  have h1 := digs_mul_le a.n b.d
  have h2 := digs_mul_le b.n a.d
  have h3 := digs_mul_le a.d b.d
  have h4 := Nat.mul_pos a3 b3
  have h5 := digs_add_le (L := 2 * L) (m := a.n * b.d) (n := b.n * a.d) (by omega) (by omega)
  have h6 := digs_len_mono (Nat.sub_le (a.n * b.d) (b.n * a.d))
  have h7 := digs_len_mono (Nat.sub_le (b.n * a.d) (a.n * b.d))
  unfold addQ
  split
  · exact mkQ_len (by omega) (by omega) h4
  · split
    · exact mkQ_len (by omega) (by omega) h4
    · exact mkQ_len (by omega) (by omega) h4
theorem mulQ_len {L : Nat} {a b : Q} (ha : lenQ L a) (hb : lenQ L b) : lenQ (2 * L) (mulQ a b) := by
  obtain ⟨a1, a2, a3⟩ := ha
  obtain ⟨b1, b2, b3⟩ := hb
  have h1 := digs_mul_le a.n b.n
  have h3 := digs_mul_le a.d b.d
  exact mkQ_len (by omega) (by omega) (Nat.mul_pos a3 b3)
theorem divQ_len {L : Nat} {a b : Q} (ha : lenQ L a) (hb : lenQ L b) (h0 : 0 < b.n) : lenQ (2 * L) (divQ a b) := by
  obtain ⟨a1, a2, a3⟩ := ha
  obtain ⟨b1, b2, b3⟩ := hb
  have h1 := digs_mul_le a.n b.d
  have h3 := digs_mul_le a.d b.n
  exact mkQ_len (by omega) (by omega) (Nat.mul_pos a3 h0)

/-- The number with its sign. -/
def sg (b : Bool) (m : Nat) : Int := if b then -(m : Int) else m

theorem div_gcd_zero {m n : Nat} (_hn : 0 < n) : m / Nat.gcd m n = 0 ↔ m = 0 := by
  constructor
  · intro h
    have h1 := Nat.div_mul_cancel (Nat.gcd_dvd_left m n)
    rw [h] at h1
    omega
  · rintro rfl; simp
theorem sgnQ_mk {b : Bool} {m n : Nat} (hn : 0 < n) : sgnQ (mkQ b m n) = Int.sign (sg b m) := by
  unfold sgnQ mkQ sg
  simp only [div_gcd_zero hn]
  rcases Nat.eq_zero_or_pos m with h | h
  · subst h; cases b <;> simp
  · have h2 : 0 < m / Nat.gcd m n := by
      rcases Nat.eq_zero_or_pos (m / Nat.gcd m n) with h3 | h3
      · rw [div_gcd_zero hn] at h3; omega
      · exact h3
    rw [if_neg (by omega)]
    cases b
    · simp [Int.sign_eq_one_of_pos (show (0 : Int) < m by omega)]
    · simp [h2, Int.sign_eq_one_of_pos (show (0 : Int) < m by omega)]

/-- The sign of a difference. -/
def cmpQ (a b : Q) : Int := Int.sign (sg a.neg (a.n * b.d) - sg b.neg (b.n * a.d))
theorem sg_neg {b : Q} {k : Nat} : sg (negQ b).neg (b.n * k) = - sg b.neg (b.n * k) := by
  unfold sg negQ
  rcases Nat.eq_zero_or_pos b.n with h | h
  · rw [h]; cases b.neg <;> simp
  · cases b.neg <;> simp [h]
theorem cmpQ_sub {a b : Q} (ha : 0 < a.d) (hb : 0 < b.d) : sgnQ (addQ a (negQ b)) = cmpQ a b := by
  have h0 := Nat.mul_pos ha hb
  have e : sg a.neg (a.n * b.d) - sg b.neg (b.n * a.d) = sg a.neg (a.n * b.d) + sg (negQ b).neg (b.n * a.d) := by rw [sg_neg]; omega
  unfold cmpQ
  rw [e]
  unfold addQ
  show sgnQ (if a.neg = (negQ b).neg then mkQ a.neg (a.n * b.d + b.n * a.d) (a.d * b.d) else if b.n * a.d ≤ a.n * b.d then mkQ a.neg (a.n * b.d - b.n * a.d) (a.d * b.d) else mkQ (negQ b).neg (b.n * a.d - a.n * b.d) (a.d * b.d)) = _
  generalize (negQ b).neg = c
  generalize a.n * b.d = p
  generalize b.n * a.d = q
  split
  · rename_i h
    rw [sgnQ_mk h0, h]
    congr 1
    unfold sg
    cases c <;> simp <;> omega
  · rename_i h
    split
    · rw [sgnQ_mk h0]
      congr 1
      unfold sg
      revert h
      cases a.neg <;> cases c <;> simp <;> omega
    · rw [sgnQ_mk h0]
      congr 1
      unfold sg
      revert h
      cases a.neg <;> cases c <;> simp <;> omega

/-- How the program compares: by signs first. -/
def cmpI (a b : Q) : Int := if sgnQ a ≠ sgnQ b then sgnQ a - sgnQ b else if a.neg then -(cmpN (a.n * b.d) (b.n * a.d)) else cmpN (a.n * b.d) (b.n * a.d)
theorem sign_if (x : Int) : Int.sign x = if 0 < x then 1 else if x = 0 then 0 else -1 := by
  rcases Int.lt_trichotomy x 0 with h | h | h
  · rw [Int.sign_eq_neg_one_of_neg h, if_neg (by omega), if_neg (by omega)]
  · subst h; rfl
  · rw [Int.sign_eq_one_of_pos h, if_pos h]
theorem cmpI_sign {a b : Q} (ha : 0 < a.d) (hb : 0 < b.d) : Int.sign (cmpI a b) = cmpQ a b := by
  have hp : a.n = 0 ↔ a.n * b.d = 0 := by rw [Nat.mul_eq_zero]; omega
  have hq : b.n = 0 ↔ b.n * a.d = 0 := by rw [Nat.mul_eq_zero]; omega
  unfold cmpI cmpQ sgnQ sg cmpN
  rw [sign_if, sign_if]
  generalize a.n * b.d = p at *
  generalize b.n * a.d = q at *
  simp only [hp, hq]
  cases a.neg <;> cases b.neg <;> simp only [Bool.false_eq_true, if_false, if_true] <;> (repeat' split) <;> omega
theorem cmpI_nonneg {a b : Q} (ha : 0 < a.d) (hb : 0 < b.d) : 0 ≤ cmpI a b ↔ 0 ≤ cmpQ a b := by
  rw [← cmpI_sign ha hb, sign_if]
  repeat' split
  all_goals omega
theorem cmpI_bnd (a b : Q) : -2 ≤ cmpI a b ∧ cmpI a b ≤ 2 := by
  unfold cmpI sgnQ cmpN
  repeat' split
  all_goals omega
attribute [go_sem] encQ_eq Q.eta
end Go.PL

/- AF -/
namespace Go.PL
open Go Go.Proofs
set_option maxRecDepth 10000
set_option maxHeartbeats 4000000
set_option linter.unusedSimpArgs false
set_option linter.unusedVariables false
theorem digs_len_pos' {n : Nat} : 0 < ((digs n).length : Int) ↔ 0 < n := by
  have := digs_len0 (n := n); omega
theorem add_step {a b l : List Int} {i : Nat} {c s : Int} (hl : l.length = i) (hs : s = c + a.getD i 0 + b.getD i 0) (hv : val l + 10000 ^ i * c = val (a.take i) + val (b.take i)) :
    val (l ++ [s % 10000]) + 10000 ^ (i + 1) * (s / 10000) = val (a.take (i + 1)) + val (b.take (i + 1)) := by
  rw [val_take, val_take, val_app, hl, Int.pow_succ]
  have h : s = 10000 * (s / 10000) + s % 10000 := (Int.mul_ediv_add_emod s 10000).symm
  generalize s / 10000 = q at *
  generalize s % 10000 = r at *
  generalize (10000 : Int) ^ i = p at *
  simp only [val]
  grind
/-- What a round of an addition keeps. -/
def addI (a b : List Int) (t : Nat) (i : Nat) (c : Int) (l : List Int) : Prop :=
  l.length = i ∧ Dig l ∧ 0 ≤ c ∧ c ≤ 1 ∧ val l + 10000 ^ i * c = val (a.take i) + val (b.take i) ∧ (i = 0 ∨ 10000 ^ (i - 1) ≤ t) ∧ i ≤ 4096
theorem pow_cast (i : Nat) : ((10000 ^ i : Nat) : Int) = (10000 : Int) ^ i := by simp
theorem addI_step {a b l : List Int} {m n i : Nat} {c s : Int} (ha : Dig a) (hb : Dig b) (hva : val a = m) (hvb : val b = n) (hla : a.length < 4096) (hlb : b.length < 4096) (hga : ∀ {L : Nat}, L < a.length → 10000 ^ L ≤ m) (hgb : ∀ {L : Nat}, L < b.length → 10000 ^ L ≤ n)
    (h : addI a b (m + n) i c l) (hs : s = c + a.getD i 0 + b.getD i 0) (hc : i < a.length ∨ i < b.length ∨ 0 < c) : addI a b (m + n) (i + 1) (s / 10000) (l ++ [s % 10000]) := by
  obtain ⟨h1, h2, h3, h4, h5, h6, h7⟩ := h
  have ga := ha.get i
  have gb := hb.get i
  have key : 10000 ^ i ≤ m + n := by
    by_cases e1 : i < a.length
    · have := hga e1; omega
    · by_cases e2 : i < b.length
      · have := hgb e2; omega
      · have e3 : c = 1 := by omega
        rw [e3, Int.mul_one, List.take_of_length_le (by omega), List.take_of_length_le (by omega), hva, hvb, ← pow_cast] at h5
        have := val_nonneg h2
        omega
  have hi : i < 4096 := by
    have e1 := val_lt ha
    have e2 := val_lt hb
    rw [hva, ← pow_cast] at e1
    rw [hvb, ← pow_cast] at e2
    obtain ⟨M, hM⟩ : ∃ M, M = 4095 := ⟨_, rfl⟩
    have e3 := Nat.pow_le_pow_right (by omega : 0 < 10000) (by omega : a.length ≤ M)
    have e4 := Nat.pow_le_pow_right (by omega : 0 < 10000) (by omega : b.length ≤ M)
    rcases Nat.lt_or_ge i 4096 with q | q
    · exact q
    · have e5 := Nat.pow_le_pow_right (by omega : 0 < 10000) (show M + 1 ≤ i by omega)
      rw [Nat.pow_succ] at e5
      generalize 10000 ^ M = z at *
      omega
  exact ⟨by simp [h1], h2.app (.cons (by omega) (by omega) .nil), by omega, by omega, add_step h1 hs h5, .inr key, hi⟩
theorem addI_end {a b l : List Int} {m n i : Nat} {c : Int} (hva : val a = m) (hvb : val b = n) (h : addI a b (m + n) i c l) (h1 : a.length ≤ i) (h2 : b.length ≤ i) (h3 : c ≤ 0) : l = digs (m + n) := by
  obtain ⟨k1, k2, k3, k4, k5, k6, k7⟩ := h
  have e : c = 0 := by omega
  rw [e, Int.mul_zero, Int.add_zero, List.take_of_length_le h1, List.take_of_length_le h2, hva, hvb] at k5
  refine digs_of k2 (by rw [k5]; omega) ?_
  rw [k1]; exact k6
theorem addI_zero {a b : List Int} {t : Nat} : addI a b t 0 0 [] := ⟨rfl, Dig.nil, by simp, by simp, by simp [val], .inl rfl, by simp⟩
abbrev dQ (b : Bool) (m n : Nat) : D := .agg [.b b, encD (digs m), encD (digs n)]
instance (b : Bool) (m n : Nat) : Con CC 27 [.d (.b b), .d (encD (digs m)), .d (encD (digs n))] (0 < n ∧ (digs m).length ≤ 1800 ∧ (digs n).length ≤ 1800) (.d (encQ (mkQ b m n))) := by
  constructor; intro ⟨h0, hm, hn⟩
  have hg := gcd_pos (m := m) h0
  have hgl : (digs (Nat.gcd m n)).length ≤ 2000 := Nat.le_trans (digs_len_mono (Nat.le_of_dvd h0 (Nat.gcd_dvd_right m n))) (by omega)
  have hp := digs_len_mono (Nat.div_le_self m (Nat.gcd m n))
  refine Den.pureI Tryz.func27 rfl 3 [.cell 6 25] (by kernel_rfl) rfl rfl (by simp only [initE_nil, initE_cons, Nat.reduceAdd]; exact rfl) ?_
  repeat' first | (with_reducible first | refine nx' ?_ | refine n0 ?_ | refine rD ?_ | refine n1 ?_ | refine nilB_i fun b hb => ?_ | refine nP ?_ ?_ | refine nS fun K hK => ?_ | (refine n2 ?_ ?_ <;> intro h <;> first | subst (h : _ = true) | subst (h : _ = false) | skip) | refine And.intro ?_ ?_ | refine nK ‹Imp _ _› ?_) | exact nl | fail
  all_goals simp only [mkQ, digs_len_pos', Bool.true_and, Bool.false_and]
theorem addQ_1 {b c : Bool} {m n u v : Nat} (h : b = c) : addQ ⟨b, m, n⟩ ⟨c, u, v⟩ = mkQ b (m * v + u * n) (n * v) := if_pos h
theorem addQ_2 {b c : Bool} {m n u v : Nat} (h : b ≠ c) (h2 : u * n ≤ m * v) : addQ ⟨b, m, n⟩ ⟨c, u, v⟩ = mkQ b (m * v - u * n) (n * v) := by unfold addQ; rw [if_neg h, if_pos h2]
theorem addQ_3 {b c : Bool} {m n u v : Nat} (h : b ≠ c) (h2 : m * v < u * n) : addQ ⟨b, m, n⟩ ⟨c, u, v⟩ = mkQ c (u * n - m * v) (n * v) := by unfold addQ; rw [if_neg h, if_neg (by simp only; omega)]
end Go.PL
