/- A plain machine, sound for the given model, and contracts of functions over it, part 31: AO3 AQ AF AG. Nothing is assumed. -/
import Derived.Test.YtapgbbaefieibacGreatDoorPlBack
import Derived.Test.YtapgbbaefieibacGreatDoorG16
import Derived.Test.YtapgbbaefieibacGreatDoorA1
import Derived.Test.YtapgbbaefieibacGreatDoorA4
import Derived.Test.YtapgbbaefieibacGreatDoorA7
import Derived.Test.YtapgbbaefieibacGreatDoorG30
set_option linter.unusedSimpArgs false
set_option linter.unusedVariables false
set_option linter.unusedSectionVars false
/- AO3 -/
namespace Go.PL
open Go Go.Proofs
set_option maxRecDepth 10000
set_option maxHeartbeats 4000000
set_option linter.unusedSimpArgs false
set_option linter.unusedVariables false
abbrev rt0 : Rt := ⟨false, [], []⟩
abbrev spB : ByteArray := ByteArray.mk #[32]
/-- A vector's text. -/
def vecTB (l : List Rt) : ByteArray := joinB (l.map ratTB) spB
theorem okVec_parts {l : List Rt} (h : okVec l = true) : l.length ≤ 4 ∧ ∀ r ∈ l, okRat r = true := by
  unfold okVec at h
  rw [decide_eq_true_eq] at h
  refine ⟨h.2.1, fun r hr => ?_⟩
  obtain ⟨i, hi, rfl⟩ := List.getElem_of_mem hr
  have := h.2.2 i hi
  simpa only [List.getD, List.getElem?_eq_getElem hi, Option.getD_some] using this
theorem szJ_rats {l : List Rt} (hl : l.length ≤ 4) (h : ∀ r ∈ l, okRat r = true) : szJ (l.map ratTB) spB ≤ 1604 := by
  have h1 := szJ_le (ws := l.map ratTB) (sep := spB) (b := 400) fun w hw => by
    obtain ⟨k, hk, rfl⟩ := List.mem_map.1 hw
    exact ratTB_size (h k hk)
  have e : spB.size = 1 := rfl
  rw [List.length_map, e] at h1
  have := Nat.mul_le_mul_left (1 + 400) hl
  omega
theorem take_ratT {l : List Rt} {i : Nat} (h : i < l.length) : (l.take i).map ratTB ++ [ratTB (l.getD i rt0)] = (l.take (i + 1)).map ratTB := by
  rw [List.take_add_one, List.getElem?_eq_getElem h, List.map_append, List.getD, List.getElem?_eq_getElem h]; rfl
theorem vecTB_size {l : List Rt} (h : okVec l = true) : (vecTB l).size ≤ 1604 := by
  obtain ⟨h1, h2⟩ := okVec_parts h
  exact Nat.le_trans (joinB_size _ _) (szJ_rats h1 h2)
instance (l : List Rt) : Con CC 41 [.d (.sl (l.map encR))] (okVec l = true) (.d (.s (vecTB l))) := by
  constructor; intro ho
  obtain ⟨hl, hk⟩ := okVec_parts ho
  have hz := szJ_rats hl hk
  refine Den.pureI Tryz.func41 rfl 1 [.tmp 2] (by kernel_rfl) rfl rfl (by simp only [initE_nil, initE_cons, Nat.reduceAdd]; exact rfl) ?_
  repeat' first | (with_reducible first | refine nx' ?_ | refine n0 ?_ | refine rD ?_ | refine n1 ?_ | refine nilB_i fun b hb => ?_ | refine nP ?_ ?_ | refine nS fun K hK => ?_ | (refine n2 ?_ ?_ <;> intro h <;> first | subst (h : _ = true) | subst (h : _ = false) | skip) | refine And.intro ?_ ?_ | refine nK ‹Imp _ _› ?_) | exact nl | fail
  refine Wp.loopR (fun x : Nat × List ByteArray => ⟨[(0, .d (.sl (l.map encR))), (3, .msl 0 0 x.2.length), (4, .d (.i x.1))], [.arr 1 (x.2.map .s) false]⟩) (fun x => l.length - x.1) (fun x => x.1 ≤ l.length ∧ x.2 = (l.take x.1).map ratTB) (0, []) Weak.lo ⟨by simp, rfl⟩ ?_
  rintro ⟨i, ws⟩ ⟨hi, hw⟩ K hK
  simp only at hi hw ⊢
  have hlt : ws.length = i := by rw [hw, List.length_map, List.length_take]; omega
  by_cases hil : i < l.length
  · have e := take_ratT hil
    have hki := hk _ (getD_mem rt0 hil)
    repeat' first | (with_reducible first | refine nx' ?_ | refine n0 ?_ | refine rD ?_ | refine n1 ?_ | refine nilB_i fun b hb => ?_ | refine nP ?_ ?_ | refine nS fun K hK => ?_ | (refine n2 ?_ ?_ <;> intro h <;> first | subst (h : _ = true) | subst (h : _ = false) | skip) | refine And.intro ?_ ?_ | refine nK ‹Imp _ _› ?_) | exact nl | fail
    exact ⟨(i + 1, ws ++ [ratTB (l.getD i rt0)]), by simp only; omega, ⟨by simp only; omega, by rw [hw, e]⟩, Weak.cu⟩
  · obtain rfl : i = l.length := by omega
    rw [List.take_length] at hw
    have hz2 : szJ ws spB ≤ 140737488355328 := by rw [hw]; omega
    repeat' first | (with_reducible first | refine nx' ?_ | refine n0 ?_ | refine rD ?_ | refine n1 ?_ | refine nilB_i fun b hb => ?_ | refine nP ?_ ?_ | refine nS fun K hK => ?_ | (refine n2 ?_ ?_ <;> intro h <;> first | subst (h : _ = true) | subst (h : _ = false) | skip) | refine And.intro ?_ ?_ | refine nK ‹Imp _ _› ?_) | exact nl | fail
    rw [hw]; rfl
instance (l : List Rt) : Con CC 50 [.d (.sl (l.map encR))] (okVec l = true) (.d (.s (vecTB l))) := by
  constructor; intro ho
  obtain ⟨hl, hk⟩ := okVec_parts ho
  have hz := szJ_rats hl hk
  refine Den.pureI Tryz.func50 rfl 1 [.tmp 2] (by kernel_rfl) rfl rfl (by simp only [initE_nil, initE_cons, Nat.reduceAdd]; exact rfl) ?_
  repeat' first | (with_reducible first | refine nx' ?_ | refine n0 ?_ | refine rD ?_ | refine n1 ?_ | refine nilB_i fun b hb => ?_ | refine nP ?_ ?_ | refine nS fun K hK => ?_ | (refine n2 ?_ ?_ <;> intro h <;> first | subst (h : _ = true) | subst (h : _ = false) | skip) | refine And.intro ?_ ?_ | refine nK ‹Imp _ _› ?_) | exact nl | fail
  refine Wp.loopR (fun x : Nat × List ByteArray => ⟨[(3, .msl 0 0 x.2.length), (7, .d (.sl (l.map encR))), (8, .d (.i l.length)), (9, .d (.i x.1))], [.arr 1 (x.2.map .s) false]⟩) (fun x => l.length - x.1) (fun x => x.1 ≤ l.length ∧ x.2 = (l.take x.1).map ratTB) (0, []) Weak.lo ⟨by simp, rfl⟩ ?_
  rintro ⟨i, ws⟩ ⟨hi, hw⟩ K hK
  simp only at hi hw ⊢
  have hlt : ws.length = i := by rw [hw, List.length_map, List.length_take]; omega
  by_cases hil : i < l.length
  · have e := take_ratT hil
    have hki := hk _ (getD_mem rt0 hil)
    repeat' first | (with_reducible first | refine nx' ?_ | refine n0 ?_ | refine rD ?_ | refine n1 ?_ | refine nilB_i fun b hb => ?_ | refine nP ?_ ?_ | refine nS fun K hK => ?_ | (refine n2 ?_ ?_ <;> intro h <;> first | subst (h : _ = true) | subst (h : _ = false) | skip) | refine And.intro ?_ ?_ | refine nK ‹Imp _ _› ?_) | exact nl | fail
    exact ⟨(i + 1, ws ++ [ratTB (l.getD i rt0)]), by simp only; omega, ⟨by simp only; omega, by rw [hw, e]⟩, Weak.cu⟩
  · obtain rfl : i = l.length := by omega
    rw [List.take_length] at hw
    have hz2 : szJ ws spB ≤ 140737488355328 := by rw [hw]; omega
    repeat' first | (with_reducible first | refine nx' ?_ | refine n0 ?_ | refine rD ?_ | refine n1 ?_ | refine nilB_i fun b hb => ?_ | refine nP ?_ ?_ | refine nS fun K hK => ?_ | (refine n2 ?_ ?_ <;> intro h <;> first | subst (h : _ = true) | subst (h : _ = false) | skip) | refine And.intro ?_ ?_ | refine nK ‹Imp _ _› ?_) | exact nl | fail
    rw [hw]; rfl
/-- A record's text. -/
def recTB (r : Rc) : ByteArray := ByteArray.mk #[97, 116, 32] ++ digB r.iter.toNat ++ ByteArray.mk #[32, 104, 97, 108, 118, 101, 100, 32] ++ digB r.count.toNat ++ ByteArray.mk #[32, 118, 97, 108, 117, 101, 32] ++ ratTB r.f ++ ByteArray.mk #[32, 112, 111, 105, 110, 116, 32] ++ vecTB r.x
theorem okRc_parts {r : Rc} (h : okRc r = true) : (∃ m n : Nat, r.iter = m ∧ r.count = n ∧ m ≤ 6 ∧ n ≤ 30) ∧ okVec r.x = true ∧ okRat r.f = true := by
  unfold okRc at h
  simp only [Bool.and_eq_true, decide_eq_true_eq] at h
  exact ⟨⟨r.iter.toNat, r.count.toNat, by omega, by omega, by omega, by omega⟩, h.1.2, h.2⟩
end Go.PL

/- AQ -/
/- Rationals as the program has them: sign, numerator, denominator, as naturals; the same functions on both sides. -/
namespace Go.PL
open Go

theorem digs_mul_le (m n : Nat) : (digs (m * n)).length ≤ (digs m).length + (digs n).length := by
  refine digs_len_le ?_
  rw [Nat.pow_add]
  exact Nat.mul_lt_mul'' (digs_lt_pow m) (digs_lt_pow n)
theorem digs_add_le {m n L : Nat} (hm : (digs m).length ≤ L) (hn : (digs n).length ≤ L) : (digs (m + n)).length ≤ L + 1 := by
  refine digs_len_le ?_
  have h1 := Nat.lt_of_lt_of_le (digs_lt_pow m) (Nat.pow_le_pow_right (by omega : 0 < 10000) hm)
  have h2 := Nat.lt_of_lt_of_le (digs_lt_pow n) (Nat.pow_le_pow_right (by omega : 0 < 10000) hn)
  rw [Nat.pow_succ]
  omega

theorem dig_ext : ∀ {a b : List Int}, Dig a → Dig b → a.length = b.length → val a = val b → a = b
  | [], [], _, _, _, _ => rfl
  | x :: r, y :: s, ha, hb, hl, hv => by
    have h1 := ha.head
    have h2 := hb.head
    simp only [val] at hv
    have h3 : x = y := by omega
    have h4 : val r = val s := by omega
    rw [h3, dig_ext ha.tail hb.tail (by simpa using hl) h4]

/-- Limbs whose highest stands for something. -/
theorem digs_of {l : List Int} {x : Nat} (hd : Dig l) (hv : val l = x) (ht : l.length = 0 ∨ 10000 ^ (l.length - 1) ≤ x) : l = digs x := by
  refine dig_ext hd (Dig.digs x) ?_ (by rw [hv, val_digs])
  have h1 := val_lt hd
  rw [hv] at h1
  have h2 : x < 10000 ^ l.length := by
    have : ((10000 ^ l.length : Nat) : Int) = (10000 : Int) ^ l.length := by simp
    omega
  have h3 := digs_len_le h2
  rcases ht with ht | ht
  · omega
  · rcases Nat.lt_or_ge (digs x).length l.length with h4 | h4
    · have h5 := digs_lt_pow x
      have h6 := Nat.pow_le_pow_right (by omega : 0 < 10000) (by omega : (digs x).length ≤ l.length - 1)
      omega
    · omega

structure Q where
  neg : Bool
  n : Nat
  d : Nat
deriving DecidableEq

def encQ (q : Q) : D := .agg [.b q.neg, encD (digs q.n), encD (digs q.d)]
theorem encQ_eq {q : Q} : encQ q = .agg [.b q.neg, encD (digs q.n), encD (digs q.d)] := rfl
theorem Q.eta {q : Q} : Q.mk q.neg q.n q.d = q := rfl

/-- Not longer than some limbs; over a number. -/
def lenQ (L : Nat) (q : Q) : Prop := (digs q.n).length ≤ L ∧ (digs q.d).length ≤ L ∧ 0 < q.d

def mkQ (b : Bool) (m n : Nat) : Q := ⟨b && decide (0 < m / Nat.gcd m n), m / Nat.gcd m n, n / Nat.gcd m n⟩
def negQ (a : Q) : Q := ⟨!a.neg && decide (0 < a.n), a.n, a.d⟩
def addQ (a b : Q) : Q :=
  if a.neg = b.neg then mkQ a.neg (a.n * b.d + b.n * a.d) (a.d * b.d)
  else if b.n * a.d ≤ a.n * b.d then mkQ a.neg (a.n * b.d - b.n * a.d) (a.d * b.d)
  else mkQ b.neg (b.n * a.d - a.n * b.d) (a.d * b.d)
def mulQ (a b : Q) : Q := mkQ (a.neg != b.neg) (a.n * b.n) (a.d * b.d)
def divQ (a b : Q) : Q := mkQ (a.neg != b.neg) (a.n * b.d) (a.d * b.n)
def sgnQ (a : Q) : Int := if a.n = 0 then 0 else if a.neg then -1 else 1

theorem gcd_pos {m n : Nat} (hn : 0 < n) : 0 < Nat.gcd m n := Nat.gcd_pos_of_pos_right m hn
theorem div_gcd_pos {m n : Nat} (hn : 0 < n) : 0 < n / Nat.gcd m n := Nat.div_pos (Nat.le_of_dvd hn (Nat.gcd_dvd_right m n)) (gcd_pos hn)
theorem mkQ_len {L : Nat} {b : Bool} {m n : Nat} (hm : (digs m).length ≤ L) (hn : (digs n).length ≤ L) (h0 : 0 < n) : lenQ L (mkQ b m n) :=
  ⟨Nat.le_trans (digs_len_mono (Nat.div_le_self _ _)) hm, Nat.le_trans (digs_len_mono (Nat.div_le_self _ _)) hn, div_gcd_pos h0⟩
theorem negQ_len {L : Nat} {a : Q} (h : lenQ L a) : lenQ L (negQ a) := h
theorem addQ_len {L : Nat} {a b : Q} (ha : lenQ L a) (hb : lenQ L b) : lenQ (2 * L + 1) (addQ a b) := by
  obtain ⟨a1, a2, a3⟩ := ha
  obtain ⟨b1, b2, b3⟩ := hb
  have h1 := digs_mul_le a.n b.d
  have h2 := digs_mul_le b.n a.d
  have h3 := digs_mul_le a.d b.d
  have h4 := Nat.mul_pos a3 b3
  have h5 := digs_add_le (L := 2 * L) (m := a.n * b.d) (n := b.n * a.d) (by omega) (by omega)
  have h6 := digs_len_mono (Nat.sub_le (a.n * b.d) (b.n * a.d))
  have h7 := digs_len_mono (Nat.sub_le (b.n * a.d) (a.n * b.d))
  unfold addQ
  split
  · exact mkQ_len (by omega) (by omega) h4
  · split
    · exact mkQ_len (by omega) (by omega) h4
    · exact mkQ_len (by omega) (by omega) h4
theorem mulQ_len {L : Nat} {a b : Q} (ha : lenQ L a) (hb : lenQ L b) : lenQ (2 * L) (mulQ a b) := by
  obtain ⟨a1, a2, a3⟩ := ha
  obtain ⟨b1, b2, b3⟩ := hb
  have h1 := digs_mul_le a.n b.n
  have h3 := digs_mul_le a.d b.d
  exact mkQ_len (by omega) (by omega) (Nat.mul_pos a3 b3)
theorem divQ_len {L : Nat} {a b : Q} (ha : lenQ L a) (hb : lenQ L b) (h0 : 0 < b.n) : lenQ (2 * L) (divQ a b) := by
  obtain ⟨a1, a2, a3⟩ := ha
  obtain ⟨b1, b2, b3⟩ := hb
  have h1 := digs_mul_le a.n b.d
  have h3 := digs_mul_le a.d b.n
  exact mkQ_len (by omega) (by omega) (Nat.mul_pos a3 h0)

/-- The number with its sign. -/
def sg (b : Bool) (m : Nat) : Int := if b then -(m : Int) else m

theorem div_gcd_zero {m n : Nat} (_hn : 0 < n) : m / Nat.gcd m n = 0 ↔ m = 0 := by
  constructor
  · intro h
    have h1 := Nat.div_mul_cancel (Nat.gcd_dvd_left m n)
    rw [h] at h1
    omega
  · rintro rfl; simp
theorem sgnQ_mk {b : Bool} {m n : Nat} (hn : 0 < n) : sgnQ (mkQ b m n) = Int.sign (sg b m) := by
  unfold sgnQ mkQ sg
  simp only [div_gcd_zero hn]
  rcases Nat.eq_zero_or_pos m with h | h
  · subst h; cases b <;> simp
  · have h2 : 0 < m / Nat.gcd m n := by
      rcases Nat.eq_zero_or_pos (m / Nat.gcd m n) with h3 | h3
      · rw [div_gcd_zero hn] at h3; omega
      · exact h3
    rw [if_neg (by omega)]
    cases b
    · simp [Int.sign_eq_one_of_pos (show (0 : Int) < m by omega)]
    · simp [h2, Int.sign_eq_one_of_pos (show (0 : Int) < m by omega)]

/-- The sign of a difference. -/
def cmpQ (a b : Q) : Int := Int.sign (sg a.neg (a.n * b.d) - sg b.neg (b.n * a.d))
theorem sg_neg {b : Q} {k : Nat} : sg (negQ b).neg (b.n * k) = - sg b.neg (b.n * k) := by
  unfold sg negQ
  rcases Nat.eq_zero_or_pos b.n with h | h
  · rw [h]; cases b.neg <;> simp
  · cases b.neg <;> simp [h]
theorem cmpQ_sub {a b : Q} (ha : 0 < a.d) (hb : 0 < b.d) : sgnQ (addQ a (negQ b)) = cmpQ a b := by
  have h0 := Nat.mul_pos ha hb
  have e : sg a.neg (a.n * b.d) - sg b.neg (b.n * a.d) = sg a.neg (a.n * b.d) + sg (negQ b).neg (b.n * a.d) := by rw [sg_neg]; omega
  unfold cmpQ
  rw [e]
  unfold addQ
  show sgnQ (if a.neg = (negQ b).neg then mkQ a.neg (a.n * b.d + b.n * a.d) (a.d * b.d) else if b.n * a.d ≤ a.n * b.d then mkQ a.neg (a.n * b.d - b.n * a.d) (a.d * b.d) else mkQ (negQ b).neg (b.n * a.d - a.n * b.d) (a.d * b.d)) = _
  generalize (negQ b).neg = c
  generalize a.n * b.d = p
  generalize b.n * a.d = q
  split
  · rename_i h
    rw [sgnQ_mk h0, h]
    congr 1
    unfold sg
    cases c <;> simp <;> omega
  · rename_i h
    split
    · rw [sgnQ_mk h0]
      congr 1
      unfold sg
      revert h
      cases a.neg <;> cases c <;> simp <;> omega
    · rw [sgnQ_mk h0]
      congr 1
      unfold sg
      revert h
      cases a.neg <;> cases c <;> simp <;> omega

/-- How the program compares: by signs first. -/
def cmpI (a b : Q) : Int := if sgnQ a ≠ sgnQ b then sgnQ a - sgnQ b else if a.neg then -(cmpN (a.n * b.d) (b.n * a.d)) else cmpN (a.n * b.d) (b.n * a.d)
theorem sign_if (x : Int) : Int.sign x = if 0 < x then 1 else if x = 0 then 0 else -1 := by
  rcases Int.lt_trichotomy x 0 with h | h | h
  · rw [Int.sign_eq_neg_one_of_neg h, if_neg (by omega), if_neg (by omega)]
  · subst h; rfl
  · rw [Int.sign_eq_one_of_pos h, if_pos h]
theorem cmpI_sign {a b : Q} (ha : 0 < a.d) (hb : 0 < b.d) : Int.sign (cmpI a b) = cmpQ a b := by
  have hp : a.n = 0 ↔ a.n * b.d = 0 := by rw [Nat.mul_eq_zero]; omega
  have hq : b.n = 0 ↔ b.n * a.d = 0 := by rw [Nat.mul_eq_zero]; omega
  unfold cmpI cmpQ sgnQ sg cmpN
  rw [sign_if, sign_if]
  generalize a.n * b.d = p at *
  generalize b.n * a.d = q at *
  simp only [hp, hq]
  cases a.neg <;> cases b.neg <;> simp only [Bool.false_eq_true, if_false, if_true] <;> (repeat' split) <;> omega
theorem cmpI_nonneg {a b : Q} (ha : 0 < a.d) (hb : 0 < b.d) : 0 ≤ cmpI a b ↔ 0 ≤ cmpQ a b := by
  rw [← cmpI_sign ha hb, sign_if]
  repeat' split
  all_goals omega
theorem cmpI_bnd (a b : Q) : -2 ≤ cmpI a b ∧ cmpI a b ≤ 2 := by
  unfold cmpI sgnQ cmpN
  repeat' split
  all_goals omega
attribute [go_sem] encQ_eq Q.eta
end Go.PL

/- AF -/
namespace Go.PL
open Go Go.Proofs
set_option maxRecDepth 10000
set_option maxHeartbeats 4000000
set_option linter.unusedSimpArgs false
set_option linter.unusedVariables false
theorem digs_len_pos' {n : Nat} : 0 < ((digs n).length : Int) ↔ 0 < n := by
  have := digs_len0 (n := n); omega
theorem add_step {a b l : List Int} {i : Nat} {c s : Int} (hl : l.length = i) (hs : s = c + a.getD i 0 + b.getD i 0) (hv : val l + 10000 ^ i * c = val (a.take i) + val (b.take i)) :
    val (l ++ [s % 10000]) + 10000 ^ (i + 1) * (s / 10000) = val (a.take (i + 1)) + val (b.take (i + 1)) := by
  rw [val_take, val_take, val_app, hl, Int.pow_succ]
  have h : s = 10000 * (s / 10000) + s % 10000 := (Int.mul_ediv_add_emod s 10000).symm
  generalize s / 10000 = q at *
  generalize s % 10000 = r at *
  generalize (10000 : Int) ^ i = p at *
  simp only [val]
  grind
/-- What a round of an addition keeps. -/
def addI (a b : List Int) (t : Nat) (i : Nat) (c : Int) (l : List Int) : Prop :=
  l.length = i ∧ Dig l ∧ 0 ≤ c ∧ c ≤ 1 ∧ val l + 10000 ^ i * c = val (a.take i) + val (b.take i) ∧ (i = 0 ∨ 10000 ^ (i - 1) ≤ t) ∧ i ≤ 4096
theorem pow_cast (i : Nat) : ((10000 ^ i : Nat) : Int) = (10000 : Int) ^ i := by simp
theorem addI_step {a b l : List Int} {m n i : Nat} {c s : Int} (ha : Dig a) (hb : Dig b) (hva : val a = m) (hvb : val b = n) (hla : a.length < 4096) (hlb : b.length < 4096) (hga : ∀ {L : Nat}, L < a.length → 10000 ^ L ≤ m) (hgb : ∀ {L : Nat}, L < b.length → 10000 ^ L ≤ n)
    (h : addI a b (m + n) i c l) (hs : s = c + a.getD i 0 + b.getD i 0) (hc : i < a.length ∨ i < b.length ∨ 0 < c) : addI a b (m + n) (i + 1) (s / 10000) (l ++ [s % 10000]) := by
  obtain ⟨h1, h2, h3, h4, h5, h6, h7⟩ := h
  have ga := ha.get i
  have gb := hb.get i
  have key : 10000 ^ i ≤ m + n := by
    by_cases e1 : i < a.length
    · have := hga e1; omega
    · by_cases e2 : i < b.length
      · have := hgb e2; omega
      · have e3 : c = 1 := by omega
        rw [e3, Int.mul_one, List.take_of_length_le (by omega), List.take_of_length_le (by omega), hva, hvb, ← pow_cast] at h5
        have := val_nonneg h2
        omega
  have hi : i < 4096 := by
    have e1 := val_lt ha
    have e2 := val_lt hb
    rw [hva, ← pow_cast] at e1
    rw [hvb, ← pow_cast] at e2
    obtain ⟨M, hM⟩ : ∃ M, M = 4095 := ⟨_, rfl⟩
    have e3 := Nat.pow_le_pow_right (by omega : 0 < 10000) (by omega : a.length ≤ M)
    have e4 := Nat.pow_le_pow_right (by omega : 0 < 10000) (by omega : b.length ≤ M)
    rcases Nat.lt_or_ge i 4096 with q | q
    · exact q
    · have e5 := Nat.pow_le_pow_right (by omega : 0 < 10000) (show M + 1 ≤ i by omega)
      rw [Nat.pow_succ] at e5
      generalize 10000 ^ M = z at *
      omega
  exact ⟨by simp [h1], h2.app (.cons (by omega) (by omega) .nil), by omega, by omega, add_step h1 hs h5, .inr key, hi⟩
theorem addI_end {a b l : List Int} {m n i : Nat} {c : Int} (hva : val a = m) (hvb : val b = n) (h : addI a b (m + n) i c l) (h1 : a.length ≤ i) (h2 : b.length ≤ i) (h3 : c ≤ 0) : l = digs (m + n) := by
  obtain ⟨k1, k2, k3, k4, k5, k6, k7⟩ := h
  have e : c = 0 := by omega
  rw [e, Int.mul_zero, Int.add_zero, List.take_of_length_le h1, List.take_of_length_le h2, hva, hvb] at k5
  refine digs_of k2 (by rw [k5]; omega) ?_
  rw [k1]; exact k6
theorem addI_zero {a b : List Int} {t : Nat} : addI a b t 0 0 [] := ⟨rfl, Dig.nil, by simp, by simp, by simp [val], .inl rfl, by simp⟩
instance (m n : Nat) : Con CC 111 [.d (encD (digs m)), .d (encD (digs n))] ((digs m).length < 4096 ∧ (digs n).length < 4096) (.d (encD (digs (m + n)))) := by
  constructor; intro ⟨hm, hn⟩
  have hdm := Dig.digs m
  have hdn := Dig.digs n
  have hvm := val_digs m
  have hvn := val_digs n
  have hgm := @digs_len_ge m
  have hgn := @digs_len_ge n
  generalize digs m = a at *
  generalize digs n = b at *
  refine Den.pureI Tryz.func111 rfl 2 [.tmp 4] (by kernel_rfl) rfl rfl (by simp only [initE_nil, initE_cons, Nat.reduceAdd]; exact rfl) ?_
  repeat' first | (with_reducible first | refine nx' ?_ | refine n0 ?_ | refine rD ?_ | refine n1 ?_ | refine nilB_i fun b hb => ?_ | refine nP ?_ ?_ | refine nS fun K hK => ?_ | (refine n2 ?_ ?_ <;> intro h <;> first | subst (h : _ = true) | subst (h : _ = false) | skip) | refine And.intro ?_ ?_ | refine nK ‹Imp _ _› ?_) | exact nl | fail
  refine Wp.loopR (fun x : Nat × Int × List Int => ⟨[(0, .d (encD a)), (1, .d (encD b)), (5, .msl 0 0 x.2.2.length), (6, .d (.i x.2.1)), (7, .d (.i x.1))], [.arr 1 (x.2.2.map .i) false]⟩) (fun x => 4097 - x.1)
    (fun x => addI a b (m + n) x.1 x.2.1 x.2.2) (0, 0, []) (Weak.low ⟨rfl, rfl, rfl, rfl, rfl, trivial⟩) addI_zero ?_
  rintro ⟨i, c, l⟩ hI K hK
  simp only at hI ⊢
  obtain ⟨hl, hd, hc0, hc1, hv, ht, hi⟩ := id hI
  have ga := hdm.get i
  have gb := hdn.get i
  have st := fun s => addI_step (s := s) hdm hdn hvm hvn hm hn hgm hgn hI
  repeat' first | (with_reducible first | refine nx' ?_ | refine n0 ?_ | refine rD ?_ | refine n1 ?_ | refine nilB_i fun b hb => ?_ | refine nP ?_ ?_ | refine nS fun K hK => ?_ | (refine n2 ?_ ?_ <;> intro h <;> first | subst (h : _ = true) | subst (h : _ = false) | skip) | refine And.intro ?_ ?_ | refine nK ‹Imp _ _› ?_) | exact nl | fail
  · have h3 := st _ rfl (by omega)
    exact ⟨(i + 1, _, _), by have := h3.2.2.2.2.2.2; simp only; omega, h3, Weak.cu⟩
  · have h3 := st (c + a.getD i 0) (by rw [getD_over (by omega : b.length ≤ i)]; omega) (by omega)
    exact ⟨(i + 1, _, _), by have := h3.2.2.2.2.2.2; simp only; omega, h3, Weak.cu⟩
  · have h3 := st (c + b.getD i 0) (by rw [getD_over (by omega : a.length ≤ i)]; omega) (by omega)
    exact ⟨(i + 1, _, _), by have := h3.2.2.2.2.2.2; simp only; omega, h3, Weak.cu⟩
  · have h3 := st c (by rw [getD_over (by omega : a.length ≤ i), getD_over (by omega : b.length ≤ i)]; omega) (by omega)
    exact ⟨(i + 1, _, _), by have := h3.2.2.2.2.2.2; simp only; omega, h3, Weak.cu⟩
  · rw [addI_end hvm hvn hI (by omega) (by omega) (by omega)]

abbrev dQ (b : Bool) (m n : Nat) : D := .agg [.b b, encD (digs m), encD (digs n)]
instance (b : Bool) (m n : Nat) : Con CC 110 [.d (.b b), .d (encD (digs m)), .d (encD (digs n))] (0 < n ∧ (digs m).length ≤ 1800 ∧ (digs n).length ≤ 1800) (.d (encQ (mkQ b m n))) := by
  constructor; intro ⟨h0, hm, hn⟩
  have hg := gcd_pos (m := m) h0
  have hgl : (digs (Nat.gcd m n)).length ≤ 2000 := Nat.le_trans (digs_len_mono (Nat.le_of_dvd h0 (Nat.gcd_dvd_right m n))) (by omega)
  have hp := digs_len_mono (Nat.div_le_self m (Nat.gcd m n))
  refine Den.pureI Tryz.func110 rfl 3 [.cell 6 39] (by kernel_rfl) rfl rfl (by simp only [initE_nil, initE_cons, Nat.reduceAdd]; exact rfl) ?_
  repeat' first | (with_reducible first | refine nx' ?_ | refine n0 ?_ | refine rD ?_ | refine n1 ?_ | refine nilB_i fun b hb => ?_ | refine nP ?_ ?_ | refine nS fun K hK => ?_ | (refine n2 ?_ ?_ <;> intro h <;> first | subst (h : _ = true) | subst (h : _ = false) | skip) | refine And.intro ?_ ?_ | refine nK ‹Imp _ _› ?_) | exact nl | fail
  all_goals simp only [mkQ, digs_len_pos', Bool.true_and, Bool.false_and]
instance (b : Bool) (m n : Nat) : Con CC 88 [.d (.agg [.b b, encD (digs m), encD (digs n)])] ((digs m).length ≤ 1048576) (.d (encQ (negQ ⟨b, m, n⟩))) := by
  constructor; intro hm
  refine Den.pureI Tryz.func88 rfl 1 [.cell 2 39] (by kernel_rfl) rfl rfl (by simp only [initE_nil, initE_cons, Nat.reduceAdd]; exact rfl) ?_
  repeat' first | (with_reducible first | refine nx' ?_ | refine n0 ?_ | refine rD ?_ | refine n1 ?_ | refine nilB_i fun b hb => ?_ | refine nP ?_ ?_ | refine nS fun K hK => ?_ | (refine n2 ?_ ?_ <;> intro h <;> first | subst (h : _ = true) | subst (h : _ = false) | skip) | refine And.intro ?_ ?_ | refine nK ‹Imp _ _› ?_) | exact nl | fail
  all_goals ((try subst h); simp only [negQ, digs_len_pos', Bool.not_true, Bool.not_false, Bool.true_and, Bool.false_and])
instance (b : Bool) (m n : Nat) : Con CC 65 [.d (.agg [.b b, encD (digs m), encD (digs n)])] ((digs m).length ≤ 1048576) (.d (.b (decide (m = 0)))) := by
  constructor; intro hm
  refine Den.pureI Tryz.func65 rfl 1 [.tmp 2] (by kernel_rfl) rfl rfl (by simp only [initE_nil, initE_cons, Nat.reduceAdd]; exact rfl) ?_
  repeat' first | (with_reducible first | refine nx' ?_ | refine n0 ?_ | refine rD ?_ | refine n1 ?_ | refine nilB_i fun b hb => ?_ | refine nP ?_ ?_ | refine nS fun K hK => ?_ | (refine n2 ?_ ?_ <;> intro h <;> first | subst (h : _ = true) | subst (h : _ = false) | skip) | refine And.intro ?_ ?_ | refine nK ‹Imp _ _› ?_) | exact nl | fail
  congr 3
  rw [Bool.eq_iff_iff]; simp [digs_nil]
instance (b : Bool) (m n : Nat) : Con CC 37 [.d (.agg [.b b, encD (digs m), encD (digs n)])] ((digs m).length ≤ 1048576) (.d (.i (sgnQ ⟨b, m, n⟩))) := by
  constructor; intro hm
  refine Den.pureI Tryz.func37 rfl 1 [.tmp 2] (by kernel_rfl) rfl rfl (by simp only [initE_nil, initE_cons, Nat.reduceAdd]; exact rfl) ?_
  repeat' first | (with_reducible first | refine nx' ?_ | refine n0 ?_ | refine rD ?_ | refine n1 ?_ | refine nilB_i fun b hb => ?_ | refine nP ?_ ?_ | refine nS fun K hK => ?_ | (refine n2 ?_ ?_ <;> intro h <;> first | subst (h : _ = true) | subst (h : _ = false) | skip) | refine And.intro ?_ ?_ | refine nK ‹Imp _ _› ?_) | exact nl | fail
  all_goals simp [sgnQ, *]
theorem addQ_1 {b c : Bool} {m n u v : Nat} (h : b = c) : addQ ⟨b, m, n⟩ ⟨c, u, v⟩ = mkQ b (m * v + u * n) (n * v) := if_pos h
theorem addQ_2 {b c : Bool} {m n u v : Nat} (h : b ≠ c) (h2 : u * n ≤ m * v) : addQ ⟨b, m, n⟩ ⟨c, u, v⟩ = mkQ b (m * v - u * n) (n * v) := by unfold addQ; rw [if_neg h, if_pos h2]
theorem addQ_3 {b c : Bool} {m n u v : Nat} (h : b ≠ c) (h2 : m * v < u * n) : addQ ⟨b, m, n⟩ ⟨c, u, v⟩ = mkQ c (u * n - m * v) (n * v) := by unfold addQ; rw [if_neg h, if_neg (by simp only; omega)]
instance (b : Bool) (m n : Nat) (c : Bool) (u v : Nat) : Con CC 87 [.d (.agg [.b b, encD (digs m), encD (digs n)]), .d (.agg [.b c, encD (digs u), encD (digs v)])] (lenQ 800 ⟨b, m, n⟩ ∧ lenQ 800 ⟨c, u, v⟩) (.d (encQ (addQ ⟨b, m, n⟩ ⟨c, u, v⟩))) := by
  constructor; rintro ⟨⟨a1, a2, a3⟩, b1, b2, b3⟩
  simp only at a1 a2 a3 b1 b2 b3
  have h1 := digs_mul_le m v
  have h2 := digs_mul_le u n
  have h3 := digs_mul_le n v
  have h4 := Nat.mul_pos a3 b3
  have h5 := digs_add_le (L := 1600) (m := m * v) (n := u * n) (by omega) (by omega)
  have h6 := digs_len_mono (Nat.sub_le (m * v) (u * n))
  have h7 := digs_len_mono (Nat.sub_le (u * n) (m * v))
  refine Den.pureI Tryz.func87 rfl 2 [.cell 4 39] (by kernel_rfl) rfl rfl (by simp only [initE_nil, initE_cons, Nat.reduceAdd]; exact rfl) ?_
  repeat' first | (with_reducible first | refine nx' ?_ | refine n0 ?_ | refine Wp.drawR (by decide +kernel) ?_ | refine Wp.drawSR [4, 6, 7] [false, false, false, false, true, false, true, true] (.op 4 [0,1,5] (.op 6 [] (.op 7 [] .done))) (by decide +kernel) ?_ | refine Wp.drawSR [4, 6, 7] [false, false, false, false, true, false, true, true] (.op 4 [0,1,5] (.op 6 [] (.op 7 [] .done))) (by decide +kernel) ?_ | refine Wp.drawSR [4, 6, 7] [false, false, false, false, true, false, true, true] (.op 4 [0,1,5] (.op 6 [] (.op 7 [] .done))) (by decide +kernel) ?_ | refine n1 ?_ | refine nilB_i fun b hb => ?_ | refine nP ?_ ?_ | refine nS fun K hK => ?_ | (refine n2 ?_ ?_ <;> intro h <;> first | subst (h : _ = true) | subst (h : _ = false) | skip) | refine And.intro ?_ ?_ | refine nK ‹Imp _ _› ?_) | exact nl | fail
  · rw [addQ_1 (by assumption)]
  · exact cmpN_nonneg.1 (by assumption)
  · rw [addQ_2 (by assumption) (cmpN_nonneg.1 (by assumption))]
  · exact Nat.le_of_lt (cmpN_neg.1 (by assumption))
  · rw [addQ_3 (by assumption) (cmpN_neg.1 (by assumption))]
instance (b : Bool) (m n : Nat) (c : Bool) (u v : Nat) : Con CC 66 [.d (.agg [.b b, encD (digs m), encD (digs n)]), .d (.agg [.b c, encD (digs u), encD (digs v)])] (lenQ 800 ⟨b, m, n⟩ ∧ lenQ 800 ⟨c, u, v⟩) (.d (encQ (addQ ⟨b, m, n⟩ (negQ ⟨c, u, v⟩)))) := by
  constructor; rintro ⟨ha, hb⟩
  have hb2 := negQ_len hb
  have hb3 := hb.1
  simp only at hb3
  refine Den.pureI Tryz.func66 rfl 2 [.cell 4 39] (by kernel_rfl) rfl rfl (by simp only [initE_nil, initE_cons, Nat.reduceAdd]; exact rfl) ?_
  repeat' first | (with_reducible first | refine nx' ?_ | refine n0 ?_ | refine Wp.drawR (by decide +kernel) ?_ | refine Wp.drawSR [2, 3, 4] [false, false, true, true, true] (.op 2 [0] (.op 3 [] (.op 4 [] .done))) (by decide +kernel) ?_ | refine n1 ?_ | refine nilB_i fun b hb => ?_ | refine nP ?_ ?_ | refine nS fun K hK => ?_ | (refine n2 ?_ ?_ <;> intro h <;> first | subst (h : _ = true) | subst (h : _ = false) | skip) | refine And.intro ?_ ?_ | refine nK ‹Imp _ _› ?_) | exact nl | fail
instance (b : Bool) (m n : Nat) (c : Bool) (u v : Nat) : Con CC 39 [.d (.agg [.b b, encD (digs m), encD (digs n)]), .d (.agg [.b c, encD (digs u), encD (digs v)])] (lenQ 800 ⟨b, m, n⟩ ∧ lenQ 800 ⟨c, u, v⟩) (.d (.i (cmpQ ⟨b, m, n⟩ ⟨c, u, v⟩))) := by
  constructor; rintro ⟨ha, hb⟩
  have hs := addQ_len ha (negQ_len hb)
  have hs1 := hs.1
  have e := cmpQ_sub (a := ⟨b, m, n⟩) (b := ⟨c, u, v⟩) ha.2.2 hb.2.2
  refine Den.pureI Tryz.func39 rfl 2 [.tmp 4] (by kernel_rfl) rfl rfl (by simp only [initE_nil, initE_cons, Nat.reduceAdd]; exact rfl) ?_
  repeat' first | (with_reducible first | refine nx' ?_ | refine n0 ?_ | refine rD ?_ | refine n1 ?_ | refine nilB_i fun b hb => ?_ | refine nP ?_ ?_ | refine nS fun K hK => ?_ | (refine n2 ?_ ?_ <;> intro h <;> first | subst (h : _ = true) | subst (h : _ = false) | skip) | refine And.intro ?_ ?_ | refine nK ‹Imp _ _› ?_) | exact nl | fail
  rw [← e]
end Go.PL

/- AG -/
namespace Go.PL
open Go Go.Proofs
set_option maxRecDepth 10000
set_option maxHeartbeats 4000000
set_option linter.unusedSimpArgs false
set_option linter.unusedVariables false
instance (m n : Nat) : Con CC 120 [.d (encD (digs m)), .d (encD (digs n))] ((digs m).length < 4096 ∧ (digs n).length < 4096) (.d (encD (digs (m * n)))) := by
  constructor; intro ⟨hm, hn⟩
  have hdm := Dig.digs m
  have hdn := Dig.digs n
  have hvm := val_digs m
  have hvn := val_digs n
  generalize digs m = a at *
  generalize digs n = b at *
  refine Den.pureI Tryz.func120 rfl 2 [.tmp 4] (by kernel_rfl) rfl rfl (by simp only [initE_nil, initE_cons, Nat.reduceAdd]; exact rfl) ?_
  repeat' first | (with_reducible first | refine nx' ?_ | refine n0 ?_ | refine rD ?_ | refine n1 ?_ | refine nilB_i fun b hb => ?_ | refine nP ?_ ?_ | refine nS fun K hK => ?_ | (refine n2 ?_ ?_ <;> intro h <;> first | subst (h : _ = true) | subst (h : _ = false) | skip) | refine And.intro ?_ ?_ | refine nK ‹Imp _ _› ?_) | exact nl | fail
  have e0 : ((a.length : Int) + b.length).toNat = a.length + b.length := by omega
  simp only [e0]
  refine Wp.loopR (fun x : Nat × List Int => ⟨[(1, .d (encD b)), (5, .msl 0 0 x.2.length), (16, .d (encD a)), (17, .d (.i a.length)), (18, .d (.i x.1))], [.arr 1 (x.2.map .i) false]⟩) (fun x => a.length - x.1)
    (fun x => x.1 ≤ a.length ∧ x.2.length = a.length + b.length ∧ Dig x.2 ∧ val x.2 = val (a.take x.1) * val b) (0, List.replicate (a.length + b.length) 0)
    Weak.lo ⟨by simp, by simp, Dig.zeros _, by rw [val_zeros]; simp [val]⟩ ?_
  rintro ⟨i, o⟩ ⟨hi, hl, hd, hv⟩ K hK
  simp only at hi hl hd hv ⊢
  have ga := hdm.get i
  repeat' first | (with_reducible first | refine nx' ?_ | refine n0 ?_ | refine rD ?_ | refine n1 ?_ | refine nilB_i fun b hb => ?_ | refine nP ?_ ?_ | refine nS fun K hK => ?_ | (refine n2 ?_ ?_ <;> intro h <;> first | subst (h : _ = true) | subst (h : _ = false) | skip) | refine And.intro ?_ ?_ | refine nK ‹Imp _ _› ?_) | exact nl | fail
  · have hia : i < a.length := by omega
    refine Wp.loopR (fun y : Nat × Int × List Int => ⟨[(1, .d (encD b)), (5, .msl 0 0 y.2.2.length), (6, .d (.i i)), (7, .d (.i (a.getD i 0))), (8, .d (.i y.2.1)), (9, .d (.i y.1)), (16, .d (encD a)), (17, .d (.i a.length)), (18, .d (.i i))], [.arr 1 (y.2.2.map .i) false]⟩) (fun y => b.length + 1 - y.1)
      (fun y => y.1 ≤ b.length + 1 ∧ y.2.2.length = a.length + b.length ∧ Dig y.2.2 ∧ 0 ≤ y.2.1 ∧ y.2.1 ≤ 9999 ∧ val y.2.2 + 10000 ^ (i + y.1) * y.2.1 = val o + 10000 ^ i * (a.getD i 0 * val (b.take y.1))) (0, 0, o)
      Weak.lo ⟨by simp, hl, hd, by simp, by simp, by simp [val]⟩ ?_
    rintro ⟨j, c, l⟩ ⟨hj, hll, hdl, hc0, hc1, hvl⟩ K2 hK2
    simp only at hj hll hdl hc0 hc1 hvl ⊢
    have gb := hdn.get j
    have gl := hdl.get (i + j)
    have hp0 : 0 ≤ a.getD i 0 * b.getD j 0 := Int.mul_nonneg (by omega) (by omega)
    have hp1 : a.getD i 0 * b.getD j 0 ≤ 9999 * 9999 := Int.mul_le_mul (by omega) (by omega) (by omega) (by omega)
    have hjb : j < b.length ∨ 0 < c → j ≤ b.length := by
      rintro (h1 | h1)
      · omega
      · rcases Nat.lt_or_ge j b.length with h2 | h2
        · omega
        · rw [hv, List.take_of_length_le h2] at hvl
          have := mul_room hdm hdn hdl (by omega) (by omega : 1 ≤ c) h2 hvl
          omega
    have hij : ((i : Int) + j).toNat = i + j := by omega
    repeat' first | (with_reducible first | refine nx' ?_ (by simp -implicitDefEqProofs (disch := omega) only [go_sem, hij]; exact rfl) | refine n0 ?_ | refine rD ?_ | refine n1 ?_ | refine nilB_i fun b hb => ?_ | refine nP ?_ ?_ | refine nS fun K hK => ?_ | (refine n2 ?_ ?_ <;> intro h <;> first | subst (h : _ = true) | subst (h : _ = false) | (simp only [FX, LX, hij] at h) | skip) | refine And.intro ?_ ?_ | refine nK ‹Imp _ _› ?_) | exact nl | fail
    · have hjl := hjb (.inl (by omega))
      have h3 := mul_step (n := c + a.getD i 0 * b.getD j 0 + l.getD (i + j) 0) (by omega) (by omega) hvl
      exact ⟨(j + 1, (c + a.getD i 0 * b.getD j 0 + l.getD (i + j) 0) / 10000, l.set (i + j) ((c + a.getD i 0 * b.getD j 0 + l.getD (i + j) 0) % 10000)), by simp only; omega,
        ⟨by simp only; omega, by simp [hll], hdl.set _ (by omega) (by omega), by simp only; omega, by simp only; omega, h3⟩, Weak.lo⟩
    · have hjl := hjb (.inr (by omega))
      have hz : b.getD j 0 = 0 := getD_over (by omega)
      have h3 := mul_step (n := c + l.getD (i + j) 0) (by omega) (by rw [hz, Int.mul_zero]; omega) hvl
      exact ⟨(j + 1, (c + l.getD (i + j) 0) / 10000, l.set (i + j) ((c + l.getD (i + j) 0) % 10000)), by simp only; omega,
        ⟨by simp only; omega, by simp [hll], hdl.set _ (by omega) (by omega), by simp only; omega, by simp only; omega, h3⟩, Weak.lo⟩
    · have hc : c = 0 := by omega
      rw [hc, Int.mul_zero, Int.add_zero, List.take_of_length_le (by omega), hv] at hvl
      refine ⟨(i + 1, l), by simp only; omega, ⟨by simp only; omega, hll, hdl, ?_⟩, Weak.lo⟩
      simp only
      rw [hvl, val_take]
      generalize (10000 : Int) ^ i = p
      grind
  · rw [← digs_val hd, hv, List.take_of_length_le (by omega), hvm, hvn]
    congr 4
theorem sgnQ_bnd (a : Q) : -1 ≤ sgnQ a ∧ sgnQ a ≤ 1 := by unfold sgnQ; (repeat' split) <;> omega
theorem cmpN_bnd (m n : Nat) : -1 ≤ cmpN m n ∧ cmpN m n ≤ 1 := by unfold cmpN; (repeat' split) <;> omega
instance (b : Bool) (m n : Nat) : Con CC 119 [.d (.agg [.b b, encD (digs m), encD (digs n)])] ((digs m).length ≤ 1048576) (.d (.i (sgnQ ⟨b, m, n⟩))) := by
  constructor; intro hm
  have h0 := digs_len0 (n := m)
  refine Den.pureI Tryz.func119 rfl 1 [.tmp 2] (by kernel_rfl) rfl rfl (by simp only [initE_nil, initE_cons, Nat.reduceAdd]; exact rfl) ?_
  repeat' first | (with_reducible first | refine nx' ?_ | refine n0 ?_ | refine rD ?_ | refine n1 ?_ | refine nilB_i fun b hb => ?_ | refine nP ?_ ?_ | refine nS fun K hK => ?_ | (refine n2 ?_ ?_ <;> intro h <;> first | subst (h : _ = true) | subst (h : _ = false) | skip) | refine And.intro ?_ ?_ | refine nK ‹Imp _ _› ?_) | exact nl | fail
  · rw [show m = 0 by omega]; rfl
  · simp [sgnQ, show m ≠ 0 by omega]
  · simp [sgnQ, show m ≠ 0 by omega]
instance (b : Bool) (m n : Nat) (c : Bool) (u v : Nat) : Con CC 96 [.d (.agg [.b b, encD (digs m), encD (digs n)]), .d (.agg [.b c, encD (digs u), encD (digs v)])] (lenQ 2000 ⟨b, m, n⟩ ∧ lenQ 2000 ⟨c, u, v⟩) (.d (.i (cmpI ⟨b, m, n⟩ ⟨c, u, v⟩))) := by
  constructor; rintro ⟨⟨a1, a2, a3⟩, b1, b2, b3⟩
  simp only at a1 a2 a3 b1 b2 b3
  have h1 := digs_mul_le m v
  have h2 := digs_mul_le u n
  have s1 := sgnQ_bnd ⟨b, m, n⟩
  have s2 := sgnQ_bnd ⟨c, u, v⟩
  have s3 := cmpN_bnd (m * v) (u * n)
  refine Den.pureI Tryz.func96 rfl 2 [.tmp 4] (by kernel_rfl) rfl rfl (by simp only [initE_nil, initE_cons, Nat.reduceAdd]; exact rfl) ?_
  repeat' first | (with_reducible first | refine nx' ?_ | refine n0 ?_ | refine Wp.drawR (by decide +kernel) ?_ | refine Wp.drawSR [1, 3, 4, 5] [false, true, false, true, true, true] (.op 1 [2] (.op 3 [] (.op 4 [] (.op 5 [] .done)))) (by decide +kernel) ?_ | refine Wp.drawSR [4, 9, 10, 11] [false, false, false, false, true, false, false, false, false, true, true, true] (.op 4 [5,6,7,8] (.op 9 [] (.op 10 [] (.op 11 [] .done)))) (by decide +kernel) ?_ | refine Wp.drawSR [1, 3, 4] [false, true, false, true, true] (.op 1 [2] (.op 3 [] (.op 4 [] .done))) (by decide +kernel) ?_ | refine n1 ?_ | refine nilB_i fun b hb => ?_ | refine nP ?_ ?_ | refine nS fun K hK => ?_ | (refine n2 ?_ ?_ <;> intro h <;> first | subst (h : _ = true) | subst (h : _ = false) | skip) | refine And.intro ?_ ?_ | refine nK ‹Imp _ _› ?_) | exact nl | fail
  · unfold cmpI; rw [if_pos (by assumption)]
  · unfold cmpI; rw [if_neg (by simp only [ne_eq, Decidable.not_not]; assumption)]; simp
  · unfold cmpI; rw [if_neg (by simp only [ne_eq, Decidable.not_not]; assumption)]; simp
end Go.PL
