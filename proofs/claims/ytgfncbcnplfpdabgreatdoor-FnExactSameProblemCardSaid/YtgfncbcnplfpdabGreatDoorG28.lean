/- A plain machine, sound for the given model, and contracts of functions over it, part 28: AD AQ. Nothing is assumed. -/
import Derived.Test.YtgfncbcnplfpdabGreatDoorG27
set_option linter.unusedSimpArgs false
set_option linter.unusedVariables false
set_option linter.unusedSectionVars false
/- AD -/
namespace Go.PL
open Go Go.Proofs
set_option maxRecDepth 10000
set_option linter.unusedSimpArgs false
set_option linter.unusedVariables false
abbrev rc0 : Rc := ⟨0, 0, [], ⟨false, [], []⟩⟩
theorem encRc_eq {r : Rc} : encRc r = .agg [.i r.iter, .i r.count, .sl (r.x.map encR), .b r.f.neg, encD r.f.num, encD r.f.den] := rfl
instance : Enc encRc 6 rc0 := ⟨fun _ => rfl, fun x => by simp [D.cells, D.one]⟩
theorem app_Rc {l : List Rc} {a b : Int} {x : List Rt} {g : Bool} {u v : List Int} : l.map encRc ++ [D.agg [.val (.int .i64 a), .val (.int .i64 b), .sl (x.map encR), .val (.bool g), .sl (u.map .i), .sl (v.map .i)]] = (l ++ [(⟨a, b, x, ⟨g, u, v⟩⟩ : Rc)]).map encRc := by simp [encRc]
theorem set_Rc {l : List Rc} {k : Nat} {a b : Int} {x : List Rt} {g : Bool} {u v : List Int} : (l.map encRc).set k (D.agg [.val (.int .i64 a), .val (.int .i64 b), .sl (x.map encR), .val (.bool g), .sl (u.map .i), .sl (v.map .i)]) = (l.set k (⟨a, b, x, ⟨g, u, v⟩⟩ : Rc)).map encRc := by rw [List.map_set]
theorem Rc.eta {r : Rc} : (⟨r.iter, r.count, r.x, r.f⟩ : Rc) = r := rfl
attribute [go_sem] encRc_eq app_Rc set_Rc Rc.eta
def bRcs (l : List Rc) : Prop := l.length ≤ 1048576 ∧ ∀ r ∈ l, bRc r
theorem bRcs.get {l : List Rc} (h : bRcs l) (i : Nat) : bRc (l.getD i rc0) := by
  rw [List.getD]
  cases hi : l[i]? with
  | none => exact ⟨⟨by simp, by simp⟩, by simp, by simp⟩
  | some r => exact h.2 r (List.mem_of_getElem? hi)
def pRcs (l : List Rc) : Prop := l.length < 1152921504606846976 ∧ ∀ r ∈ l, pRc r
theorem pRcs.get {l : List Rc} (h : pRcs l) (i : Nat) : pRc (l.getD i rc0) := by
  rw [List.getD]
  cases hi : l[i]? with
  | none => exact ⟨⟨by simp, by simp⟩, by simp, by simp⟩
  | some r => exact h.2 r (List.mem_of_getElem? hi)
def szRcs (l : List Rc) : Nat := l.length + sumOf szRc l
structure Rp where
  status : Int
  recs : List Rc
deriving DecidableEq
abbrev encRp (r : Rp) : D := .agg [.i r.status, .sl (r.recs.map encRc)]
/-- What holds of a record of a report, at its place. -/
def okAt (l : List Rc) (t : Nat) : Prop := okRc (l.getD t rc0) = true ∧ (l.getD t rc0).iter = t ∧ (l.getD t rc0).x.length = (l.getD 0 rc0).x.length
instance (l : List Rc) (t : Nat) : Decidable (okAt l t) := by unfold okAt; infer_instance
def okRp (r : Rp) : Bool := decide (1 ≤ r.status ∧ r.status ≤ 6 ∧ r.recs.length ≤ 7 ∧ ∀ t, t < r.recs.length → okAt r.recs t)
theorem okRp_not {a : Int} {l : List Rc} {i : Nat} (hi : i < l.length) (h : ¬okAt l i) : okRp ⟨a, l⟩ = false := by
  unfold okRp; rw [decide_eq_false_iff_not]; exact fun hh => h (hh.2.2.2 i hi)
theorem okRp_all {a : Int} {l : List Rc} (h : ∀ t, t < l.length → okAt l t) : okRp ⟨a, l⟩ = decide (1 ≤ a ∧ a ≤ 6 ∧ l.length ≤ 7) := by
  unfold okRp; rw [decide_eq_decide]; exact ⟨fun hh => ⟨hh.1, hh.2.1, hh.2.2.1⟩, fun hh => ⟨hh.1, hh.2.1, hh.2.2, h⟩⟩
theorem bRcs_of {l : List Rc} (h : 0 ≤ szL 1048576 (szRcs l)) : bRcs l := by
  have := szL_le h
  unfold szRcs at this
  refine ⟨by omega, fun r hr => ?_⟩
  have h2 := sumOf_mem (f := szRc) hr
  rw [show szRc r = szV r.x + (r.f.num.length + r.f.den.length) from rfl] at h2
  exact ⟨bV_of (by omega), by omega, by omega⟩
end Go.PL

/- AQ -/
/- Rationals as the program has them: sign, numerator, denominator, as naturals; the same functions on both sides. -/
namespace Go.PL
open Go

theorem digs_mul_le (m n : Nat) : (digs (m * n)).length ≤ (digs m).length + (digs n).length := by
  refine digs_len_le ?_
  rw [Nat.pow_add]
  exact Nat.mul_lt_mul'' (digs_lt_pow m) (digs_lt_pow n)
theorem digs_add_le {m n L : Nat} (hm : (digs m).length ≤ L) (hn : (digs n).length ≤ L) : (digs (m + n)).length ≤ L + 1 := by
  refine digs_len_le ?_
  have h1 := Nat.lt_of_lt_of_le (digs_lt_pow m) (Nat.pow_le_pow_right (by omega : 0 < 10000) hm)
  have h2 := Nat.lt_of_lt_of_le (digs_lt_pow n) (Nat.pow_le_pow_right (by omega : 0 < 10000) hn)
  rw [Nat.pow_succ]
  omega

theorem dig_ext : ∀ {a b : List Int}, Dig a → Dig b → a.length = b.length → val a = val b → a = b
  | [], [], _, _, _, _ => rfl
  | x :: r, y :: s, ha, hb, hl, hv => by
    have h1 := ha.head
    have h2 := hb.head
    simp only [val] at hv
    have h3 : x = y := by omega
    have h4 : val r = val s := by omega
    rw [h3, dig_ext ha.tail hb.tail (by simpa using hl) h4]

/-- Limbs whose highest stands for something. -/
theorem digs_of {l : List Int} {x : Nat} (hd : Dig l) (hv : val l = x) (ht : l.length = 0 ∨ 10000 ^ (l.length - 1) ≤ x) : l = digs x := by
  refine dig_ext hd (Dig.digs x) ?_ (by rw [hv, val_digs])
  have h1 := val_lt hd
  rw [hv] at h1
  have h2 : x < 10000 ^ l.length := by
    have : ((10000 ^ l.length : Nat) : Int) = (10000 : Int) ^ l.length := by simp
    omega
  have h3 := digs_len_le h2
  rcases ht with ht | ht
  · omega
  · rcases Nat.lt_or_ge (digs x).length l.length with h4 | h4
    · have h5 := digs_lt_pow x
      have h6 := Nat.pow_le_pow_right (by omega : 0 < 10000) (by omega : (digs x).length ≤ l.length - 1)
      omega
    · omega

structure Q where
  neg : Bool
  n : Nat
  d : Nat
deriving DecidableEq

def encQ (q : Q) : D := .agg [.b q.neg, encD (digs q.n), encD (digs q.d)]
theorem encQ_eq {q : Q} : encQ q = .agg [.b q.neg, encD (digs q.n), encD (digs q.d)] := rfl
theorem Q.eta {q : Q} : Q.mk q.neg q.n q.d = q := rfl

/-- Not longer than some limbs; over a number. -/
def lenQ (L : Nat) (q : Q) : Prop := (digs q.n).length ≤ L ∧ (digs q.d).length ≤ L ∧ 0 < q.d

def mkQ (b : Bool) (m n : Nat) : Q := ⟨b && decide (0 < m / Nat.gcd m n), m / Nat.gcd m n, n / Nat.gcd m n⟩
def negQ (a : Q) : Q := ⟨!a.neg && decide (0 < a.n), a.n, a.d⟩
def addQ (a b : Q) : Q :=
  if a.neg = b.neg then mkQ a.neg (a.n * b.d + b.n * a.d) (a.d * b.d)
  else if b.n * a.d ≤ a.n * b.d then mkQ a.neg (a.n * b.d - b.n * a.d) (a.d * b.d)
  else mkQ b.neg (b.n * a.d - a.n * b.d) (a.d * b.d)
def mulQ (a b : Q) : Q := mkQ (a.neg != b.neg) (a.n * b.n) (a.d * b.d)
def divQ (a b : Q) : Q := mkQ (a.neg != b.neg) (a.n * b.d) (a.d * b.n)
def sgnQ (a : Q) : Int := if a.n = 0 then 0 else if a.neg then -1 else 1

theorem gcd_pos {m n : Nat} (hn : 0 < n) : 0 < Nat.gcd m n := Nat.gcd_pos_of_pos_right m hn
theorem div_gcd_pos {m n : Nat} (hn : 0 < n) : 0 < n / Nat.gcd m n := Nat.div_pos (Nat.le_of_dvd hn (Nat.gcd_dvd_right m n)) (gcd_pos hn)
theorem mkQ_len {L : Nat} {b : Bool} {m n : Nat} (hm : (digs m).length ≤ L) (hn : (digs n).length ≤ L) (h0 : 0 < n) : lenQ L (mkQ b m n) :=
  ⟨Nat.le_trans (digs_len_mono (Nat.div_le_self _ _)) hm, Nat.le_trans (digs_len_mono (Nat.div_le_self _ _)) hn, div_gcd_pos h0⟩
theorem negQ_len {L : Nat} {a : Q} (h : lenQ L a) : lenQ L (negQ a) := h
theorem addQ_len {L : Nat} {a b : Q} (ha : lenQ L a) (hb : lenQ L b) : lenQ (2 * L + 1) (addQ a b) := by
  obtain ⟨a1, a2, a3⟩ := ha
  obtain ⟨b1, b2, b3⟩ := hb
  have h1 := digs_mul_le a.n b.d
  have h2 := digs_mul_le b.n a.d
  have h3 := digs_mul_le a.d b.d
  have h4 := Nat.mul_pos a3 b3
  have h5 := digs_add_le (L := 2 * L) (m := a.n * b.d) (n := b.n * a.d) (by omega) (by omega)
  have h6 := digs_len_mono (Nat.sub_le (a.n * b.d) (b.n * a.d))
  have h7 := digs_len_mono (Nat.sub_le (b.n * a.d) (a.n * b.d))
  unfold addQ
  split
  · exact mkQ_len (by omega) (by omega) h4
  · split
    · exact mkQ_len (by omega) (by omega) h4
    · exact mkQ_len (by omega) (by omega) h4
theorem mulQ_len {L : Nat} {a b : Q} (ha : lenQ L a) (hb : lenQ L b) : lenQ (2 * L) (mulQ a b) := by
  obtain ⟨a1, a2, a3⟩ := ha
  obtain ⟨b1, b2, b3⟩ := hb
  have h1 := digs_mul_le a.n b.n
  have h3 := digs_mul_le a.d b.d
  exact mkQ_len (by omega) (by omega) (Nat.mul_pos a3 b3)
theorem divQ_len {L : Nat} {a b : Q} (ha : lenQ L a) (hb : lenQ L b) (h0 : 0 < b.n) : lenQ (2 * L) (divQ a b) := by
  obtain ⟨a1, a2, a3⟩ := ha
  obtain ⟨b1, b2, b3⟩ := hb
  have h1 := digs_mul_le a.n b.d
  have h3 := digs_mul_le a.d b.n
  exact mkQ_len (by omega) (by omega) (Nat.mul_pos a3 h0)

/-- The number with its sign. -/
def sg (b : Bool) (m : Nat) : Int := if b then -(m : Int) else m

theorem div_gcd_zero {m n : Nat} (_hn : 0 < n) : m / Nat.gcd m n = 0 ↔ m = 0 := by
  constructor
  · intro h
    have h1 := Nat.div_mul_cancel (Nat.gcd_dvd_left m n)
    rw [h] at h1
    omega
  · rintro rfl; simp
theorem sgnQ_mk {b : Bool} {m n : Nat} (hn : 0 < n) : sgnQ (mkQ b m n) = Int.sign (sg b m) := by
  unfold sgnQ mkQ sg
  simp only [div_gcd_zero hn]
  rcases Nat.eq_zero_or_pos m with h | h
  · subst h; cases b <;> simp
  · have h2 : 0 < m / Nat.gcd m n := by
      rcases Nat.eq_zero_or_pos (m / Nat.gcd m n) with h3 | h3
      · rw [div_gcd_zero hn] at h3; omega
      · exact h3
    rw [if_neg (by omega)]
    cases b
    · simp [Int.sign_eq_one_of_pos (show (0 : Int) < m by omega)]
    · simp [h2, Int.sign_eq_one_of_pos (show (0 : Int) < m by omega)]

/-- The sign of a difference. -/
def cmpQ (a b : Q) : Int := Int.sign (sg a.neg (a.n * b.d) - sg b.neg (b.n * a.d))
theorem sg_neg {b : Q} {k : Nat} : sg (negQ b).neg (b.n * k) = - sg b.neg (b.n * k) := by
  unfold sg negQ
  rcases Nat.eq_zero_or_pos b.n with h | h
  · rw [h]; cases b.neg <;> simp
  · cases b.neg <;> simp [h]
theorem cmpQ_sub {a b : Q} (ha : 0 < a.d) (hb : 0 < b.d) : sgnQ (addQ a (negQ b)) = cmpQ a b := by
  have h0 := Nat.mul_pos ha hb
  have e : sg a.neg (a.n * b.d) - sg b.neg (b.n * a.d) = sg a.neg (a.n * b.d) + sg (negQ b).neg (b.n * a.d) := by rw [sg_neg]; omega
  unfold cmpQ
  rw [e]
  unfold addQ
  show sgnQ (if a.neg = (negQ b).neg then mkQ a.neg (a.n * b.d + b.n * a.d) (a.d * b.d) else if b.n * a.d ≤ a.n * b.d then mkQ a.neg (a.n * b.d - b.n * a.d) (a.d * b.d) else mkQ (negQ b).neg (b.n * a.d - a.n * b.d) (a.d * b.d)) = _
  generalize (negQ b).neg = c
  generalize a.n * b.d = p
  generalize b.n * a.d = q
  split
  · rename_i h
    rw [sgnQ_mk h0, h]
    congr 1
    unfold sg
    cases c <;> simp <;> omega
  · rename_i h
    split
    · rw [sgnQ_mk h0]
      congr 1
      unfold sg
      revert h
      cases a.neg <;> cases c <;> simp <;> omega
    · rw [sgnQ_mk h0]
      congr 1
      unfold sg
      revert h
      cases a.neg <;> cases c <;> simp <;> omega

/-- How the program compares: by signs first. -/
def cmpI (a b : Q) : Int := if sgnQ a ≠ sgnQ b then sgnQ a - sgnQ b else if a.neg then -(cmpN (a.n * b.d) (b.n * a.d)) else cmpN (a.n * b.d) (b.n * a.d)
theorem sign_if (x : Int) : Int.sign x = if 0 < x then 1 else if x = 0 then 0 else -1 := by
  rcases Int.lt_trichotomy x 0 with h | h | h
  · rw [Int.sign_eq_neg_one_of_neg h, if_neg (by omega), if_neg (by omega)]
  · subst h; rfl
  · rw [Int.sign_eq_one_of_pos h, if_pos h]
theorem cmpI_sign {a b : Q} (ha : 0 < a.d) (hb : 0 < b.d) : Int.sign (cmpI a b) = cmpQ a b := by
  have hp : a.n = 0 ↔ a.n * b.d = 0 := by rw [Nat.mul_eq_zero]; omega
  have hq : b.n = 0 ↔ b.n * a.d = 0 := by rw [Nat.mul_eq_zero]; omega
  unfold cmpI cmpQ sgnQ sg cmpN
  rw [sign_if, sign_if]
  generalize a.n * b.d = p at *
  generalize b.n * a.d = q at *
  simp only [hp, hq]
  cases a.neg <;> cases b.neg <;> simp only [Bool.false_eq_true, if_false, if_true] <;> (repeat' split) <;> omega
theorem cmpI_nonneg {a b : Q} (ha : 0 < a.d) (hb : 0 < b.d) : 0 ≤ cmpI a b ↔ 0 ≤ cmpQ a b := by
  rw [← cmpI_sign ha hb, sign_if]
  repeat' split
  all_goals omega
theorem cmpI_bnd (a b : Q) : -2 ≤ cmpI a b ∧ cmpI a b ≤ 2 := by
  unfold cmpI sgnQ cmpN
  repeat' split
  all_goals omega
attribute [go_sem] encQ_eq Q.eta
end Go.PL
