/- A plain machine, sound for the given model, and contracts of functions over it, part 7: PlVal. Nothing is assumed. -/
import Derived.Test.YtfdjgoapdkpbaaaG06
set_option linter.unusedSimpArgs false
set_option linter.unusedVariables false
set_option linter.unusedSectionVars false
/- PlVal -/
namespace Go.PL

def Dig (a : List Int) : Prop := ∀ x ∈ a, 0 ≤ x ∧ x < 10000

def val : List Int → Int
  | [] => 0
  | x :: r => x + 10000 * val r

def digs (n : Nat) : List Int := if h : n = 0 then [] else ((n % 10000 : Nat) : Int) :: digs (n / 10000)
termination_by n
decreasing_by omega

theorem digs_zero : digs 0 = [] := by rw [digs]; simp
theorem digs_pos {n : Nat} (h : 0 < n) : digs n = ((n % 10000 : Nat) : Int) :: digs (n / 10000) := by rw [digs]; simp [show n ≠ 0 by omega]

theorem Dig.nil : Dig [] := by intro x h; cases h
theorem Dig.cons {x : Int} {r : List Int} (h1 : 0 ≤ x) (h2 : x < 10000) (h : Dig r) : Dig (x :: r) := by
  intro y hy
  rcases List.mem_cons.1 hy with rfl | hy
  · exact ⟨h1, h2⟩
  · exact h y hy
theorem Dig.head {x : Int} {r : List Int} (h : Dig (x :: r)) : 0 ≤ x ∧ x < 10000 := h x (by simp)
theorem Dig.tail {x : Int} {r : List Int} (h : Dig (x :: r)) : Dig r := fun y hy => h y (by simp [hy])
theorem Dig.app {a b : List Int} (h : Dig a) (k : Dig b) : Dig (a ++ b) := fun x hx => by
  rcases List.mem_append.1 hx with hx | hx
  · exact h x hx
  · exact k x hx
theorem Dig.take {a : List Int} (h : Dig a) (k : Nat) : Dig (a.take k) := fun x hx => h x (List.mem_of_mem_take hx)
theorem Dig.drop {a : List Int} (h : Dig a) (k : Nat) : Dig (a.drop k) := fun x hx => h x (List.mem_of_mem_drop hx)
theorem Dig.get {a : List Int} (h : Dig a) (k : Nat) : 0 ≤ a.getD k 0 ∧ a.getD k 0 < 10000 := by
  by_cases hk : k < a.length
  · have : a.getD k 0 = a[k] := by simp [List.getD, hk]
    rw [this]; exact h _ (List.getElem_mem hk)
  · have : a.getD k 0 = 0 := by simp [List.getD, List.getElem?_eq_none (Nat.le_of_not_lt hk)]
    rw [this]; decide
theorem Dig.set {a : List Int} (h : Dig a) {x : Int} (k : Nat) (h1 : 0 ≤ x) (h2 : x < 10000) : Dig (a.set k x) := fun y hy => by
  rcases List.mem_or_eq_of_mem_set hy with hy | rfl
  · exact h y hy
  · exact ⟨h1, h2⟩
theorem Dig.zeros (n : Nat) : Dig (List.replicate n 0) := fun x hx => by
  rw [List.eq_of_mem_replicate hx]; decide

theorem val_nonneg {a : List Int} (h : Dig a) : 0 ≤ val a := by
  induction a with
  | nil => decide
  | cons x r ih => simp only [val]; have := ih h.tail; have := h.head; omega

theorem val_lt {a : List Int} (h : Dig a) : val a < 10000 ^ a.length := by
  induction a with
  | nil => decide
  | cons x r ih =>
    simp only [val, List.length_cons, Int.pow_succ]
    have := ih h.tail; have := h.head
    generalize (10000 : Int) ^ r.length = p at *
    omega

theorem val_app (a b : List Int) : val (a ++ b) = val a + 10000 ^ a.length * val b := by
  induction a with
  | nil => simp [val]
  | cons x r ih =>
    simp only [List.cons_append, val, ih, List.length_cons, Int.pow_succ]
    rw [Int.mul_add, Int.add_assoc, Int.mul_comm ((10000 : Int) ^ r.length) 10000, Int.mul_assoc]

theorem val_zeros (n : Nat) : val (List.replicate n 0) = 0 := by
  induction n with
  | zero => rfl
  | succ n ih => simp [List.replicate_succ, val, ih]

theorem Dig.digs (n : Nat) : Dig (digs n) := by
  induction n using Nat.strongRecOn with
  | _ n ih =>
    by_cases h : n = 0
    · rw [h, digs_zero]; exact .nil
    · rw [digs_pos (by omega)]; exact .cons (by omega) (by omega) (ih _ (by omega))

theorem val_digs (n : Nat) : val (PL.digs n) = n := by
  induction n using Nat.strongRecOn with
  | _ n ih =>
    by_cases h : n = 0
    · rw [h, digs_zero]; rfl
    · rw [digs_pos (by omega), val, ih _ (by omega)]; omega

theorem digs_val {a : List Int} (h : Dig a) : PL.digs (val a).toNat = trim a := by
  induction a with
  | nil => exact digs_zero
  | cons x r ih =>
    have h1 := h.head
    have h2 := val_nonneg h.tail
    have ih := ih h.tail
    simp only [val, trim]
    by_cases hz : val r = 0
    · rw [hz] at ih ⊢
      rw [← ih]
      simp only [Int.toNat_zero, digs_zero]
      by_cases hx : x = 0
      · simp [hx, digs_zero]
      · rw [if_neg hx, digs_pos (by omega)]
        have e1 : (x + 10000 * 0).toNat / 10000 = 0 := by omega
        rw [e1, digs_zero]
        congr 1; omega
    · rw [digs_pos (by omega)]
      have e1 : (x + 10000 * val r).toNat / 10000 = (val r).toNat := by omega
      rw [e1, ← ih]
      have e2 : (((x + 10000 * val r).toNat % 10000 : Nat) : Int) = x := by omega
      rw [e2]
      have e3 : PL.digs (val r).toNat ≠ [] := by rw [digs_pos (by omega)]; simp
      cases h5 : PL.digs (val r).toNat with
      | nil => exact absurd h5 e3
      | cons y t => rfl

theorem trim_digs (n : Nat) : trim (PL.digs n) = PL.digs n := by
  rw [← digs_val (Dig.digs n), val_digs]; rfl

theorem digs_inj {m n : Nat} (h : PL.digs m = PL.digs n) : m = n := by
  have := congrArg val h
  rw [val_digs, val_digs] at this; omega

theorem digs_eq {a : List Int} (h : Dig a) (ht : trim a = a) : a = PL.digs (val a).toNat := by rw [digs_val h, ht]

theorem digs_len_le {n L : Nat} (h : n < 10000 ^ L) : (PL.digs n).length ≤ L := by
  induction L generalizing n with
  | zero => have : n = 0 := by simpa using h
            rw [this, digs_zero]; simp
  | succ L ih =>
    by_cases hn : n = 0
    · rw [hn, digs_zero]; simp
    · rw [digs_pos (by omega)]
      rw [Nat.pow_succ] at h
      have := ih (n := n / 10000) (by omega)
      simp; omega

theorem digs_len_ge {n L : Nat} (h : L < (PL.digs n).length) : 10000 ^ L ≤ n := by
  rcases Nat.lt_or_ge n (10000 ^ L) with h1 | h1
  · have := digs_len_le h1; omega
  · exact h1

theorem digs_lt_pow (n : Nat) : n < 10000 ^ (PL.digs n).length := by
  have := val_lt (Dig.digs n)
  rw [val_digs] at this
  have h2 : ((n : Nat) : Int) < ((10000 ^ (PL.digs n).length : Nat) : Int) := by rw [Int.natCast_pow]; exact this
  exact Int.ofNat_lt.1 h2

theorem digs_nil {n : Nat} : PL.digs n = [] ↔ n = 0 := by
  constructor
  · intro h; rcases Nat.eq_zero_or_pos n with h1 | h1; exact h1; rw [digs_pos h1] at h; cases h
  · rintro rfl; exact digs_zero

/-- Equal above, less at one place: less. -/
theorem val_less {a b : List Int} (ha : Dig a) (hb : Dig b) {i : Nat} (hi : i < a.length) (hj : i < b.length) (hd : a.drop (i + 1) = b.drop (i + 1)) (hl : a.getD i 0 < b.getD i 0) : val a < val b := by
  have ea : a = a.take i ++ (a.getD i 0 :: a.drop (i + 1)) := by
    have : a.getD i 0 = a[i] := by simp [List.getD, hi]
    rw [this, List.getElem_cons_drop, List.take_append_drop]
  have eb : b = b.take i ++ (b.getD i 0 :: b.drop (i + 1)) := by
    have : b.getD i 0 = b[i] := by simp [List.getD, hj]
    rw [this, List.getElem_cons_drop, List.take_append_drop]
  have la : (a.take i).length = i := by simp; omega
  have lb : (b.take i).length = i := by simp; omega
  have va := val_lt (ha.take i)
  have vb := val_nonneg (hb.take i)
  rw [ea, eb, val_app, val_app, la, lb, val, val, ← hd]
  rw [la] at va
  generalize val (a.drop (i + 1)) = d at *
  generalize (10000 : Int) ^ i = p at *
  generalize a.getD i 0 = x at *
  generalize b.getD i 0 = y at *
  have h1 : p * (x + 10000 * d) + p ≤ p * (y + 10000 * d) := by
    have : p * (y + 10000 * d) = p * (x + 10000 * d) + p * (y - x) := by rw [← Int.mul_add]; congr 1; omega
    rw [this]
    have h2 : p * 1 ≤ p * (y - x) := Int.mul_le_mul_of_nonneg_left (by omega) (by have := val_nonneg (ha.take i); omega)
    omega
  omega

def cmpN (m n : Nat) : Int := if m < n then -1 else if m = n then 0 else 1

theorem len_lt {m n : Nat} (h : (digs m).length < (digs n).length) : m < n := Nat.lt_of_lt_of_le (digs_lt_pow m) (digs_len_ge h)

theorem cmpN_len {m n : Nat} (h : (digs m).length ≠ (digs n).length) : cmpN m n = if (digs n).length < (digs m).length then 1 else -1 := by
  unfold cmpN
  rcases Nat.lt_or_gt_of_ne h with h | h
  · have := len_lt h; rw [if_pos this, if_neg (by omega)]
  · have := len_lt h; rw [if_neg (by omega), if_neg (by omega), if_pos h]

theorem cmpN_lt {m n : Nat} {i : Nat} (hi : i < (digs m).length) (hj : i < (digs n).length) (hd : (digs m).drop (i + 1) = (digs n).drop (i + 1)) (hl : (digs m).getD i 0 < (digs n).getD i 0) : cmpN m n = -1 := by
  have := val_less (Dig.digs m) (Dig.digs n) hi hj hd hl
  rw [val_digs, val_digs] at this
  unfold cmpN; rw [if_pos (by omega)]

theorem cmpN_gt {m n : Nat} {i : Nat} (hi : i < (digs m).length) (hj : i < (digs n).length) (hd : (digs m).drop (i + 1) = (digs n).drop (i + 1)) (hl : (digs n).getD i 0 < (digs m).getD i 0) : cmpN m n = 1 := by
  have := val_less (Dig.digs n) (Dig.digs m) hj hi hd.symm hl
  rw [val_digs, val_digs] at this
  unfold cmpN; rw [if_neg (by omega), if_neg (by omega)]

theorem drop_eq {a b : List Int} {i : Nat} (hi : i < a.length) (hj : i < b.length) (hd : a.drop (i + 1) = b.drop (i + 1)) (hl : a.getD i 0 = b.getD i 0) : a.drop i = b.drop i := by
  have ea : a.getD i 0 = a[i] := by simp [List.getD, hi]
  have eb : b.getD i 0 = b[i] := by simp [List.getD, hj]
  rw [List.drop_eq_getElem_cons hi, List.drop_eq_getElem_cons hj, hd, ← ea, ← eb, hl]

theorem val_snoc (a : List Int) (x : Int) : val (a ++ [x]) = val a + 10000 ^ a.length * x := by
  rw [val_app]; simp [val]

theorem take_succ {a : List Int} {i : Nat} (h : i < a.length) : a.take (i + 1) = a.take i ++ [a.getD i 0] := by
  rw [take_last (Nat.succ_pos i) h]; rfl

theorem val_take_succ {a : List Int} {i : Nat} (h : i < a.length) : val (a.take (i + 1)) = val (a.take i) + 10000 ^ i * a.getD i 0 := by
  rw [take_succ h, val_snoc, List.length_take, Nat.min_eq_left (by omega)]

theorem val_take_over {a : List Int} {i : Nat} (h : a.length ≤ i) : val (a.take (i + 1)) = val (a.take i) + 10000 ^ i * a.getD i 0 := by
  have : a.getD i 0 = 0 := by simp [List.getD, List.getElem?_eq_none h]
  rw [this, List.take_of_length_le h, List.take_of_length_le (by omega)]; omega

theorem val_take (a : List Int) (i : Nat) : val (a.take (i + 1)) = val (a.take i) + 10000 ^ i * a.getD i 0 := by
  rcases Nat.lt_or_ge i a.length with h | h
  · exact val_take_succ h
  · exact val_take_over h

theorem sub_step {a b l : List Int} {i : Nat} {c d : Int} (hl : l.length = i) (hv : val l - 10000 ^ i * c = val (a.take i) - val (b.take i)) :
    val (l ++ [a.getD i 0 - c - b.getD i 0 + d * 10000]) - 10000 ^ (i + 1) * d = val (a.take (i + 1)) - val (b.take (i + 1)) := by
  rw [val_snoc, val_take, val_take, hl, Int.pow_succ]
  generalize (10000 : Int) ^ i = p at *
  grind

theorem getD_over {b : List Int} {i : Nat} (h : b.length ≤ i) : b.getD i 0 = 0 := by simp [List.getD, List.getElem?_eq_none h]

theorem val_set {l : List Int} {k : Nat} (h : k < l.length) (x : Int) : val (l.set k x) = val l + 10000 ^ k * (x - l.getD k 0) := by
  induction l generalizing k with
  | nil => simp at h
  | cons y r ih =>
    cases k with
    | zero => simp [val, List.getD]; omega
    | succ k =>
      have := ih (k := k) (by simpa using h)
      simp only [List.set_cons_succ, val, this, List.getD_cons_succ, Int.pow_succ]
      generalize (10000 : Int) ^ k = p
      grind

theorem digit_le_val {l : List Int} (h : Dig l) {k : Nat} : 10000 ^ k * l.getD k 0 ≤ val l := by
  induction l generalizing k with
  | nil => simp [val, List.getD]
  | cons y r ih =>
    have h0 := h.head
    have h1 := val_nonneg h.tail
    cases k with
    | zero => simp [val, List.getD]; omega
    | succ k =>
      have := ih h.tail (k := k)
      simp only [val, List.getD_cons_succ, Int.pow_succ]
      generalize (10000 : Int) ^ k = p at *
      generalize r.getD k 0 = x at *
      have e : p * 10000 * x = 10000 * (p * x) := by grind
      omega

theorem mul_step {out b : List Int} {i j : Nat} {c x o n : Int} (hk : i + j < out.length) (hn : n = out.getD (i + j) 0 + c + x * b.getD j 0) (hv : val out + 10000 ^ (i + j) * c = o + 10000 ^ i * (x * val (b.take j))) :
    val (out.set (i + j) (n % 10000)) + 10000 ^ (i + (j + 1)) * (n / 10000) = o + 10000 ^ i * (x * val (b.take (j + 1))) := by
  rw [val_set hk, val_take, ← Nat.add_assoc, Int.pow_succ]
  rw [Int.pow_add] at hv ⊢
  have e : n % 10000 = n - 10000 * (n / 10000) := Int.emod_def n 10000
  rw [e]
  generalize (10000 : Int) ^ i = p at *
  generalize (10000 : Int) ^ j = q at *
  generalize n / 10000 = d
  subst hn
  grind

theorem mul_room {a b out : List Int} {i j : Nat} {c : Int} (ha : Dig a) (hb : Dig b) (ho : Dig out) (hi : i < a.length) (hc : 1 ≤ c) (hj : b.length ≤ j)
    (hv : val out + 10000 ^ (i + j) * c = val (a.take i) * val b + 10000 ^ i * (a.getD i 0 * val b)) : j = b.length := by
  rcases Nat.lt_or_ge b.length j with h | h
  · exfalso
    have h1 : val (a.take (i + 1)) * val b = val (a.take i) * val b + 10000 ^ i * (a.getD i 0 * val b) := by rw [val_take]; generalize (10000 : Int) ^ i = p; grind
    rw [← h1] at hv
    have h2 := val_lt (ha.take (i + 1))
    rw [List.length_take, Nat.min_eq_left (by omega)] at h2
    have h3 := val_lt hb
    have h4 := val_nonneg ho
    have h5 := val_nonneg hb
    have h6 := val_nonneg (ha.take (i + 1))
    have h7 : val (a.take (i + 1)) * val b ≤ 10000 ^ (i + 1) * val b := Int.mul_le_mul_of_nonneg_right (by omega) h5
    have hp : (0 : Int) < 10000 ^ (i + 1) := Int.pow_pos (by decide)
    have h8 : (10000 : Int) ^ (i + 1) * val b < 10000 ^ (i + 1) * 10000 ^ b.length := Int.mul_lt_mul_of_pos_left h3 hp
    obtain ⟨d, rfl⟩ : ∃ d, j = b.length + 1 + d := ⟨j - b.length - 1, by omega⟩
    have h9 : (10000 : Int) ^ (i + (b.length + 1 + d)) = 10000 ^ (i + 1) * 10000 ^ b.length * 10000 ^ d := by
      rw [← Int.pow_add, ← Int.pow_add]; congr 1; omega
    have hq : (0 : Int) < 10000 ^ d := Int.pow_pos (by decide)
    rw [h9] at hv
    have hr : (0 : Int) < 10000 ^ (i + 1) * 10000 ^ b.length := Int.mul_pos hp (Int.pow_pos (by decide))
    generalize (10000 : Int) ^ (i + 1) * 10000 ^ b.length = r at *
    generalize (10000 : Int) ^ d = q at *
    have h10 : r * 1 ≤ r * q := Int.mul_le_mul_of_nonneg_left (by omega) (by omega)
    have h11 : r * q * 1 ≤ r * q * c := Int.mul_le_mul_of_nonneg_left hc (by omega)
    omega
  · omega

theorem val_zero_take (b : List Int) : val (b.take 0) = 0 := rfl

theorem digs_getD (m k : Nat) : (digs m).getD k 0 = ((m / 10000 ^ k % 10000 : Nat) : Int) := by
  induction k generalizing m with
  | zero =>
    by_cases h : m = 0
    · rw [h, digs_zero]; rfl
    · rw [digs_pos (by omega)]; simp
  | succ k ih =>
    by_cases h : m = 0
    · rw [h, digs_zero]; simp
    · rw [digs_pos (by omega), List.getD_cons_succ, ih, Nat.div_div_eq_div_mul, Nat.pow_succ, Nat.mul_comm]

theorem div_step (m k : Nat) : m / 10000 ^ k = 10000 * (m / 10000 ^ (k + 1)) + m / 10000 ^ k % 10000 := by
  rw [Nat.pow_succ, ← Nat.div_div_eq_div_mul]; omega

theorem digs_len_mul {n x L : Nat} (h : (digs n).length ≤ L) (hx : x < 10000 * n) : (digs x).length ≤ L + 1 := by
  refine digs_len_le ?_
  have h1 := digs_lt_pow n
  have h2 : 10000 ^ (digs n).length ≤ 10000 ^ L := Nat.pow_le_pow_right (by decide) h
  rw [Nat.pow_succ]; omega

theorem digs_len_mono {n x : Nat} (hx : x ≤ n) : (digs x).length ≤ (digs n).length := by
  rcases Nat.lt_or_ge (digs n).length (digs x).length with h | h
  · have := len_lt h; omega
  · exact h

theorem over_len (m : Nat) : m / 10000 ^ (digs m).length = 0 := Nat.div_eq_of_lt (digs_lt_pow m)

theorem trim_cons_digs (x r : Nat) (hx : x < 10000) : trim ((x : Int) :: digs r) = digs (10000 * r + x) := by
  rw [← digs_val (.cons (by omega) (by omega) (Dig.digs r)), val, val_digs]
  congr 1; omega

theorem div_fact {M d n x : Nat} (h0 : 0 < n) (hx : x = 10000 * (M % n) + d) : (10000 * M + d) % n = x % n ∧ (10000 * M + d) / n = 10000 * (M / n) + x / n := by
  have e : 10000 * M + d = n * (10000 * (M / n)) + x := by
    have := Nat.div_add_mod M n
    rw [hx]
    generalize M / n = q at *
    generalize M % n = r at *
    subst this
    grind
  rw [e]
  exact ⟨Nat.mul_add_mod _ _ _, Nat.mul_add_div h0 _ _⟩

theorem cmpN_neg {m n : Nat} : cmpN m n < 0 ↔ m < n := by
  unfold cmpN; split
  · simp [*]
  · split <;> simp [*]
theorem cmpN_le {m n : Nat} : cmpN m n ≤ 0 ↔ m ≤ n := by
  unfold cmpN; split
  · simp; omega
  · split <;> simp <;> omega
theorem cmpN_nonneg {m n : Nat} : 0 ≤ cmpN m n ↔ n ≤ m := by
  unfold cmpN; split
  · simp; omega
  · split <;> simp <;> omega
theorem cmpN_pos {m n : Nat} : 0 < cmpN m n ↔ n < m := by
  unfold cmpN; split
  · simp; omega
  · split <;> simp <;> omega

end Go.PL
