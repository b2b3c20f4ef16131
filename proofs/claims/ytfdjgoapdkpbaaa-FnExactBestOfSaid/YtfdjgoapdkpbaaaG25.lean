/- A plain machine, sound for the given model, and contracts of functions over it, part 25: A9 AP. Nothing is assumed. -/
import Derived.Test.YtfdjgoapdkpbaaaA8
set_option linter.unusedSimpArgs false
set_option linter.unusedVariables false
set_option linter.unusedSectionVars false
/- A9 -/
namespace Go.PL
open Go Go.Proofs
set_option maxRecDepth 10000
set_option maxHeartbeats 4000000
set_option linter.unusedSimpArgs false
set_option linter.unusedVariables false
theorem clone_new (a : List Int) (ha : a.length ≤ 1048576) (h0 : 0 < a.length) : Den Try.prog TT Xn 39 [.d (encD a)] [] (.msl 0 0 a.length) [.arr 1 (a.map .i) false] := by
  refine Den.newI Try.func39 rfl 1 (by kernel_rfl) rfl rfl (by simp only [initE_nil, initE_cons, Nat.reduceAdd]; exact rfl) rfl rfl rfl ?_
  repeat' first | (with_reducible first | refine nx' ?_ | refine n0 ?_ | refine rD ?_ | refine n1 ?_ | refine nilB_i fun b hb => ?_ | refine nP ?_ ?_ | refine nS fun K hK => ?_ | (refine n2 ?_ ?_ <;> intro h <;> first | subst (h : _ = true) | subst (h : _ = false) | skip) | refine And.intro ?_ ?_ | refine nK ‹Imp _ _› ?_) | exact nl | fail
end Go.PL

/- AP -/
namespace Go.PL
open Go Go.Proofs
set_option maxRecDepth 10000
set_option maxHeartbeats 4000000
set_option linter.unusedSimpArgs false
set_option linter.unusedVariables false
theorem length_pad (k n : Nat) : (pad k n).length = k := by simp [pad]
theorem val_pad (k : Nat) : ∀ n, val (pad k n) = (n % 10000 ^ k : Nat) := by
  induction k with
  | zero => intro n; simp [pad, val, Nat.mod_one]
  | succ k ih =>
    intro n
    rw [pad_succ]
    show ((n % 10000 : Nat) : Int) + 10000 * val (pad k (n / 10000)) = _
    rw [ih, Nat.pow_succ, Nat.mul_comm (10000 ^ k), Nat.mod_mul]
    omega
theorem Dig.pad (k n : Nat) : Dig (pad k n) := by
  intro x hx
  simp only [Go.PL.pad, List.mem_map] at hx
  obtain ⟨i, _, rfl⟩ := hx
  omega
theorem trim_pad {k n : Nat} (h : n < 10000 ^ k) : trim (pad k n) = digs n := by
  rw [← digs_val (Dig.pad k n), val_pad, Nat.mod_eq_of_lt h]; rfl
theorem one_step {k l M N n : Nat} {x : Nat} (hk : k < l) (hN : N / n = 10000 * (M / n) + x / n) (hx : x / n < 10000) :
    (List.replicate (k + 1) 0 ++ pad (l - (k + 1)) (M / n)).set k ((x / n : Nat) : Int) = List.replicate k 0 ++ pad (l - k) (N / n) := by
  generalize M / n = u at *
  generalize x / n = v at *
  generalize N / n = w at *
  have e : l - k = (l - (k + 1)) + 1 := by omega
  rw [e, pad_succ, hN, List.replicate_succ', List.append_assoc, List.set_append_right _ _ (by simp)]
  simp only [List.length_replicate, Nat.sub_self, List.singleton_append, List.set_cons_zero]
  congr 2
  · omega
  · congr 1; omega
theorem pad_add (a b : Nat) : ∀ n, pad (a + b) n = pad a n ++ pad b (n / 10000 ^ a) := by
  induction a with
  | zero => intro n; simp [pad]
  | succ a ih =>
    intro n
    rw [show a + 1 + b = (a + b) + 1 by omega, pad_succ, pad_succ, ih, List.cons_append, Nat.div_div_eq_div_mul, Nat.pow_succ, Nat.mul_comm]
theorem pad_zeros (k : Nat) : pad k 0 = List.replicate k 0 := by
  induction k with
  | zero => rfl
  | succ k ih => rw [pad_succ, Nat.zero_div, ih]; rfl
theorem digs_pad (m : Nat) : digs m = pad (digs m).length m := by
  refine List.ext_getElem (by rw [length_pad]) fun i h1 h2 => ?_
  have := digs_getD m i
  rw [List.getD_eq_getElem?_getD, List.getElem?_eq_getElem h1, Option.getD_some] at this
  rw [this]
  simp [pad]
theorem pad_take {k w : Nat} (h : k ≤ w) (n : Nat) : (pad w n).take k = pad k n := by
  obtain ⟨d, rfl⟩ : ∃ d, w = k + d := ⟨w - k, by omega⟩
  rw [pad_add, List.take_left' (length_pad k n)]
theorem pad_drop {k w : Nat} (h : k ≤ w) (n : Nat) : (pad w n).drop k = pad (w - k) (n / 10000 ^ k) := by
  obtain ⟨d, rfl⟩ : ∃ d, w = k + d := ⟨w - k, by omega⟩
  rw [pad_add, List.drop_left' (length_pad k n), Nat.add_sub_cancel_left]
theorem pad_ext {k w n : Nat} (h : k ≤ w) (hn : n < 10000 ^ k) : pad w n = pad k n ++ List.replicate (w - k) 0 := by
  obtain ⟨d, rfl⟩ : ∃ d, w = k + d := ⟨w - k, by omega⟩
  rw [pad_add, Nat.div_eq_of_lt hn, pad_zeros, Nat.add_sub_cancel_left]
/-- The rest of a division, a digit more: the digits below come from the dividend. -/
theorem rest_step (m j w r : Nat) : pad (j + 1) m ++ pad w r = pad j m ++ pad (w + 1) (10000 * r + m / 10000 ^ j % 10000) := by
  have h1 : pad 1 (m / 10000 ^ j) = [((m / 10000 ^ j % 10000 : Nat) : Int)] := by simp [pad]
  have hlt : m / 10000 ^ j % 10000 < 10000 := Nat.mod_lt _ (by omega)
  rw [pad_add j 1, List.append_assoc, h1, pad_succ w]
  generalize m / 10000 ^ j % 10000 = d at *
  rw [show (10000 * r + d) % 10000 = d by omega, show (10000 * r + d) / 10000 = r by omega]
  rfl
theorem digs_top {n : Nat} (h : 0 < n) : (digs n).getD ((digs n).length - 1) 0 ≠ 0 := by
  have hl : 0 < (digs n).length := by
    rcases Nat.eq_zero_or_pos (digs n).length with h1 | h1
    · have := digs_nil.1 (List.eq_nil_of_length_eq_zero h1); omega
    · exact h1
  have h1 := digs_len_ge (n := n) (L := (digs n).length - 1) (by omega)
  have h2 := digs_lt_pow n
  rw [digs_getD]
  obtain ⟨l, hl2⟩ : ∃ l, (digs n).length = l + 1 := ⟨(digs n).length - 1, by omega⟩
  rw [hl2] at h1 h2 ⊢
  rw [Nat.add_sub_cancel] at h1 ⊢
  have h3 : n / 10000 ^ l < 10000 := Nat.div_lt_of_lt_mul (by rw [Nat.pow_succ] at h2; omega)
  have h4 : 0 < n / 10000 ^ l := Nat.div_pos h1 (Nat.pow_pos (by omega))
  rw [Nat.mod_eq_of_lt h3]
  omega
/-- Knuth's digit, where the numbers are known. -/
theorem natDigit_d (p : List Int) (n R w j : Nat) (x0 x2 : Ob) (hj : p.length = j) (h0 : x0.bnd 3 = true) (h2 : x2.bnd 3 = true) (hp : Dig p) (hw : (digs n).length + 1 ≤ w) (hlen : j + w < 1048576) (hb2 : 2 ≤ (digs n).length) (hR : R < 10000 * n) :
    Den Try.prog TT Xn 82 [.msl 1 j ((digs n).length + 1), .d (encD (digs n))] [x0, .arr 1 ((p ++ pad w R).map .i) false, x2] (.d (.i ((R / n : Nat) : Int)))
      [x0, .arr 1 ((p ++ pad w (R % n)).map .i) false, x2] := by
  subst hj
  have hn0 : 0 < n := by omega
  have hpow := digs_lt_pow n
  have hRp : R < 10000 ^ ((digs n).length + 1) := by rw [Nat.pow_succ]; omega
  have hv : val (((p ++ pad w R).drop p.length).take ((digs n).length + 1)) = (R : Int) := by
    rw [List.drop_left, pad_take hw, val_pad, Nat.mod_eq_of_lt hRp]
  have h := natDigit_c (digs n) (p ++ pad w R) p.length x0 x2 h0 h2 (by rw [List.length_append, length_pad]; omega) (by rw [List.length_append, length_pad]; omega) hb2 (hp.app (Dig.pad w R)) (Dig.digs n) (digs_top hn0) (by rw [hv, val_digs]; omega)
  rw [hv, val_digs, List.take_left, ← Int.natCast_ediv, ← Int.natCast_emod, Int.toNat_natCast, show p.length + (digs n).length + 1 = p.length + ((digs n).length + 1) by omega, ← List.drop_drop, List.drop_left, pad_drop hw, Nat.div_eq_of_lt hRp, pad_zeros, List.append_assoc,
    ← pad_ext hw (Nat.lt_of_le_of_lt (Nat.mod_le R n) hRp)] at h
  exact h
end Go.PL
