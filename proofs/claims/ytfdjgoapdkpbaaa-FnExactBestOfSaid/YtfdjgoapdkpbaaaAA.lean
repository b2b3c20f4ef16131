/- A plain machine, sound for the given model, and contracts of functions over it, part 26: AA. Nothing is assumed. -/
import Derived.Test.YtfdjgoapdkpbaaaG15
import Derived.Test.YtfdjgoapdkpbaaaG25
set_option linter.unusedSimpArgs false
set_option linter.unusedVariables false
set_option linter.unusedSectionVars false
/- AA -/
namespace Go.PL
open Go Go.Proofs
set_option maxRecDepth 10000
set_option maxHeartbeats 4000000
set_option linter.unusedSimpArgs false
set_option linter.unusedVariables false
set_option maxHeartbeats 1600000 in
theorem natDiv_c (m n : Nat) (hn0 : 0 < n) (hm : (digs m).length < 1000000) (hn : (digs n).length < 1000000) : Den Try.prog TT Xn 76 [.d (encD (digs m)), .d (encD (digs n))] [] (.tup [.d (encD (digs (m / n))), .d (encD (digs (m % n)))]) [] := by
  refine Den.pureI Try.func76 rfl 2 [.tmp 4, .tmp 5] (by kernel_rfl) rfl rfl (by simp only [initE_nil, initE_cons, Nat.reduceAdd]; exact rfl) ?_
  repeat' first | (with_reducible first | refine nx' ?_ | refine n0 ?_ | refine Wp.drawR (by decide +kernel) ?_ | refine Wp.drawSR [1, 3, 4, 5] [false, true, false, true, true, true] (.op 1 [2] (.op 3 [] (.op 4 [] (.op 5 [] .done)))) (by decide +kernel) ?_ | refine Wp.drawSR [10, 11, 12] [false, false, false, false, false, false, false, false, false, false, true, true, true] (.op 10 [0,1] (.op 11 [] (.op 12 [] .done))) (by decide +kernel) ?_ | refine Wp.drawSR [13, 14] [false, false, false, false, false, false, false, false, false, false, false, false, false, true, true] (.op 13 [7,11] (.op 14 [] .done)) (by decide +kernel) ?_ | refine n1 ?_ | refine nilB_i fun b hb => ?_ | refine nP ?_ ?_ | refine nS fun K hK => ?_ | (refine n2 ?_ ?_ <;> intro h <;> first | subst (h : _ = true) | subst (h : _ = false) | skip) | refine And.intro ?_ ?_ | refine nK ‹Imp _ _› ?_) | exact nl | fail
  · have hlt : m < n := cmpN_neg.1 (by assumption)
    rw [Nat.div_eq_of_lt hlt, Nat.mod_eq_of_lt hlt, digs_zero]; rfl
  · have hge : n ≤ m := cmpN_nonneg.1 (by assumption)
    have h1 : ((digs n).length : Int) = 1 := by assumption
    have hn1 : n < 10000 := by have := digs_lt_pow n; rw [show (digs n).length = 1 by omega] at this; omega
    have hb0 : (digs n).getD 0 0 = n := by rw [digs_getD]; simp; omega
    simp only [List.length_replicate]
    refine Wp.rangeR 79 (digs m) (fun k => [.var [.d (encD (digs n))] false, .arr 1 ((List.replicate k 0 ++ pad ((digs m).length - k) (m / 10000 ^ k / n)).map .i) false, .var [.msl 1 0 (digs m).length] false, .var [.d (.i ((m / 10000 ^ k % n : Nat) : Int))] false])
      (fun k => True) (fun os => False)
      (fun k => [(3, .ref 0 0 0), (7, .ref 2 0 0), (8, .ref 3 0 0), (9, .d (.i k)), (10, .d (.i ((digs m).getD k 0)))]) 4 rfl rfl rfl (by omega) (by omega) rfl ?_ trivial ?_ ?_ ?_ ?_
    · rw [over_len, Nat.sub_self, Nat.zero_div, Nat.zero_mod]; simp [pad]
    · intro k hk hJ K hK
      repeat' first | (with_reducible first | refine nx' ?_ | refine n0 ?_ | refine Wp.drawR (by decide +kernel) ?_ | refine Wp.drawSR [1, 3, 4, 5] [false, true, false, true, true, true] (.op 1 [2] (.op 3 [] (.op 4 [] (.op 5 [] .done)))) (by decide +kernel) ?_ | refine Wp.drawSR [10, 11, 12] [false, false, false, false, false, false, false, false, false, false, true, true, true] (.op 10 [0,1] (.op 11 [] (.op 12 [] .done))) (by decide +kernel) ?_ | refine Wp.drawSR [13, 14] [false, false, false, false, false, false, false, false, false, false, false, false, false, true, true] (.op 13 [7,11] (.op 14 [] .done)) (by decide +kernel) ?_ | refine n1 ?_ | refine nilB_i fun b hb => ?_ | refine nP ?_ ?_ | refine nS fun K hK => ?_ | (refine n2 ?_ ?_ <;> intro h <;> first | subst (h : _ = true) | subst (h : _ = false) | skip) | refine And.intro ?_ ?_ | refine nK ‹Imp _ _› ?_) | exact nl | fail
      exact Weak.lo
    · intro k hk hJ K hK Kx hKx
      have hd := digs_getD m k
      have hdd : m / 10000 ^ k % 10000 < 10000 := Nat.mod_lt _ (by omega)
      have hf := div_fact (M := m / 10000 ^ (k + 1)) (d := m / 10000 ^ k % 10000) (n := n) (x := 10000 * (m / 10000 ^ (k + 1) % n) + m / 10000 ^ k % 10000) hn0 rfl
      rw [← div_step m k] at hf
      have hrn : m / 10000 ^ (k + 1) % n < n := Nat.mod_lt _ hn0
      have hxq : (10000 * (m / 10000 ^ (k + 1) % n) + m / 10000 ^ k % 10000) / n < 10000 := Nat.div_lt_of_lt_mul (by have := Nat.mul_le_mul_right 10000 (Nat.succ_le_of_lt hrn); omega)
      have hO := one_step (k := k) (l := (digs m).length) (M := m / 10000 ^ (k + 1)) (n := n) (N := m / 10000 ^ k) hk hf.2 hxq
      generalize m / 10000 ^ k % 10000 = dd at *
      generalize hr : m / 10000 ^ (k + 1) % n = r at *
      have hw1 : ((10000 * r + dd : Nat) : Int) = (r : Int) * 10000 + dd := by omega
      have hq : IntKind.i64.wrap (((r : Int) * 10000 + dd) / (n : Int)) = (((10000 * r + dd) / n : Nat) : Int) := by
        rw [← hw1, ← Int.natCast_ediv]; clear hf hO; generalize (10000 * r + dd) / n = y at hxq ⊢; exact wrap_id (by omega) (by omega)
      have hq2 : ((r : Int) * 10000 + dd) / (n : Int) = (((10000 * r + dd) / n : Nat) : Int) := by rw [← hw1, ← Int.natCast_ediv]
      have hm2 : ((r : Int) * 10000 + dd) % (n : Int) = (((10000 * r + dd) % n : Nat) : Int) := by rw [← hw1, ← Int.natCast_emod]
      repeat' first | (with_reducible first | refine nx' ?_ (by simp -implicitDefEqProofs (disch := omega) only [go_sem, hd, hb0, hq, hq2, hm2]; exact rfl) | refine n0 ?_ | refine Wp.drawR (by decide +kernel) ?_ | refine Wp.drawSR [1, 3, 4, 5] [false, true, false, true, true, true] (.op 1 [2] (.op 3 [] (.op 4 [] (.op 5 [] .done)))) (by decide +kernel) ?_ | refine Wp.drawSR [10, 11, 12] [false, false, false, false, false, false, false, false, false, false, true, true, true] (.op 10 [0,1] (.op 11 [] (.op 12 [] .done))) (by decide +kernel) ?_ | refine Wp.drawSR [13, 14] [false, false, false, false, false, false, false, false, false, false, false, false, false, true, true] (.op 13 [7,11] (.op 14 [] .done)) (by decide +kernel) ?_ | refine n1 ?_ | refine nilB_i fun b hb => ?_ | refine nP ?_ ?_ | refine nS fun K hK => ?_ | (refine n2 ?_ ?_ <;> intro h <;> first | subst (h : _ = true) | subst (h : _ = false) | (simp only [FX, LX, hd, hb0, hq, hq2, hm2] at h) | skip) | refine And.intro ?_ ?_ | refine nK ‹Imp _ _› ?_) | exact nl | fail
      rw [List.replicate_succ, List.cons_append] at hO
      have hwy : IntKind.i64.wrap (((10000 * r + dd) / n : Nat) : Int) = (((10000 * r + dd) / n : Nat) : Int) := by
        clear hf hO; generalize (10000 * r + dd) / n = y at hxq ⊢; exact wrap_id (by omega) (by omega)
      simp only [hwy, hO, hf.1]
      exact Weak.lo
    · intro hJ
      simp -implicitDefEqProofs (disch := omega) only [go_sem]
      repeat' first | (with_reducible first | refine nx' ?_ | refine n0 ?_ | refine Wp.drawR (by decide +kernel) ?_ | refine Wp.drawSR [1, 3, 4, 5] [false, true, false, true, true, true] (.op 1 [2] (.op 3 [] (.op 4 [] (.op 5 [] .done)))) (by decide +kernel) ?_ | refine Wp.drawSR [10, 11, 12] [false, false, false, false, false, false, false, false, false, false, true, true, true] (.op 10 [0,1] (.op 11 [] (.op 12 [] .done))) (by decide +kernel) ?_ | refine Wp.drawSR [13, 14] [false, false, false, false, false, false, false, false, false, false, false, false, false, true, true] (.op 13 [7,11] (.op 14 [] .done)) (by decide +kernel) ?_ | refine n1 ?_ | refine nilB_i fun b hb => ?_ | refine nP ?_ ?_ | refine nS fun K hK => ?_ | (refine n2 ?_ ?_ <;> intro h <;> first | subst (h : _ = true) | subst (h : _ = false) | skip) | refine And.intro ?_ ?_ | refine nK ‹Imp _ _› ?_) | exact nl | fail
      · have := Nat.mod_lt (m / 10000 ^ 0) hn0; omega
      · rw [Nat.pow_zero, Nat.div_one, List.take_of_length_le (by rw [length_pad]; omega), trim_pad (Nat.lt_of_le_of_lt (Nat.div_le_self _ _) (digs_lt_pow m))]
    · rintro os hf; exact hf.elim
  · have hge : n ≤ m := cmpN_nonneg.1 (by assumption)
    have hne : ((digs n).length : Int) ≠ 1 := by assumption
    have hlb : 2 ≤ (digs n).length := by
      rcases Nat.lt_or_ge (digs n).length 2 with h9 | h9
      · have := digs_len0 (n := n); omega
      · exact h9
    have hla : (digs n).length ≤ (digs m).length := digs_len_mono hge
    obtain ⟨q, hq⟩ : ∃ q, q = (digs m).length - (digs n).length + 1 := ⟨_, rfl⟩
    have e1 : (((digs m).length : Int) - (digs n).length + 1).toNat = q := by omega
    have hlp : (pad ((digs m).length + 1) m).length = (digs m).length + 1 := length_pad _ _
    refine wNorm ⟨[(3, .ref 0 0 0), (6, .d (.i (digs n).length)), (0, .d (encD (digs m))), (11, .msl 1 0 ((digs m).length + 1)), (12, .msl 2 0 q)],
      [.var [.d (encD (digs n))] false, .arr 1 ((pad ((digs m).length + 1) m).map .i) false, .arr 1 ((List.replicate q 0).map .i) false]⟩ ‹Imp _ _› ?_ fun hK => ?_
    · repeat' first | (with_reducible first | refine nx' ?_ | refine n0 ?_ | refine Wp.drawR (by decide +kernel) ?_ | refine Wp.drawSR [1, 3, 4, 5] [false, true, false, true, true, true] (.op 1 [2] (.op 3 [] (.op 4 [] (.op 5 [] .done)))) (by decide +kernel) ?_ | refine Wp.drawSR [10, 11, 12] [false, false, false, false, false, false, false, false, false, false, true, true, true] (.op 10 [0,1] (.op 11 [] (.op 12 [] .done))) (by decide +kernel) ?_ | refine Wp.drawSR [13, 14] [false, false, false, false, false, false, false, false, false, false, false, false, false, true, true] (.op 13 [7,11] (.op 14 [] .done)) (by decide +kernel) ?_ | refine n1 ?_ | refine nilB_i fun b hb => ?_ | refine nP ?_ ?_ | refine nS fun K hK => ?_ | (refine n2 ?_ ?_ <;> intro h <;> first | subst (h : _ = true) | subst (h : _ = false) | skip) | refine And.intro ?_ ?_ | refine nK ‹Imp _ _› ?_) | exact nl | fail
      have hqn : m / 10000 ^ q < n := by
        have h1 := digs_lt_pow m
        have h2 := digs_len_ge (n := n) (L := (digs n).length - 1) (by omega)
        rw [show (digs m).length = q + ((digs n).length - 1) by omega, Nat.pow_add] at h1
        have := Nat.div_lt_of_lt_mul h1
        omega
      have hi1 : pad ((digs m).length + 1) m = pad q m ++ pad ((digs m).length + 1 - q) (m / 10000 ^ q % n) := by
        rw [Nat.mod_eq_of_lt hqn, ← pad_add, show q + ((digs m).length + 1 - q) = (digs m).length + 1 by omega]
      have hi2 : List.replicate q (0 : Int) = List.replicate q 0 ++ pad (q - q) (m / 10000 ^ q / n) := by simp [pad]
      have hi3 : ((digs m).length : Int) - (digs n).length = (q : Int) - 1 := by omega
      rw [hi1, hi2, hi3]
      refine Wp.loopR (fun k : Nat => ⟨[(3, .ref 0 0 0), (6, .d (.i (digs n).length)), (11, .msl 1 0 ((digs m).length + 1)), (12, .msl 2 0 q), (13, .d (.i ((k : Int) - 1)))],
        [.var [.d (encD (digs n))] false, .arr 1 ((pad k m ++ pad ((digs m).length + 1 - k) (m / 10000 ^ k % n)).map .i) false, .arr 1 ((List.replicate k 0 ++ pad (q - k) (m / 10000 ^ k / n)).map .i) false]⟩) id (fun k => k ≤ q) q Weak.lo (Nat.le_refl _) ?_
      rintro k hk K hK
      obtain rfl | ⟨j, rfl⟩ : k = 0 ∨ ∃ j, k = j + 1 := by
        rcases k with _ | j
        · exact .inl rfl
        · exact .inr ⟨j, rfl⟩
      · repeat' first | (with_reducible first | refine nx' ?_ | refine n0 ?_ | refine Wp.drawR (by decide +kernel) ?_ | refine Wp.drawSR [1, 3, 4, 5] [false, true, false, true, true, true] (.op 1 [2] (.op 3 [] (.op 4 [] (.op 5 [] .done)))) (by decide +kernel) ?_ | refine Wp.drawSR [10, 11, 12] [false, false, false, false, false, false, false, false, false, false, true, true, true] (.op 10 [0,1] (.op 11 [] (.op 12 [] .done))) (by decide +kernel) ?_ | refine Wp.drawSR [13, 14] [false, false, false, false, false, false, false, false, false, false, false, false, false, true, true] (.op 13 [7,11] (.op 14 [] .done)) (by decide +kernel) ?_ | refine n1 ?_ | refine nilB_i fun b hb => ?_ | refine nP ?_ ?_ | refine nS fun K hK => ?_ | (refine n2 ?_ ?_ <;> intro h <;> first | subst (h : _ = true) | subst (h : _ = false) | skip) | refine And.intro ?_ ?_ | refine nK ‹Imp _ _› ?_) | exact nl | fail
        have hqp : m / n < 10000 ^ q := by
          have h1 := digs_lt_pow m
          have h2 := digs_len_ge (n := n) (L := (digs n).length - 1) (by omega)
          rw [show (digs m).length = ((digs n).length - 1) + q by omega, Nat.pow_add] at h1
          exact Nat.div_lt_of_lt_mul (Nat.lt_of_lt_of_le h1 (Nat.mul_le_mul_right _ h2))
        have hrp : m % n < 10000 ^ ((digs m).length + 1) := by
          have h1 := digs_lt_pow m
          have := Nat.mod_le m n
          rw [Nat.pow_succ]; omega
        rw [Nat.pow_zero, Nat.div_one, List.take_of_length_le (Nat.le_of_eq (length_pad _ _)), trim_pad hqp, show pad 0 m = [] from rfl, List.nil_append, List.take_of_length_le (Nat.le_of_eq (length_pad _ _)), trim_pad hrp]
      · have hL := rest_step m j ((digs m).length - j) (m / 10000 ^ (j + 1) % n)
        rw [show (digs m).length - j + 1 = (digs m).length + 1 - j by omega] at hL
        rw [show (((j + 1 : Nat) : Int) - 1) = (j : Int) by omega, show (digs m).length + 1 - (j + 1) = (digs m).length - j by omega, hL]
        have hdd : m / 10000 ^ j % 10000 < 10000 := Nat.mod_lt _ (by omega)
        have hf := div_fact (M := m / 10000 ^ (j + 1)) (d := m / 10000 ^ j % 10000) (n := n) (x := 10000 * (m / 10000 ^ (j + 1) % n) + m / 10000 ^ j % 10000) hn0 rfl
        rw [← div_step m j] at hf
        have hrn : m / 10000 ^ (j + 1) % n < n := Nat.mod_lt _ hn0
        have hR : 10000 * (m / 10000 ^ (j + 1) % n) + m / 10000 ^ j % 10000 < 10000 * n := by have := Nat.mul_le_mul_right 10000 (Nat.succ_le_of_lt hrn); omega
        have hxq : (10000 * (m / 10000 ^ (j + 1) % n) + m / 10000 ^ j % 10000) / n < 10000 := Nat.div_lt_of_lt_mul (by omega)
        have hO := one_step (k := j) (l := q) (M := m / 10000 ^ (j + 1)) (n := n) (N := m / 10000 ^ j) (by omega) hf.2 hxq
        generalize 10000 * (m / 10000 ^ (j + 1) % n) + m / 10000 ^ j % 10000 = R at *
        have hc := natDigit_d (pad j m) n R ((digs m).length + 1 - j) j (.var [.d (encD (digs n))] false) (.arr 1 ((List.replicate (j + 1) 0 ++ pad (q - (j + 1)) (m / 10000 ^ (j + 1) / n)).map .i) false) (length_pad _ _) rfl rfl (Dig.pad _ _) (by omega) (by omega) hlb hR
        have hOl : (List.replicate (j + 1) (0 : Int) ++ pad (q - (j + 1)) (m / 10000 ^ (j + 1) / n)).length = q := by
          rw [List.length_append, List.length_replicate, length_pad]; omega
        generalize List.replicate (j + 1) (0 : Int) ++ pad (q - (j + 1)) (m / 10000 ^ (j + 1) / n) = O at *
        have e5 : ((j : Int) + (digs n).length + 1).toNat - j = (digs n).length + 1 := by omega
        repeat' first | (with_reducible first | refine nx' ?_ (by simp -implicitDefEqProofs (disch := omega) only [go_sem, e5]; exact rfl) | refine n0 ?_ | refine Wp.drawR (by decide +kernel) ?_ | refine Wp.drawSR [1, 3, 4, 5] [false, true, false, true, true, true] (.op 1 [2] (.op 3 [] (.op 4 [] (.op 5 [] .done)))) (by decide +kernel) ?_ | refine Wp.drawSR [10, 11, 12] [false, false, false, false, false, false, false, false, false, false, true, true, true] (.op 10 [0,1] (.op 11 [] (.op 12 [] .done))) (by decide +kernel) ?_ | refine Wp.drawSR [13, 14] [false, false, false, false, false, false, false, false, false, false, false, false, false, true, true] (.op 13 [7,11] (.op 14 [] .done)) (by decide +kernel) ?_ | refine n1 ?_ | refine nilB_i fun b hb => ?_ | refine nP ?_ ?_ | refine nS fun K hK => ?_ | (refine n2 ?_ ?_ <;> intro h <;> first | subst (h : _ = true) | subst (h : _ = false) | (simp only [FX, LX, e5] at h) | skip) | refine And.intro ?_ ?_ | refine nK ‹Imp _ _› ?_) | exact nl | fail
        refine wCm (by simp -implicitDefEqProofs (disch := omega) only [go_sem, calleeR, evL, e5] <;> exact rfl) hc ?_
        simp -implicitDefEqProofs (disch := omega) only [go_sem]
        repeat' first | (with_reducible first | refine nx' ?_ (by simp -implicitDefEqProofs (disch := omega) only [go_sem, hOl]; exact rfl) | refine n0 ?_ | refine Wp.drawR (by decide +kernel) ?_ | refine Wp.drawSR [1, 3, 4, 5] [false, true, false, true, true, true] (.op 1 [2] (.op 3 [] (.op 4 [] (.op 5 [] .done)))) (by decide +kernel) ?_ | refine Wp.drawSR [10, 11, 12] [false, false, false, false, false, false, false, false, false, false, true, true, true] (.op 10 [0,1] (.op 11 [] (.op 12 [] .done))) (by decide +kernel) ?_ | refine Wp.drawSR [13, 14] [false, false, false, false, false, false, false, false, false, false, false, false, false, true, true] (.op 13 [7,11] (.op 14 [] .done)) (by decide +kernel) ?_ | refine n1 ?_ | refine nilB_i fun b hb => ?_ | refine nP ?_ ?_ | refine nS fun K hK => ?_ | (refine n2 ?_ ?_ <;> intro h <;> first | subst (h : _ = true) | subst (h : _ = false) | (simp only [FX, LX, hOl] at h) | skip) | refine And.intro ?_ ?_ | refine nK ‹Imp _ _› ?_) | exact nl | fail
        refine ⟨j, Nat.lt_succ_self _, by omega, ?_⟩
        simp only [hO, hf.1]
        exact Weak.lo
    · have hpad : digs m ++ [0] = pad ((digs m).length + 1) m := by
        rw [pad_add, over_len, pad_zeros, ← digs_pad]; rfl
      have hcl := clone_new (digs m) (by omega) (by omega)
      refine Wp.drawSR [1, 2, 3, 9, 10, 11] [false, true, true, true, false, false, false, false, false, true, true, true] (.both (.op 1 [4,5,6,7,8] (.both (.op 2 [4,5,6,7,8] (.both (.op 3 [4,5,6,7,8] (.both (.op 9 [] (.op 10 [] (.op 11 [] .done))) (.op 10 [4,5,6,7,8] (.op 9 [] (.op 11 [] .done))))) (.op 9 [] (.op 3 [] (.op 10 [] (.op 11 [] .done)))))) (.op 9 [] (.op 2 [] (.op 3 [] (.op 10 [] (.op 11 [] .done))))))) (.both (.op 2 [0,4,5,6,7,8] (.both (.op 1 [4,5,6,7,8] (.both (.op 3 [4,5,6,7,8] (.both (.op 9 [] (.op 10 [] (.op 11 [] .done))) (.op 10 [4,5,6,7,8] (.op 9 [] (.op 11 [] .done))))) (.op 9 [] (.op 3 [] (.op 10 [] (.op 11 [] .done)))))) (.op 9 [0] (.op 1 [] (.op 3 [] (.op 10 [] (.op 11 [] .done))))))) (.op 9 [0] (.both (.op 1 [] (.op 2 [] (.op 3 [] (.op 10 [] (.op 11 [] .done))))) (.op 2 [0] (.op 1 [] (.op 3 [] (.op 10 [] (.op 11 [] .done))))))))) (by decide +kernel) ?_
      simp -implicitDefEqProofs (disch := omega) only [go_sem]
      repeat' (first | (with_reducible show op1R _ _ _ _ _ _ _; refine wCN (by simp -implicitDefEqProofs (disch := omega) only [callV, go_sem]; exact rfl) hcl rfl rfl ?_; simp -implicitDefEqProofs (disch := omega) only [go_sem]) | first | (with_reducible first | refine nx' ?_ (by simp -implicitDefEqProofs (disch := omega) only [go_sem, e1, hpad, hlp]; exact rfl) | refine n0 ?_ | refine Wp.drawR (by decide +kernel) ?_ | refine Wp.drawSR [1, 3, 4, 5] [false, true, false, true, true, true] (.op 1 [2] (.op 3 [] (.op 4 [] (.op 5 [] .done)))) (by decide +kernel) ?_ | refine Wp.drawSR [10, 11, 12] [false, false, false, false, false, false, false, false, false, false, true, true, true] (.op 10 [0,1] (.op 11 [] (.op 12 [] .done))) (by decide +kernel) ?_ | refine Wp.drawSR [13, 14] [false, false, false, false, false, false, false, false, false, false, false, false, false, true, true] (.op 13 [7,11] (.op 14 [] .done)) (by decide +kernel) ?_ | refine n1 ?_ | refine nilB_i fun b hb => ?_ | refine nP ?_ ?_ | refine nS fun K hK => ?_ | (refine n2 ?_ ?_ <;> intro h <;> first | subst (h : _ = true) | subst (h : _ = false) | (simp only [FX, LX, e1, hpad, hlp] at h) | skip) | refine And.intro ?_ ?_ | refine nK ‹Imp _ _› ?_) | exact nl | fail)
      all_goals first
        | exact (Weak.cut (by simp -implicitDefEqProofs (disch := omega) only [go_sem, sub_nil, sub_cons, LX, hlp]; try ((repeat' refine And.intro ?_ ?_) <;> first | rfl | trivial | (congr 3; omega) | (congr 1; omega))) rfl (by simp) rfl rfl)
        | exact Weak.perm [0, 1, 3, 2] rfl rfl (Weak.cut (by simp -implicitDefEqProofs (disch := omega) only [go_sem, sub_nil, sub_cons, LX, hlp]; try ((repeat' refine And.intro ?_ ?_) <;> first | rfl | trivial | (congr 3; omega) | (congr 1; omega))) rfl (by simp) rfl rfl)
        | exact Weak.perm [0, 2, 1, 3] rfl rfl (Weak.cut (by simp -implicitDefEqProofs (disch := omega) only [go_sem, sub_nil, sub_cons, LX, hlp]; try ((repeat' refine And.intro ?_ ?_) <;> first | rfl | trivial | (congr 3; omega) | (congr 1; omega))) rfl (by simp) rfl rfl)
        | exact Weak.perm [0, 3, 2, 1] rfl rfl (Weak.cut (by simp -implicitDefEqProofs (disch := omega) only [go_sem, sub_nil, sub_cons, LX, hlp]; try ((repeat' refine And.intro ?_ ?_) <;> first | rfl | trivial | (congr 3; omega) | (congr 1; omega))) rfl (by simp) rfl rfl)
        | exact Weak.perm [0, 2, 1, 3] rfl rfl (Weak.perm [0, 1, 3, 2] rfl rfl (Weak.cut (by simp -implicitDefEqProofs (disch := omega) only [go_sem, sub_nil, sub_cons, LX, hlp]; try ((repeat' refine And.intro ?_ ?_) <;> first | rfl | trivial | (congr 3; omega) | (congr 1; omega))) rfl (by simp) rfl rfl))
        | exact Weak.perm [0, 3, 2, 1] rfl rfl (Weak.perm [0, 1, 3, 2] rfl rfl (Weak.cut (by simp -implicitDefEqProofs (disch := omega) only [go_sem, sub_nil, sub_cons, LX, hlp]; try ((repeat' refine And.intro ?_ ?_) <;> first | rfl | trivial | (congr 3; omega) | (congr 1; omega))) rfl (by simp) rfl rfl))
end Go.PL
