/- A plain machine, sound for the given model, and contracts of functions over it, part 17: A2. Nothing is assumed. -/
import Derived.Test.YtfdjgoapdkpbaaaA1
import Derived.KernelRfl
import Derived.Test.YtfdjgoapdkpbaaaProg
set_option linter.unusedSimpArgs false
set_option linter.unusedVariables false
set_option linter.unusedSectionVars false
/- A2 -/
namespace Go.PL
open Go Go.Proofs
set_option maxRecDepth 10000
set_option maxHeartbeats 4000000
set_option linter.unusedSimpArgs false
set_option linter.unusedVariables false
instance (m n : Nat) : Con CC 70 [.d (encD (digs m)), .d (encD (digs n))] (n ≤ m ∧ (digs m).length < 4096) (.d (encD (digs (m - n)))) := by
  constructor; intro ⟨hmn, hm⟩
  have hdm := Dig.digs m
  have hdn := Dig.digs n
  have hvm := val_digs m
  have hvn := val_digs n
  have hlen : (digs n).length ≤ (digs m).length := by
    rcases Nat.lt_or_ge (digs m).length (digs n).length with h | h
    · have := len_lt h; omega
    · exact h
  generalize digs m = a at *
  generalize digs n = b at *
  refine Den.pureI Try.func70 rfl 2 [.tmp 4] (by kernel_rfl) rfl rfl (by simp only [initE_nil, initE_cons, Nat.reduceAdd]; exact rfl) ?_
  repeat' first | (with_reducible first | refine nx' ?_ | refine n0 ?_ | refine rD ?_ | refine n1 ?_ | refine nilB_i fun b hb => ?_ | refine nP ?_ ?_ | refine nS fun K hK => ?_ | (refine n2 ?_ ?_ <;> intro h <;> first | subst (h : _ = true) | subst (h : _ = false) | skip) | refine And.intro ?_ ?_ | refine nK ‹Imp _ _› ?_) | exact nl | fail
  refine Wp.loopR (fun x : Nat × Int × List Int => ⟨[(0, .d (encD a)), (1, .d (encD b)), (5, .msl 0 0 x.2.2.length), (6, .d (.i x.2.1)), (7, .d (.i x.1))], [.arr 1 (x.2.2.map .i) false]⟩) (fun x => a.length - x.1)
    (fun x => x.1 ≤ a.length ∧ x.2.2.length = x.1 ∧ Dig x.2.2 ∧ 0 ≤ x.2.1 ∧ x.2.1 ≤ 1 ∧ val x.2.2 - 10000 ^ x.1 * x.2.1 = val (a.take x.1) - val (b.take x.1)) (0, 0, [])
    (Weak.low ⟨rfl, rfl, rfl, rfl, rfl, trivial⟩) ⟨by simp, rfl, Dig.nil, by simp, by simp, by simp [val]⟩ ?_
  rintro ⟨i, c, l⟩ ⟨hi, hl, hd, hc0, hc1, hv⟩ K hK
  simp only at hi hl hd hc0 hc1 hv ⊢
  have ga := hdm.get i
  have gb := hdn.get i
  repeat' first | (with_reducible first | refine nx' ?_ | refine n0 ?_ | refine rD ?_ | refine n1 ?_ | refine nilB_i fun b hb => ?_ | refine nP ?_ ?_ | refine nS fun K hK => ?_ | (refine n2 ?_ ?_ <;> intro h <;> first | subst (h : _ = true) | subst (h : _ = false) | skip) | refine And.intro ?_ ?_ | refine nK ‹Imp _ _› ?_) | exact nl | fail
  · by_cases hs : a.getD i 0 - c - b.getD i 0 < 0
    · have h3 := sub_step (d := 1) hl hv
      simp only [hs, decide_true, if_true]
      exact ⟨(i + 1, 1, l ++ [a.getD i 0 - c - b.getD i 0 + 1 * 10000]), by simp only; omega, ⟨by simp only; omega, by simp [hl], hd.app (.cons (by omega) (by omega) .nil), by simp, by simp, h3⟩, Weak.cu⟩
    · have h3 := sub_step (d := 0) hl hv
      simp only [hs, decide_false, if_false, Bool.false_eq_true]
      exact ⟨(i + 1, 0, l ++ [a.getD i 0 - c - b.getD i 0 + 0 * 10000]), by simp only; omega, ⟨by simp only; omega, by simp [hl], hd.app (.cons (by omega) (by omega) .nil), by simp, by simp, h3⟩, Weak.cu⟩
  · by_cases hs : a.getD i 0 - c < 0
    · have h3 := sub_step (d := 1) hl hv
      rw [getD_over (by omega : b.length ≤ i), Int.sub_zero] at h3
      simp only [hs, decide_true, if_true]
      exact ⟨(i + 1, 1, l ++ [a.getD i 0 - c + 1 * 10000]), by simp only; omega, ⟨by simp only; omega, by simp [hl], hd.app (.cons (by omega) (by omega) .nil), by simp, by simp, h3⟩, Weak.cu⟩
    · have h3 := sub_step (d := 0) hl hv
      rw [getD_over (by omega : b.length ≤ i), Int.sub_zero] at h3
      simp only [hs, decide_false, if_false, Bool.false_eq_true]
      exact ⟨(i + 1, 0, l ++ [a.getD i 0 - c + 0 * 10000]), by simp only; omega, ⟨by simp only; omega, by simp [hl], hd.app (.cons (by omega) (by omega) .nil), by simp, by simp, h3⟩, Weak.cu⟩
  · have hi2 : i = a.length := by omega
    subst hi2
    rw [List.take_length, List.take_of_length_le hlen, hvm, hvn] at hv
    have h1 := val_lt hd
    have h2 := val_nonneg hd
    rw [hl] at h1
    have hc : c = 0 := by
      rcases (show c = 0 ∨ c = 1 by omega) with h | h
      · exact h
      · rw [h] at hv; omega
    rw [hc] at hv
    rw [← digs_val hd]
    have : (val l).toNat = m - n := by omega
    rw [this]

instance (m n : Nat) : Con CC 68 [.d (encD (digs m)), .d (encD (digs n))] ((digs m).length < 4096 ∧ (digs n).length < 4096) (.d (encD (digs (m * n)))) := by
  constructor; intro ⟨hm, hn⟩
  have hdm := Dig.digs m
  have hdn := Dig.digs n
  have hvm := val_digs m
  have hvn := val_digs n
  generalize digs m = a at *
  generalize digs n = b at *
  refine Den.pureI Try.func68 rfl 2 [.tmp 4] (by kernel_rfl) rfl rfl (by simp only [initE_nil, initE_cons, Nat.reduceAdd]; exact rfl) ?_
  repeat' first | (with_reducible first | refine nx' ?_ | refine n0 ?_ | refine rD ?_ | refine n1 ?_ | refine nilB_i fun b hb => ?_ | refine nP ?_ ?_ | refine nS fun K hK => ?_ | (refine n2 ?_ ?_ <;> intro h <;> first | subst (h : _ = true) | subst (h : _ = false) | skip) | refine And.intro ?_ ?_ | refine nK ‹Imp _ _› ?_) | exact nl | fail
  have e0 : ((a.length : Int) + b.length + 1).toNat = a.length + b.length + 1 := by omega
  simp only [e0]
  refine Wp.loopR (fun x : Nat × List Int => ⟨[(0, .d (encD a)), (1, .d (encD b)), (5, .msl 0 0 x.2.length), (6, .d (.i x.1))], [.arr 1 (x.2.map .i) false]⟩) (fun x => a.length - x.1)
    (fun x => x.1 ≤ a.length ∧ x.2.length = a.length + b.length + 1 ∧ Dig x.2 ∧ val x.2 = val (a.take x.1) * val b) (0, List.replicate (a.length + b.length + 1) 0)
    (Weak.low ⟨rfl, rfl, rfl, rfl, trivial⟩) ⟨by simp, by simp, Dig.zeros _, by rw [val_zeros]; simp [val]⟩ ?_
  rintro ⟨i, o⟩ ⟨hi, hl, hd, hv⟩ K hK
  simp only at hi hl hd hv ⊢
  have ga := hdm.get i
  repeat' first | (with_reducible first | refine nx' ?_ | refine n0 ?_ | refine rD ?_ | refine n1 ?_ | refine nilB_i fun b hb => ?_ | refine nP ?_ ?_ | refine nS fun K hK => ?_ | (refine n2 ?_ ?_ <;> intro h <;> first | subst (h : _ = true) | subst (h : _ = false) | skip) | refine And.intro ?_ ?_ | refine nK ‹Imp _ _› ?_) | exact nl | fail
  · refine Wp.loopR (fun y : Nat × Int × List Int => ⟨[(0, .d (encD a)), (1, .d (encD b)), (5, .msl 0 0 y.2.2.length), (6, .d (.i i)), (7, .d (.i y.2.1)), (8, .d (.i y.1))], [.arr 1 (y.2.2.map .i) false]⟩) (fun y => b.length + 1 - y.1)
      (fun y => y.1 ≤ b.length + 1 ∧ y.2.2.length = a.length + b.length + 1 ∧ Dig y.2.2 ∧ 0 ≤ y.2.1 ∧ y.2.1 ≤ 9999 ∧ val y.2.2 + 10000 ^ (i + y.1) * y.2.1 = val o + 10000 ^ i * (a.getD i 0 * val (b.take y.1))) (0, 0, o)
      (Weak.low ⟨rfl, rfl, rfl, rfl, rfl, rfl, trivial⟩) ⟨by simp, hl, hd, by simp, by simp, by simp [val]⟩ ?_
    rintro ⟨j, c, l⟩ ⟨hj, hll, hdl, hc0, hc1, hvl⟩ K2 hK2
    simp only at hj hll hdl hc0 hc1 hvl ⊢
    have gb := hdn.get j
    have gl := hdl.get (i + j)
    have hp0 : 0 ≤ a.getD i 0 * b.getD j 0 := Int.mul_nonneg (by omega) (by omega)
    have hp1 : a.getD i 0 * b.getD j 0 ≤ 9999 * 9999 := Int.mul_le_mul (by omega) (by omega) (by omega) (by omega)
    have hjb : j < b.length ∨ 0 < c → j ≤ b.length := by
      rintro (h1 | h1)
      · omega
      · rcases Nat.lt_or_ge j b.length with h2 | h2
        · omega
        · rw [hv, List.take_of_length_le h2] at hvl
          have := mul_room hdm hdn hdl (by omega) (by omega : 1 ≤ c) h2 hvl
          omega
    have hij : ((i : Int) + j).toNat = i + j := by omega
    repeat' first | (with_reducible first | refine nx' ?_ (by simp -implicitDefEqProofs (disch := omega) only [go_sem, hij]; exact rfl) | refine n0 ?_ | refine rD ?_ | refine n1 ?_ | refine nilB_i fun b hb => ?_ | refine nP ?_ ?_ | refine nS fun K hK => ?_ | (refine n2 ?_ ?_ <;> intro h <;> first | subst (h : _ = true) | subst (h : _ = false) | (simp only [FX, LX, hij] at h) | skip) | refine And.intro ?_ ?_ | refine nK ‹Imp _ _› ?_) | exact nl | fail
    · have hjl := hjb (.inl (by omega))
      have h3 := mul_step (n := l.getD (i + j) 0 + c + a.getD i 0 * b.getD j 0) (by omega) (by rfl) hvl
      exact ⟨(j + 1, (l.getD (i + j) 0 + c + a.getD i 0 * b.getD j 0) / 10000, l.set (i + j) ((l.getD (i + j) 0 + c + a.getD i 0 * b.getD j 0) % 10000)), by simp only; omega,
        ⟨by simp only; omega, by simp [hll], hdl.set _ (by omega) (by omega), by simp only; omega, by simp only; omega, h3⟩, Weak.lo⟩
    · have hjl := hjb (.inr (by omega))
      have hz : b.getD j 0 = 0 := getD_over (by omega)
      have h3 := mul_step (n := l.getD (i + j) 0 + c) (by omega) (by rw [hz, Int.mul_zero]; omega) hvl
      exact ⟨(j + 1, (l.getD (i + j) 0 + c) / 10000, l.set (i + j) ((l.getD (i + j) 0 + c) % 10000)), by simp only; omega,
        ⟨by simp only; omega, by simp [hll], hdl.set _ (by omega) (by omega), by simp only; omega, by simp only; omega, h3⟩, Weak.lo⟩
    · have hc : c = 0 := by omega
      rw [hc, Int.mul_zero, Int.add_zero, List.take_of_length_le (by omega), hv] at hvl
      refine ⟨(i + 1, l), by simp only; omega, ⟨by simp only; omega, hll, hdl, ?_⟩, Weak.lo⟩
      simp only
      rw [hvl, val_take]
      generalize (10000 : Int) ^ i = p
      grind
  · rw [← digs_val hd, hv, List.take_of_length_le (by omega), hvm, hvn]
    congr 4
end Go.PL
