/- A plain machine, sound for the given model, and contracts of functions over it, part 16: A1. Nothing is assumed. -/
import Derived.Test.YtedbifiejciocaeGreatDoorG15
import Derived.Lib.ItoaNum
import Derived.Lib.Bytealg
import Derived.KernelRfl
import Derived.Test.YtedbifiejciocaeGreatDoorProg
set_option linter.unusedSimpArgs false
set_option linter.unusedVariables false
set_option linter.unusedSectionVars false
/- A1 -/
namespace Go.PL
open Go Go.Proofs
set_option maxRecDepth 10000
set_option maxHeartbeats 4000000
set_option linter.unusedSimpArgs false
set_option linter.unusedVariables false
/-- Decimal digits. -/
def digB (n : Nat) : ByteArray := ⟨(Lib.decDigits n).toArray⟩
def itoaB (n : Int) : ByteArray := ⟨(Lib.itoa n).toArray⟩
/-- The library's functions, whose contracts are the shelf's, and some that are walked by themselves. -/
def Xn : Call := fun f a0 os r os' => os = [] ∧ os' = [] ∧
  ((f = 54 ∧ ∃ n : Int, -9223372036854775808 ≤ n ∧ n ≤ 9223372036854775807 ∧ a0 = [.d (.i n)] ∧ r = .d (.s (itoaB n))) ∨
   (f = 32 ∧ ∃ a : List Int, a.length ≤ 1048576 ∧ (∀ x ∈ a, 0 ≤ x ∧ x ≤ 9999) ∧ a0 = [.d (.sl (a.map .i))] ∧ r = .d (.s (natTB a))) ∨
   (f = 93 ∧ ∃ (s : ByteArray) (c : UInt8), a0 = [.d (.s s), .d (.val (.int .u8 (c.toNat : Int)))] ∧ r = .d (.i (Lib.indexByte s.data.toList c))) ∨
   (f = 64 ∧ ∃ l : List UInt8, 1 ≤ l.length ∧ l.length ≤ 18 ∧ (∀ c ∈ l, isDg c) ∧ a0 = [.d (.s (⟨l.toArray⟩))] ∧ r = .tup [.d (.i (dv l)), .d (.val .nilIface)]))

def TT : Tab := ⟨[(3, ⟨1, 8, [.int .i64 0], false, (.int .i64)⟩),
  (4, ⟨1, 1, [.bool false], false, .bool⟩),
  (5, ⟨1, 1, [.int .u8 0], false, (.int .u8)⟩),
  (9, ⟨1, 16, [.string ⟨#[]⟩], false, .str⟩),
  (22, ⟨1, 24, [.slice none 0 0], false, (.sl 5)⟩),
  (23, ⟨1, 24, [.slice none 0 0], false, (.sl 3)⟩),
  (25, ⟨3, 56, [.bool false, .slice none 0 0, .slice none 0 0], true, (.st [(0, 1, false), (1, 1, false), (2, 1, false)])⟩),
  (36, ⟨1, 8, [.pointer none], false, .oth⟩),
  (41, ⟨1, 8, [.nilFunc], false, .oth⟩),
  (50, ⟨1, 8, [.nilFunc], false, .oth⟩),
  (53, ⟨3, 40, [.slice none 0 0, .int .i64 0, .int .i64 0], true, (.st [(0, 1, false), (1, 1, false), (2, 1, false)])⟩),
  (56, ⟨1, 8, [.nilFunc], false, .oth⟩),
  (57, ⟨1, 24, [.slice none 0 0], false, (.sl 25)⟩),
  (79, ⟨2, 32, [.pointer none, .slice none 0 0], true, (.st [(0, 1, false), (1, 1, false)])⟩)], [75], []⟩
instance TT.tg : TG TT ⟨[], []⟩ := ⟨rfl⟩
instance TT.ok : TOk TT Tryz.prog := TOk.of ⟨by kernel_rfl, by kernel_rfl, by kernel_rfl, by kernel_rfl, by kernel_rfl, by kernel_rfl, by kernel_rfl, by kernel_rfl, by kernel_rfl, by kernel_rfl, by kernel_rfl, by kernel_rfl, by kernel_rfl, by kernel_rfl, trivial⟩
theorem i3 : ti TT 3 = some ⟨1, 8, [.int .i64 0], false, (.int .i64)⟩ := rfl
theorem k3 : tk TT 3 = (.int .i64) := rfl
theorem i4 : ti TT 4 = some ⟨1, 1, [.bool false], false, .bool⟩ := rfl
theorem k4 : tk TT 4 = .bool := rfl
theorem i5 : ti TT 5 = some ⟨1, 1, [.int .u8 0], false, (.int .u8)⟩ := rfl
theorem k5 : tk TT 5 = (.int .u8) := rfl
theorem i9 : ti TT 9 = some ⟨1, 16, [.string ⟨#[]⟩], false, .str⟩ := rfl
theorem k9 : tk TT 9 = .str := rfl
theorem i22 : ti TT 22 = some ⟨1, 24, [.slice none 0 0], false, (.sl 5)⟩ := rfl
theorem k22 : tk TT 22 = (.sl 5) := rfl
theorem i23 : ti TT 23 = some ⟨1, 24, [.slice none 0 0], false, (.sl 3)⟩ := rfl
theorem k23 : tk TT 23 = (.sl 3) := rfl
theorem i25 : ti TT 25 = some ⟨3, 56, [.bool false, .slice none 0 0, .slice none 0 0], true, (.st [(0, 1, false), (1, 1, false), (2, 1, false)])⟩ := rfl
theorem k25 : tk TT 25 = (.st [(0, 1, false), (1, 1, false), (2, 1, false)]) := rfl
theorem i36 : ti TT 36 = some ⟨1, 8, [.pointer none], false, .oth⟩ := rfl
theorem k36 : tk TT 36 = .oth := rfl
theorem i41 : ti TT 41 = some ⟨1, 8, [.nilFunc], false, .oth⟩ := rfl
theorem k41 : tk TT 41 = .oth := rfl
theorem i50 : ti TT 50 = some ⟨1, 8, [.nilFunc], false, .oth⟩ := rfl
theorem k50 : tk TT 50 = .oth := rfl
theorem i53 : ti TT 53 = some ⟨3, 40, [.slice none 0 0, .int .i64 0, .int .i64 0], true, (.st [(0, 1, false), (1, 1, false), (2, 1, false)])⟩ := rfl
theorem k53 : tk TT 53 = (.st [(0, 1, false), (1, 1, false), (2, 1, false)]) := rfl
theorem i56 : ti TT 56 = some ⟨1, 8, [.nilFunc], false, .oth⟩ := rfl
theorem k56 : tk TT 56 = .oth := rfl
theorem i57 : ti TT 57 = some ⟨1, 24, [.slice none 0 0], false, (.sl 25)⟩ := rfl
theorem k57 : tk TT 57 = (.sl 25) := rfl
theorem i79 : ti TT 79 = some ⟨2, 32, [.pointer none, .slice none 0 0], true, (.st [(0, 1, false), (1, 1, false)])⟩ := rfl
theorem k79 : tk TT 79 = (.st [(0, 1, false), (1, 1, false)]) := rfl
attribute [go_sem] i3 k3 i4 k4 i5 k5 i9 k9 i22 k22 i23 k23 i25 k25 i36 k36 i41 k41 i50 k50 i53 k53 i56 k56 i57 k57 i79 k79

abbrev CC : Call := Den Tryz.prog TT Xn
abbrev encD (a : List Int) : D := .sl (a.map .i)

instance (b : Bool) : Con CC 59 [.d (.b b)] True (.d (.i (if b then 1 else 0))) := by
  constructor; intro pre
  refine Den.pureI Tryz.func59 rfl 1 [.tmp 2] (by kernel_rfl) rfl rfl (by simp only [initE_nil, initE_cons, Nat.reduceAdd]; exact rfl) ?_
  repeat' first | (with_reducible first | refine nx' ?_ | refine n0 ?_ | refine rD ?_ | refine n1 ?_ | refine nilB_i fun b hb => ?_ | refine nP ?_ ?_ | refine nS fun K hK => ?_ | (refine n2 ?_ ?_ <;> intro h <;> first | subst (h : _ = true) | subst (h : _ = false) | skip) | refine And.intro ?_ ?_ | refine nK ‹Imp _ _› ?_) | exact nl | fail

instance (n a b : Int) : Con CC 58 [.d (.i n), .d (.i a), .d (.i b)] True (.d (.b (decide (a ≤ n) && decide (n ≤ b)))) := by
  constructor; intro pre
  refine Den.pureI Tryz.func58 rfl 3 [.tmp 6] (by kernel_rfl) rfl rfl (by simp only [initE_nil, initE_cons, Nat.reduceAdd]; exact rfl) ?_
  repeat' first | (with_reducible first | refine nx' ?_ | refine n0 ?_ | refine rD ?_ | refine n1 ?_ | refine nilB_i fun b hb => ?_ | refine nP ?_ ?_ | refine nS fun K hK => ?_ | (refine n2 ?_ ?_ <;> intro h <;> first | subst (h : _ = true) | subst (h : _ = false) | skip) | refine And.intro ?_ ?_ | refine nK ‹Imp _ _› ?_) | exact nl | fail
  all_goals (first | omega | exact Or.inr trivial | (congr 3; simp [*]; done) | (congr 3; simp [*]; omega) | skip)

instance (m n : Nat) : Con CC 36 [.d (encD (digs m)), .d (encD (digs n))] ((digs m).length < 4611686018427387904 ∧ (digs n).length < 4611686018427387904) (.d (.i (cmpN m n))) := by
  constructor; intro ⟨hm, hn⟩
  generalize ha : digs m = a at *
  generalize hb : digs n = b at *
  refine Den.pureI Tryz.func36 rfl 2 [.tmp 4] (by kernel_rfl) rfl rfl (by simp only [initE_nil, initE_cons, Nat.reduceAdd]; exact rfl) ?_
  repeat' first | (with_reducible first | refine nx' ?_ | refine n0 ?_ | refine rD ?_ | refine n1 ?_ | refine nilB_i fun b hb => ?_ | refine nP ?_ ?_ | refine nS fun K hK => ?_ | (refine n2 ?_ ?_ <;> intro h <;> first | subst (h : _ = true) | subst (h : _ = false) | skip) | refine And.intro ?_ ?_ | refine nK ‹Imp _ _› ?_) | exact nl | fail
  · congr 3
    subst ha hb
    rw [cmpN_len (by omega)]
    by_cases hc : (digs n).length < (digs m).length
    · rw [if_pos hc, if_pos (by rw [decide_eq_true_eq]; omega)]; rfl
    · rw [if_neg hc, if_neg (by rw [decide_eq_true_eq]; omega)]; rfl
  · refine Wp.loopR (fun k : Int => ⟨[(0, .d (encD a)), (1, .d (encD b)), (5, .d (.i k))], []⟩) (fun k => (k + 1).toNat) (fun k => -1 ≤ k ∧ k < a.length ∧ a.drop (k + 1).toNat = b.drop (k + 1).toNat) ((a.length : Int) - 1)
      Weak.lo ⟨by omega, by omega, by rw [List.drop_of_length_le (by omega), List.drop_of_length_le (by omega)]⟩ ?_
    rintro k ⟨hk0, hk, hd⟩ K hK
    repeat' first | (with_reducible first | refine nx' ?_ | refine n0 ?_ | refine rD ?_ | refine n1 ?_ | refine nilB_i fun b hb => ?_ | refine nP ?_ ?_ | refine nS fun K hK => ?_ | (refine n2 ?_ ?_ <;> intro h <;> first | subst (h : _ = true) | subst (h : _ = false) | skip) | refine And.intro ?_ ?_ | refine nK ‹Imp _ _› ?_) | exact nl | fail
    · have e1 : (k + 1).toNat = k.toNat + 1 := by omega
      subst ha hb
      rw [e1] at hd
      congr 3
      by_cases hc : (digs n).getD k.toNat 0 < (digs m).getD k.toNat 0
      · rw [if_pos (by rw [decide_eq_true_eq]; exact hc), cmpN_gt (by omega) (by omega) hd hc]; rfl
      · rw [if_neg (by rw [decide_eq_true_eq]; exact hc), cmpN_lt (by omega) (by omega) hd (by omega)]; rfl
    · have e1 : (k + 1).toNat = k.toNat + 1 := by omega
      have e2 : (k - 1 + 1).toNat = k.toNat := by omega
      rw [e1] at hd
      exact ⟨k - 1, by omega, ⟨by omega, by omega, by rw [e2]; exact drop_eq (by omega) (by omega) hd h⟩, Weak.lo⟩
    · have e1 : (k + 1).toNat = 0 := by omega
      rw [e1, List.drop_zero, List.drop_zero, ← ha, ← hb] at hd
      have := digs_inj hd
      congr 3
      unfold cmpN; rw [if_neg (by omega), if_pos this]

instance (a : List Int) : Con CC 47 [.d (encD a)] (a.length * 8 ≤ 140737488355328) (.d (encD (trim a))) := by
  constructor; intro hb
  refine Den.pureI Tryz.func47 rfl 1 [.tmp 2] (by kernel_rfl) rfl rfl (by simp only [initE_nil, initE_cons, Nat.reduceAdd]; exact rfl) ?_
  repeat' first | (with_reducible first | refine nx' ?_ | refine n0 ?_ | refine rD ?_ | refine n1 ?_ | refine nilB_i fun b hb => ?_ | refine nP ?_ ?_ | refine nS fun K hK => ?_ | (refine n2 ?_ ?_ <;> intro h <;> first | subst (h : _ = true) | subst (h : _ = false) | skip) | refine And.intro ?_ ?_ | refine nK ‹Imp _ _› ?_) | exact nl | fail
  refine Wp.loopR (fun k : Nat => ⟨[(0, .d (encD a)), (3, .d (.i k))], []⟩) (fun k => k) (fun k => k ≤ a.length ∧ trim (a.take k) = trim a) a.length Weak.lo ⟨Nat.le_refl _, by simp⟩ ?_
  rintro k ⟨hk, ht⟩ K hK
  repeat' first | (with_reducible first | refine nx' ?_ | refine n0 ?_ | refine rD ?_ | refine n1 ?_ | refine nilB_i fun b hb => ?_ | refine nP ?_ ?_ | refine nS fun K hK => ?_ | (refine n2 ?_ ?_ <;> intro h <;> first | subst (h : _ = true) | subst (h : _ = false) | skip) | refine And.intro ?_ ?_ | refine nK ‹Imp _ _› ?_) | exact nl | fail
  · exact ⟨k - 1, by omega, ⟨by omega, by rw [trim_take_zero (by omega) hk (by rw [← h]; congr 1; omega), ht]⟩, (Weak.low (by simp -implicitDefEqProofs (disch := omega) only [go_sem, sub_nil, sub_cons, LX, show ((k - 1 : Nat) : Int) = (k : Int) - 1 by omega]; try ((repeat' refine And.intro ?_ ?_) <;> first | rfl | trivial | (congr 3; omega) | (congr 1; omega))))⟩
  · rw [← ht, trim_take_ne (by omega) hk (by intro e; exact h (by rw [← e]; congr 1; omega))]
  · obtain rfl : k = 0 := by omega
    rw [← ht]; rfl

instance (n : Nat) : Con CC 71 [.d (.i n)] (n < 1000000000000) (.d (encD (digs n))) := by
  constructor; intro hn
  refine Den.pureI Tryz.func71 rfl 1 [.tmp 2] (by kernel_rfl) rfl rfl (by simp only [initE_nil, initE_cons, Nat.reduceAdd]; exact rfl) ?_
  repeat' first | (with_reducible first | refine nx' ?_ | refine n0 ?_ | refine rD ?_ | refine n1 ?_ | refine nilB_i fun b hb => ?_ | refine nP ?_ ?_ | refine nS fun K hK => ?_ | (refine n2 ?_ ?_ <;> intro h <;> first | subst (h : _ = true) | subst (h : _ = false) | skip) | refine And.intro ?_ ?_ | refine nK ‹Imp _ _› ?_) | exact nl | fail
  refine Wp.loopR (fun x : Nat × List Int => ⟨[(0, .d (.i x.1)), (3, .msl 0 0 x.2.length)], [.arr 1 (x.2.map .i) false]⟩) (fun x => x.1) (fun x => x.2 ++ digs x.1 = digs n ∧ x.1 ≤ n) (n, []) Weak.lo ⟨by simp, Nat.le_refl _⟩ ?_
  rintro ⟨k, l⟩ ⟨hl, hk⟩ K hK
  simp only at hl hk ⊢
  have hlen : l.length + (digs k).length = (digs n).length := by rw [← hl, List.length_append]
  have hlen2 : (digs n).length ≤ 3 := digs_len_le (by simpa using hn)
  have e1 : (k : Int).tdiv 10000 = ((k / 10000 : Nat) : Int) := tdiv_nat k 10000
  have e2 : (k : Int).tmod 10000 = ((k % 10000 : Nat) : Int) := tmod_nat k 10000
  repeat' first | (with_reducible first | refine nx' ?_ (by simp -implicitDefEqProofs (disch := omega) only [go_sem, e1, e2]; exact rfl) | refine n0 ?_ | refine rD ?_ | refine n1 ?_ | refine nilB_i fun b hb => ?_ | refine nP ?_ ?_ | refine nS fun K hK => ?_ | (refine n2 ?_ ?_ <;> intro h <;> first | subst (h : _ = true) | subst (h : _ = false) | (simp only [FX, LX, e1, e2] at h) | skip) | refine And.intro ?_ ?_ | refine nK ‹Imp _ _› ?_) | exact nl | fail
  · refine ⟨(k / 10000, l ++ [((k % 10000 : Nat) : Int)]), by simp only; omega, ⟨?_, by simp only; omega⟩, Weak.cu⟩
    simp only
    rw [← hl, digs_pos (by omega : 0 < k)]; simp
  · obtain rfl : k = 0 := by omega
    rw [digs_zero, List.append_nil] at hl
    rw [hl]
end Go.PL
