/- A plain machine, sound for the given model, and contracts of functions over it, part 17: A1. Nothing is assumed. -/
import Derived.Test.YtapgbbaefieibabGreatDoorPlText
import Derived.Test.YtapgbbaefieibabGreatDoorG16
import Derived.Lib.ItoaNum
import Derived.Lib.Join
import Derived.KernelRfl
import Derived.Test.YtapgbbaefieibabGreatDoorProg
set_option linter.unusedSimpArgs false
set_option linter.unusedVariables false
set_option linter.unusedSectionVars false
/- A1 -/
namespace Go.PL
open Go Go.Proofs
set_option maxRecDepth 10000
set_option maxHeartbeats 4000000
set_option linter.unusedSimpArgs false
set_option linter.unusedVariables false
/-- The words of statuses and of solvers. -/
def stW : List ByteArray := [⟨#[103, 111, 105, 110, 103]⟩, ⟨#[100, 111, 110, 101]⟩, ⟨#[108, 105, 109, 105, 116]⟩, ⟨#[115, 101, 97, 114, 99, 104]⟩, ⟨#[98, 117, 100, 103, 101, 116]⟩, ⟨#[100, 111, 109, 97, 105, 110]⟩, ⟨#[98, 111, 120]⟩]
def soW : List ByteArray := [⟨#[]⟩, ⟨#[100, 101, 115, 99, 101, 110, 116]⟩, ⟨#[99, 111, 110, 106, 117, 103, 97, 116, 101]⟩, ⟨#[112, 114, 111, 106, 101, 99, 116]⟩, ⟨#[110, 101, 119, 116, 111, 110]⟩]
/-- Decimal digits. -/
def digB (n : Nat) : ByteArray := ⟨(Lib.decDigits n).toArray⟩
def itoaB (n : Int) : ByteArray := ⟨(Lib.itoa n).toArray⟩
/-- Words with a word between each two. -/
def joinB (ws : List ByteArray) (sep : ByteArray) : ByteArray := ⟨(Lib.join (ws.map (·.data.toList)) sep.data.toList).toArray⟩
/-- The library's functions, whose contracts are the shelf's, and some that are walked by themselves. -/
def Xn : Call := fun f a0 os r os' => os = [] ∧ os' = [] ∧
  ((f = 45 ∧ ∃ n : Int, -9223372036854775808 ≤ n ∧ n ≤ 9223372036854775807 ∧ a0 = [.d (.i n)] ∧ r = .d (.s (itoaB n))) ∨
   (f = 60 ∧ ∃ a : List Int, a.length ≤ 1048576 ∧ (∀ x ∈ a, 0 ≤ x ∧ x ≤ 9999) ∧ a0 = [.d (.sl (a.map .i))] ∧ r = .d (.s (natTB a))) ∨
   (f = 63 ∧ ∃ (ws : List ByteArray) (s : ByteArray), ws.length ≤ 1048576 ∧ (Lib.join (ws.map (·.data.toList)) s.data.toList).length ≤ 140737488355328 ∧ a0 = [.d (.sl (ws.map .s)), .d (.s s)] ∧ r = .d (.s (joinB ws s))))

def TT : Tab := ⟨[(3, ⟨1, 8, [.int .i64 0], false, (.int .i64)⟩),
  (4, ⟨1, 1, [.bool false], false, .bool⟩),
  (5, ⟨1, 1, [.int .u8 0], false, (.int .u8)⟩),
  (9, ⟨1, 16, [.string ⟨#[]⟩], false, .str⟩),
  (22, ⟨1, 24, [.slice none 0 0], false, (.sl 53)⟩),
  (24, ⟨2, 32, [.int .i64 0, .slice none 0 0], true, (.st [(0, 1, false), (1, 1, false)])⟩),
  (26, ⟨1, 24, [.slice none 0 0], false, (.sl 9)⟩),
  (29, ⟨1, 24, [.slice none 0 0], false, (.sl 57)⟩),
  (31, ⟨2, 32, [.int .i64 0, .slice none 0 0], true, (.st [(0, 1, false), (1, 1, false)])⟩),
  (48, ⟨1, 24, [.slice none 0 0], false, (.sl 51)⟩),
  (49, ⟨1, 24, [.slice none 0 0], false, (.sl 3)⟩),
  (51, ⟨3, 56, [.bool false, .slice none 0 0, .slice none 0 0], true, (.st [(0, 1, false), (1, 1, false), (2, 1, false)])⟩),
  (53, ⟨6, 96, [.int .i64 0, .int .i64 0, .slice none 0 0, .bool false, .slice none 0 0, .slice none 0 0], true, (.st [(0, 1, false), (1, 1, false), (2, 1, false), (3, 3, true)])⟩),
  (54, ⟨1, 24, [.slice none 0 0], false, (.sl 55)⟩),
  (55, ⟨3, 56, [.bool false, .slice none 0 0, .slice none 0 0], true, (.st [(0, 1, false), (1, 1, false), (2, 1, false)])⟩),
  (57, ⟨6, 96, [.int .i64 0, .int .i64 0, .slice none 0 0, .bool false, .slice none 0 0, .slice none 0 0], true, (.st [(0, 1, false), (1, 1, false), (2, 1, false), (3, 3, true)])⟩),
  (67, ⟨1, 24, [.slice none 0 0], false, (.sl 5)⟩),
  (71, ⟨1, 8, [.nilFunc], false, .oth⟩),
  (94, ⟨2, 32, [.pointer none, .slice none 0 0], true, (.st [(0, 1, false), (1, 1, false)])⟩),
  (107, ⟨1, 8, [.nilFunc], false, .oth⟩)], [90], [(0, [.sl (stW.map .s)])], []⟩
theorem evg_0 {env : List (Nat × V)} : evg TT env (.global 0) = .d (.ptr [.sl (stW.map .s)]) := rfl
attribute [go_sem] evg_0
instance TT.ok : TOk TT Tryz.prog := TOk.of ⟨by kernel_rfl, by kernel_rfl, by kernel_rfl, by kernel_rfl, by kernel_rfl, by kernel_rfl, by kernel_rfl, by kernel_rfl, by kernel_rfl, by kernel_rfl, by kernel_rfl, by kernel_rfl, by kernel_rfl, by kernel_rfl, by kernel_rfl, by kernel_rfl, by kernel_rfl, by kernel_rfl, by kernel_rfl, by kernel_rfl, trivial⟩
theorem i3 : ti TT 3 = some ⟨1, 8, [.int .i64 0], false, (.int .i64)⟩ := rfl
theorem k3 : tk TT 3 = (.int .i64) := rfl
theorem ke3 : tkE TT 3 = (.int .i64) := rfl
theorem i4 : ti TT 4 = some ⟨1, 1, [.bool false], false, .bool⟩ := rfl
theorem k4 : tk TT 4 = .bool := rfl
theorem ke4 : tkE TT 4 = .bool := rfl
theorem i5 : ti TT 5 = some ⟨1, 1, [.int .u8 0], false, (.int .u8)⟩ := rfl
theorem k5 : tk TT 5 = (.int .u8) := rfl
theorem ke5 : tkE TT 5 = (.int .u8) := rfl
theorem i9 : ti TT 9 = some ⟨1, 16, [.string ⟨#[]⟩], false, .str⟩ := rfl
theorem k9 : tk TT 9 = .str := rfl
theorem ke9 : tkE TT 9 = .str := rfl
theorem i22 : ti TT 22 = some ⟨1, 24, [.slice none 0 0], false, (.sl 53)⟩ := rfl
theorem k22 : tk TT 22 = (.sl 53) := rfl
theorem ke22 : tkE TT 22 = (.sl 53) := rfl
theorem i24 : ti TT 24 = some ⟨2, 32, [.int .i64 0, .slice none 0 0], true, (.st [(0, 1, false), (1, 1, false)])⟩ := rfl
theorem k24 : tk TT 24 = (.st [(0, 1, false), (1, 1, false)]) := rfl
theorem ke24 : tkE TT 24 = (.st [(0, 1, false), (1, 1, false)]) := rfl
theorem i26 : ti TT 26 = some ⟨1, 24, [.slice none 0 0], false, (.sl 9)⟩ := rfl
theorem k26 : tk TT 26 = (.sl 9) := rfl
theorem ke26 : tkE TT 26 = (.sl 9) := rfl
theorem i29 : ti TT 29 = some ⟨1, 24, [.slice none 0 0], false, (.sl 57)⟩ := rfl
theorem k29 : tk TT 29 = (.sl 57) := rfl
theorem ke29 : tkE TT 29 = (.sl 57) := rfl
theorem i31 : ti TT 31 = some ⟨2, 32, [.int .i64 0, .slice none 0 0], true, (.st [(0, 1, false), (1, 1, false)])⟩ := rfl
theorem k31 : tk TT 31 = (.st [(0, 1, false), (1, 1, false)]) := rfl
theorem ke31 : tkE TT 31 = (.st [(0, 1, false), (1, 1, false)]) := rfl
theorem i48 : ti TT 48 = some ⟨1, 24, [.slice none 0 0], false, (.sl 51)⟩ := rfl
theorem k48 : tk TT 48 = (.sl 51) := rfl
theorem ke48 : tkE TT 48 = (.sl 51) := rfl
theorem i49 : ti TT 49 = some ⟨1, 24, [.slice none 0 0], false, (.sl 3)⟩ := rfl
theorem k49 : tk TT 49 = (.sl 3) := rfl
theorem ke49 : tkE TT 49 = (.sl 3) := rfl
theorem i51 : ti TT 51 = some ⟨3, 56, [.bool false, .slice none 0 0, .slice none 0 0], true, (.st [(0, 1, false), (1, 1, false), (2, 1, false)])⟩ := rfl
theorem k51 : tk TT 51 = (.st [(0, 1, false), (1, 1, false), (2, 1, false)]) := rfl
theorem ke51 : tkE TT 51 = (.st [(0, 1, false), (1, 1, false), (2, 1, false)]) := rfl
theorem i53 : ti TT 53 = some ⟨6, 96, [.int .i64 0, .int .i64 0, .slice none 0 0, .bool false, .slice none 0 0, .slice none 0 0], true, (.st [(0, 1, false), (1, 1, false), (2, 1, false), (3, 3, true)])⟩ := rfl
theorem k53 : tk TT 53 = (.st [(0, 1, false), (1, 1, false), (2, 1, false), (3, 3, true)]) := rfl
theorem ke53 : tkE TT 53 = (.st [(0, 1, false), (1, 1, false), (2, 1, false), (3, 3, true)]) := rfl
theorem i54 : ti TT 54 = some ⟨1, 24, [.slice none 0 0], false, (.sl 55)⟩ := rfl
theorem k54 : tk TT 54 = (.sl 55) := rfl
theorem ke54 : tkE TT 54 = (.sl 55) := rfl
theorem i55 : ti TT 55 = some ⟨3, 56, [.bool false, .slice none 0 0, .slice none 0 0], true, (.st [(0, 1, false), (1, 1, false), (2, 1, false)])⟩ := rfl
theorem k55 : tk TT 55 = (.st [(0, 1, false), (1, 1, false), (2, 1, false)]) := rfl
theorem ke55 : tkE TT 55 = (.st [(0, 1, false), (1, 1, false), (2, 1, false)]) := rfl
theorem i57 : ti TT 57 = some ⟨6, 96, [.int .i64 0, .int .i64 0, .slice none 0 0, .bool false, .slice none 0 0, .slice none 0 0], true, (.st [(0, 1, false), (1, 1, false), (2, 1, false), (3, 3, true)])⟩ := rfl
theorem k57 : tk TT 57 = (.st [(0, 1, false), (1, 1, false), (2, 1, false), (3, 3, true)]) := rfl
theorem ke57 : tkE TT 57 = (.st [(0, 1, false), (1, 1, false), (2, 1, false), (3, 3, true)]) := rfl
theorem i67 : ti TT 67 = some ⟨1, 24, [.slice none 0 0], false, (.sl 5)⟩ := rfl
theorem k67 : tk TT 67 = (.sl 5) := rfl
theorem ke67 : tkE TT 67 = (.sl 5) := rfl
theorem i71 : ti TT 71 = some ⟨1, 8, [.nilFunc], false, .oth⟩ := rfl
theorem k71 : tk TT 71 = .oth := rfl
theorem ke71 : tkE TT 71 = .oth := rfl
theorem i94 : ti TT 94 = some ⟨2, 32, [.pointer none, .slice none 0 0], true, (.st [(0, 1, false), (1, 1, false)])⟩ := rfl
theorem k94 : tk TT 94 = (.st [(0, 1, false), (1, 1, false)]) := rfl
theorem ke94 : tkE TT 94 = (.st [(0, 1, false), (1, 1, false)]) := rfl
theorem i107 : ti TT 107 = some ⟨1, 8, [.nilFunc], false, .oth⟩ := rfl
theorem k107 : tk TT 107 = .oth := rfl
theorem ke107 : tkE TT 107 = .oth := rfl
attribute [go_sem] i3 k3 ke3 i4 k4 ke4 i5 k5 ke5 i9 k9 ke9 i22 k22 ke22 i24 k24 ke24 i26 k26 ke26 i29 k29 ke29 i31 k31 ke31 i48 k48 ke48 i49 k49 ke49 i51 k51 ke51 i53 k53 ke53 i54 k54 ke54 i55 k55 ke55 i57 k57 ke57 i67 k67 ke67 i71 k71 ke71 i94 k94 ke94 i107 k107 ke107

abbrev CC : Call := Den Tryz.prog TT Xn
abbrev encD (a : List Int) : D := .sl (a.map .i)

instance (b : Bool) : Con CC 65 [.d (.b b)] True (.d (.i (if b then 1 else 0))) := by
  constructor; intro pre
  refine Den.pureI Tryz.func65 rfl 1 [.tmp 2] (by kernel_rfl) rfl rfl (by simp only [initE_nil, initE_cons, Nat.reduceAdd]; exact rfl) ?_
  repeat' first | (with_reducible first | refine nx' ?_ | refine n0 ?_ | refine rD ?_ | refine n1 ?_ | refine nilB_i fun b hb => ?_ | refine nP ?_ ?_ | refine nS fun K hK => ?_ | (refine n2 ?_ ?_ <;> intro h <;> first | subst (h : _ = true) | subst (h : _ = false) | skip) | refine And.intro ?_ ?_ | refine nK ‹Imp _ _› ?_) | exact nl | fail

instance (n a b : Int) : Con CC 24 [.d (.i n), .d (.i a), .d (.i b)] True (.d (.b (decide (a ≤ n) && decide (n ≤ b)))) := by
  constructor; intro pre
  refine Den.pureI Tryz.func24 rfl 3 [.tmp 6] (by kernel_rfl) rfl rfl (by simp only [initE_nil, initE_cons, Nat.reduceAdd]; exact rfl) ?_
  repeat' first | (with_reducible first | refine nx' ?_ | refine n0 ?_ | refine rD ?_ | refine n1 ?_ | refine nilB_i fun b hb => ?_ | refine nP ?_ ?_ | refine nS fun K hK => ?_ | (refine n2 ?_ ?_ <;> intro h <;> first | subst (h : _ = true) | subst (h : _ = false) | skip) | refine And.intro ?_ ?_ | refine nK ‹Imp _ _› ?_) | exact nl | fail
  all_goals (first | omega | exact Or.inr trivial | (congr 3; simp [*]; done) | (congr 3; simp [*]; omega) | skip)

instance (m n : Nat) : Con CC 52 [.d (encD (digs m)), .d (encD (digs n))] ((digs m).length < 4611686018427387904 ∧ (digs n).length < 4611686018427387904) (.d (.i (cmpN m n))) := by
  constructor; intro ⟨hm, hn⟩
  generalize ha : digs m = a at *
  generalize hb : digs n = b at *
  refine Den.pureI Tryz.func52 rfl 2 [.tmp 4] (by kernel_rfl) rfl rfl (by simp only [initE_nil, initE_cons, Nat.reduceAdd]; exact rfl) ?_
  repeat' first | (with_reducible first | refine nx' ?_ | refine n0 ?_ | refine rD ?_ | refine n1 ?_ | refine nilB_i fun b hb => ?_ | refine nP ?_ ?_ | refine nS fun K hK => ?_ | (refine n2 ?_ ?_ <;> intro h <;> first | subst (h : _ = true) | subst (h : _ = false) | skip) | refine And.intro ?_ ?_ | refine nK ‹Imp _ _› ?_) | exact nl | fail
  · congr 3
    subst ha hb
    rw [cmpN_len (by omega)]
    by_cases hc : (digs n).length < (digs m).length
    · rw [if_pos hc, if_pos (by rw [decide_eq_true_eq]; omega)]; rfl
    · rw [if_neg hc, if_neg (by rw [decide_eq_true_eq]; omega)]; rfl
  · refine Wp.loopR (fun k : Int => ⟨[(0, .d (encD a)), (1, .d (encD b)), (5, .d (.i k))], []⟩) (fun k => (k + 1).toNat) (fun k => -1 ≤ k ∧ k < a.length ∧ a.drop (k + 1).toNat = b.drop (k + 1).toNat) ((a.length : Int) - 1)
      Weak.lo ⟨by omega, by omega, by rw [List.drop_of_length_le (by omega), List.drop_of_length_le (by omega)]⟩ ?_
    rintro k ⟨hk0, hk, hd⟩ K hK
    repeat' first | (with_reducible first | refine nx' ?_ | refine n0 ?_ | refine rD ?_ | refine n1 ?_ | refine nilB_i fun b hb => ?_ | refine nP ?_ ?_ | refine nS fun K hK => ?_ | (refine n2 ?_ ?_ <;> intro h <;> first | subst (h : _ = true) | subst (h : _ = false) | skip) | refine And.intro ?_ ?_ | refine nK ‹Imp _ _› ?_) | exact nl | fail
    · have e1 : (k + 1).toNat = k.toNat + 1 := by omega
      subst ha hb
      rw [e1] at hd
      congr 3
      by_cases hc : (digs n).getD k.toNat 0 < (digs m).getD k.toNat 0
      · rw [if_pos (by rw [decide_eq_true_eq]; exact hc), cmpN_gt (by omega) (by omega) hd hc]; rfl
      · rw [if_neg (by rw [decide_eq_true_eq]; exact hc), cmpN_lt (by omega) (by omega) hd (by omega)]; rfl
    · have e1 : (k + 1).toNat = k.toNat + 1 := by omega
      have e2 : (k - 1 + 1).toNat = k.toNat := by omega
      rw [e1] at hd
      exact ⟨k - 1, by omega, ⟨by omega, by omega, by rw [e2]; exact drop_eq (by omega) (by omega) hd h⟩, Weak.lo⟩
    · have e1 : (k + 1).toNat = 0 := by omega
      rw [e1, List.drop_zero, List.drop_zero, ← ha, ← hb] at hd
      have := digs_inj hd
      congr 3
      unfold cmpN; rw [if_neg (by omega), if_pos this]

instance (a : List Int) : Con CC 77 [.d (encD a)] (a.length * 8 ≤ 140737488355328) (.d (encD (trim a))) := by
  constructor; intro hb
  refine Den.pureI Tryz.func77 rfl 1 [.tmp 2] (by kernel_rfl) rfl rfl (by simp only [initE_nil, initE_cons, Nat.reduceAdd]; exact rfl) ?_
  repeat' first | (with_reducible first | refine nx' ?_ | refine n0 ?_ | refine rD ?_ | refine n1 ?_ | refine nilB_i fun b hb => ?_ | refine nP ?_ ?_ | refine nS fun K hK => ?_ | (refine n2 ?_ ?_ <;> intro h <;> first | subst (h : _ = true) | subst (h : _ = false) | skip) | refine And.intro ?_ ?_ | refine nK ‹Imp _ _› ?_) | exact nl | fail
  refine Wp.loopR (fun k : Nat => ⟨[(0, .d (encD a)), (3, .d (.i k))], []⟩) (fun k => k) (fun k => k ≤ a.length ∧ trim (a.take k) = trim a) a.length Weak.lo ⟨Nat.le_refl _, by simp⟩ ?_
  rintro k ⟨hk, ht⟩ K hK
  repeat' first | (with_reducible first | refine nx' ?_ | refine n0 ?_ | refine rD ?_ | refine n1 ?_ | refine nilB_i fun b hb => ?_ | refine nP ?_ ?_ | refine nS fun K hK => ?_ | (refine n2 ?_ ?_ <;> intro h <;> first | subst (h : _ = true) | subst (h : _ = false) | skip) | refine And.intro ?_ ?_ | refine nK ‹Imp _ _› ?_) | exact nl | fail
  · exact ⟨k - 1, by omega, ⟨by omega, by rw [trim_take_zero (by omega) hk (by rw [← h]; congr 1; omega), ht]⟩, (Weak.low (by simp -implicitDefEqProofs (disch := omega) only [go_sem, sub_nil, sub_cons, LX, show ((k - 1 : Nat) : Int) = (k : Int) - 1 by omega]; try ((repeat' refine And.intro ?_ ?_) <;> first | rfl | trivial | (congr 3; omega) | (congr 1; omega))))⟩
  · rw [← ht, trim_take_ne (by omega) hk (by intro e; exact h (by rw [← e]; congr 1; omega))]
  · obtain rfl : k = 0 := by omega
    rw [← ht]; rfl

instance (n : Nat) : Con CC 79 [.d (.i n)] (n < 1000000000000) (.d (encD (digs n))) := by
  constructor; intro hn
  refine Den.pureI Tryz.func79 rfl 1 [.tmp 2] (by kernel_rfl) rfl rfl (by simp only [initE_nil, initE_cons, Nat.reduceAdd]; exact rfl) ?_
  repeat' first | (with_reducible first | refine nx' ?_ | refine n0 ?_ | refine rD ?_ | refine n1 ?_ | refine nilB_i fun b hb => ?_ | refine nP ?_ ?_ | refine nS fun K hK => ?_ | (refine n2 ?_ ?_ <;> intro h <;> first | subst (h : _ = true) | subst (h : _ = false) | skip) | refine And.intro ?_ ?_ | refine nK ‹Imp _ _› ?_) | exact nl | fail
  refine Wp.loopR (fun x : Nat × List Int => ⟨[(0, .d (.i x.1)), (3, .msl 0 0 x.2.length)], [.arr 1 (x.2.map .i) false]⟩) (fun x => x.1) (fun x => x.2 ++ digs x.1 = digs n ∧ x.1 ≤ n) (n, []) Weak.lo ⟨by simp, Nat.le_refl _⟩ ?_
  rintro ⟨k, l⟩ ⟨hl, hk⟩ K hK
  simp only at hl hk ⊢
  have hlen : l.length + (digs k).length = (digs n).length := by rw [← hl, List.length_append]
  have hlen2 : (digs n).length ≤ 3 := digs_len_le (by simpa using hn)
  have e1 : (k : Int).tdiv 10000 = ((k / 10000 : Nat) : Int) := tdiv_nat k 10000
  have e2 : (k : Int).tmod 10000 = ((k % 10000 : Nat) : Int) := tmod_nat k 10000
  repeat' first | (with_reducible first | refine nx' ?_ (by simp -implicitDefEqProofs (disch := omega) only [go_sem, e1, e2]; exact rfl) | refine n0 ?_ | refine rD ?_ | refine n1 ?_ | refine nilB_i fun b hb => ?_ | refine nP ?_ ?_ | refine nS fun K hK => ?_ | (refine n2 ?_ ?_ <;> intro h <;> first | subst (h : _ = true) | subst (h : _ = false) | (simp only [FX, LX, e1, e2] at h) | skip) | refine And.intro ?_ ?_ | refine nK ‹Imp _ _› ?_) | exact nl | fail
  · refine ⟨(k / 10000, l ++ [((k % 10000 : Nat) : Int)]), by simp only; omega, ⟨?_, by simp only; omega⟩, Weak.cu⟩
    simp only
    rw [← hl, digs_pos (by omega : 0 < k)]; simp
  · obtain rfl : k = 0 := by omega
    rw [digs_zero, List.append_nil] at hl
    rw [hl]
end Go.PL
