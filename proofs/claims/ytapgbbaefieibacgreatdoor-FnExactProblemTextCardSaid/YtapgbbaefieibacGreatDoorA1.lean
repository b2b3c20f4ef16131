/- A plain machine, sound for the given model, and contracts of functions over it, part 17: A1. Nothing is assumed. -/
import Derived.Test.YtapgbbaefieibacGreatDoorPlText
import Derived.Test.YtapgbbaefieibacGreatDoorG16
import Derived.Lib.ItoaNum
import Derived.Lib.Join
import Derived.KernelRfl
import Derived.Test.YtapgbbaefieibacGreatDoorProg
set_option linter.unusedSimpArgs false
set_option linter.unusedVariables false
set_option linter.unusedSectionVars false
/- A1 -/
namespace Go.PL
open Go Go.Proofs
set_option maxRecDepth 10000
set_option maxHeartbeats 4000000
set_option linter.unusedSimpArgs false
set_option linter.unusedVariables false
/-- The words of statuses and of solvers. -/
def stW : List ByteArray := [⟨#[103, 111, 105, 110, 103]⟩, ⟨#[100, 111, 110, 101]⟩, ⟨#[108, 105, 109, 105, 116]⟩, ⟨#[115, 101, 97, 114, 99, 104]⟩, ⟨#[98, 117, 100, 103, 101, 116]⟩, ⟨#[100, 111, 109, 97, 105, 110]⟩, ⟨#[98, 111, 120]⟩]
def soW : List ByteArray := [⟨#[]⟩, ⟨#[100, 101, 115, 99, 101, 110, 116]⟩, ⟨#[99, 111, 110, 106, 117, 103, 97, 116, 101]⟩, ⟨#[112, 114, 111, 106, 101, 99, 116]⟩, ⟨#[110, 101, 119, 116, 111, 110]⟩]
/-- Decimal digits. -/
def digB (n : Nat) : ByteArray := ⟨(Lib.decDigits n).toArray⟩
def itoaB (n : Int) : ByteArray := ⟨(Lib.itoa n).toArray⟩
/-- Words with a word between each two. -/
def joinB (ws : List ByteArray) (sep : ByteArray) : ByteArray := ⟨(Lib.join (ws.map (·.data.toList)) sep.data.toList).toArray⟩
/-- An operation's sign. -/
def signB (o : Int) : ByteArray := if o = 3 then ⟨#[43]⟩ else if o = 4 then ⟨#[45]⟩ else if o = 5 then ⟨#[42]⟩ else ⟨#[47]⟩
/-- The library's functions, whose contracts are the shelf's, and some that are walked by themselves. -/
def Xn : Call := fun f a0 os r os' => os = [] ∧ os' = [] ∧
  ((f = 53 ∧ ∃ n : Int, -9223372036854775808 ≤ n ∧ n ≤ 9223372036854775807 ∧ a0 = [.d (.i n)] ∧ r = .d (.s (itoaB n))) ∨
   (f = 80 ∧ ∃ a : List Int, a.length ≤ 1048576 ∧ (∀ x ∈ a, 0 ≤ x ∧ x ≤ 9999) ∧ a0 = [.d (.sl (a.map .i))] ∧ r = .d (.s (natTB a))) ∨
   (f = 79 ∧ ∃ (ws : List ByteArray) (s : ByteArray), ws.length ≤ 1048576 ∧ (Lib.join (ws.map (·.data.toList)) s.data.toList).length ≤ 140737488355328 ∧ a0 = [.d (.sl (ws.map .s)), .d (.s s)] ∧ r = .d (.s (joinB ws s))) ∨
   (f = 99 ∧ ∃ o a b n : Int, 3 ≤ o ∧ o ≤ 6 ∧ a0 = [.d (.agg [.i o, .i a, .i b, .i n])] ∧ r = .d (.s (signB o))))

def TT : Tab := ⟨[(3, ⟨1, 8, [.int .i64 0], false, (.int .i64)⟩),
  (4, ⟨1, 1, [.bool false], false, .bool⟩),
  (5, ⟨1, 1, [.int .u8 0], false, (.int .u8)⟩),
  (9, ⟨1, 16, [.string ⟨#[]⟩], false, .str⟩),
  (22, ⟨1, 24, [.slice none 0 0], false, (.sl 97)⟩),
  (24, ⟨1, 24, [.slice none 0 0], true, (.st [(0, 1, false)])⟩),
  (25, ⟨1, 24, [.slice none 0 0], false, (.sl 28)⟩),
  (26, ⟨1, 24, [.slice none 0 0], false, (.sl 3)⟩),
  (28, ⟨3, 56, [.bool false, .slice none 0 0, .slice none 0 0], true, (.st [(0, 1, false), (1, 1, false), (2, 1, false)])⟩),
  (30, ⟨10, 176, [.slice none 0 0, .slice none 0 0, .slice none 0 0, .slice none 0 0, .int .i64 0, .bool false, .slice none 0 0, .slice none 0 0, .int .i64 0, .int .i64 0], true, (.st [(0, 1, true), (1, 1, false), (2, 1, false), (3, 1, false), (4, 1, false), (5, 3, true), (8, 1, false), (9, 1, false)])⟩),
  (32, ⟨1, 24, [.slice none 0 0], false, (.sl 9)⟩),
  (35, ⟨1, 24, [.slice none 0 0], false, (.sl 87)⟩),
  (37, ⟨1, 24, [.slice none 0 0], true, (.st [(0, 1, false)])⟩),
  (38, ⟨1, 24, [.slice none 0 0], false, (.sl 39)⟩),
  (39, ⟨3, 56, [.bool false, .slice none 0 0, .slice none 0 0], true, (.st [(0, 1, false), (1, 1, false), (2, 1, false)])⟩),
  (41, ⟨10, 176, [.slice none 0 0, .slice none 0 0, .slice none 0 0, .slice none 0 0, .int .i64 0, .bool false, .slice none 0 0, .slice none 0 0, .int .i64 0, .int .i64 0], true, (.st [(0, 1, true), (1, 1, false), (2, 1, false), (3, 1, false), (4, 1, false), (5, 3, true), (8, 1, false), (9, 1, false)])⟩),
  (71, ⟨1, 8, [.nilFunc], false, .oth⟩),
  (85, ⟨1, 24, [.slice none 0 0], false, (.sl 5)⟩),
  (87, ⟨4, 32, [.int .i64 0, .int .i64 0, .int .i64 0, .int .i64 0], true, (.st [(0, 1, false), (1, 1, false), (2, 1, false), (3, 1, false)])⟩),
  (89, ⟨1, 8, [.nilFunc], false, .oth⟩),
  (97, ⟨4, 32, [.int .i64 0, .int .i64 0, .int .i64 0, .int .i64 0], true, (.st [(0, 1, false), (1, 1, false), (2, 1, false), (3, 1, false)])⟩),
  (111, ⟨1, 24, [.slice none 0 0], false, (.sl 38)⟩),
  (116, ⟨2, 32, [.pointer none, .slice none 0 0], true, (.st [(0, 1, false), (1, 1, false)])⟩)], [123], [(0, [.sl (soW.map .s)])], []⟩
theorem evg_0 {env : List (Nat × V)} : evg TT env (.global 0) = .d (.ptr [.sl (soW.map .s)]) := rfl
attribute [go_sem] evg_0
instance TT.ok : TOk TT Tryz.prog := TOk.of ⟨by kernel_rfl, by kernel_rfl, by kernel_rfl, by kernel_rfl, by kernel_rfl, by kernel_rfl, by kernel_rfl, by kernel_rfl, by kernel_rfl, by kernel_rfl, by kernel_rfl, by kernel_rfl, by kernel_rfl, by kernel_rfl, by kernel_rfl, by kernel_rfl, by kernel_rfl, by kernel_rfl, by kernel_rfl, by kernel_rfl, by kernel_rfl, by kernel_rfl, by kernel_rfl, trivial⟩
theorem i3 : ti TT 3 = some ⟨1, 8, [.int .i64 0], false, (.int .i64)⟩ := rfl
theorem k3 : tk TT 3 = (.int .i64) := rfl
theorem ke3 : tkE TT 3 = (.int .i64) := rfl
theorem i4 : ti TT 4 = some ⟨1, 1, [.bool false], false, .bool⟩ := rfl
theorem k4 : tk TT 4 = .bool := rfl
theorem ke4 : tkE TT 4 = .bool := rfl
theorem i5 : ti TT 5 = some ⟨1, 1, [.int .u8 0], false, (.int .u8)⟩ := rfl
theorem k5 : tk TT 5 = (.int .u8) := rfl
theorem ke5 : tkE TT 5 = (.int .u8) := rfl
theorem i9 : ti TT 9 = some ⟨1, 16, [.string ⟨#[]⟩], false, .str⟩ := rfl
theorem k9 : tk TT 9 = .str := rfl
theorem ke9 : tkE TT 9 = .str := rfl
theorem i22 : ti TT 22 = some ⟨1, 24, [.slice none 0 0], false, (.sl 97)⟩ := rfl
theorem k22 : tk TT 22 = (.sl 97) := rfl
theorem ke22 : tkE TT 22 = (.sl 97) := rfl
theorem i24 : ti TT 24 = some ⟨1, 24, [.slice none 0 0], true, (.st [(0, 1, false)])⟩ := rfl
theorem k24 : tk TT 24 = (.st [(0, 1, false)]) := rfl
theorem ke24 : tkE TT 24 = (.st [(0, 1, false)]) := rfl
theorem i25 : ti TT 25 = some ⟨1, 24, [.slice none 0 0], false, (.sl 28)⟩ := rfl
theorem k25 : tk TT 25 = (.sl 28) := rfl
theorem ke25 : tkE TT 25 = (.sl 28) := rfl
theorem i26 : ti TT 26 = some ⟨1, 24, [.slice none 0 0], false, (.sl 3)⟩ := rfl
theorem k26 : tk TT 26 = (.sl 3) := rfl
theorem ke26 : tkE TT 26 = (.sl 3) := rfl
theorem i28 : ti TT 28 = some ⟨3, 56, [.bool false, .slice none 0 0, .slice none 0 0], true, (.st [(0, 1, false), (1, 1, false), (2, 1, false)])⟩ := rfl
theorem k28 : tk TT 28 = (.st [(0, 1, false), (1, 1, false), (2, 1, false)]) := rfl
theorem ke28 : tkE TT 28 = (.st [(0, 1, false), (1, 1, false), (2, 1, false)]) := rfl
theorem i30 : ti TT 30 = some ⟨10, 176, [.slice none 0 0, .slice none 0 0, .slice none 0 0, .slice none 0 0, .int .i64 0, .bool false, .slice none 0 0, .slice none 0 0, .int .i64 0, .int .i64 0], true, (.st [(0, 1, true), (1, 1, false), (2, 1, false), (3, 1, false), (4, 1, false), (5, 3, true), (8, 1, false), (9, 1, false)])⟩ := rfl
theorem k30 : tk TT 30 = (.st [(0, 1, true), (1, 1, false), (2, 1, false), (3, 1, false), (4, 1, false), (5, 3, true), (8, 1, false), (9, 1, false)]) := rfl
theorem ke30 : tkE TT 30 = (.st [(0, 1, true), (1, 1, false), (2, 1, false), (3, 1, false), (4, 1, false), (5, 3, true), (8, 1, false), (9, 1, false)]) := rfl
theorem i32 : ti TT 32 = some ⟨1, 24, [.slice none 0 0], false, (.sl 9)⟩ := rfl
theorem k32 : tk TT 32 = (.sl 9) := rfl
theorem ke32 : tkE TT 32 = (.sl 9) := rfl
theorem i35 : ti TT 35 = some ⟨1, 24, [.slice none 0 0], false, (.sl 87)⟩ := rfl
theorem k35 : tk TT 35 = (.sl 87) := rfl
theorem ke35 : tkE TT 35 = (.sl 87) := rfl
theorem i37 : ti TT 37 = some ⟨1, 24, [.slice none 0 0], true, (.st [(0, 1, false)])⟩ := rfl
theorem k37 : tk TT 37 = (.st [(0, 1, false)]) := rfl
theorem ke37 : tkE TT 37 = (.st [(0, 1, false)]) := rfl
theorem i38 : ti TT 38 = some ⟨1, 24, [.slice none 0 0], false, (.sl 39)⟩ := rfl
theorem k38 : tk TT 38 = (.sl 39) := rfl
theorem ke38 : tkE TT 38 = (.sl 39) := rfl
theorem i39 : ti TT 39 = some ⟨3, 56, [.bool false, .slice none 0 0, .slice none 0 0], true, (.st [(0, 1, false), (1, 1, false), (2, 1, false)])⟩ := rfl
theorem k39 : tk TT 39 = (.st [(0, 1, false), (1, 1, false), (2, 1, false)]) := rfl
theorem ke39 : tkE TT 39 = (.st [(0, 1, false), (1, 1, false), (2, 1, false)]) := rfl
theorem i41 : ti TT 41 = some ⟨10, 176, [.slice none 0 0, .slice none 0 0, .slice none 0 0, .slice none 0 0, .int .i64 0, .bool false, .slice none 0 0, .slice none 0 0, .int .i64 0, .int .i64 0], true, (.st [(0, 1, true), (1, 1, false), (2, 1, false), (3, 1, false), (4, 1, false), (5, 3, true), (8, 1, false), (9, 1, false)])⟩ := rfl
theorem k41 : tk TT 41 = (.st [(0, 1, true), (1, 1, false), (2, 1, false), (3, 1, false), (4, 1, false), (5, 3, true), (8, 1, false), (9, 1, false)]) := rfl
theorem ke41 : tkE TT 41 = (.st [(0, 1, true), (1, 1, false), (2, 1, false), (3, 1, false), (4, 1, false), (5, 3, true), (8, 1, false), (9, 1, false)]) := rfl
theorem i71 : ti TT 71 = some ⟨1, 8, [.nilFunc], false, .oth⟩ := rfl
theorem k71 : tk TT 71 = .oth := rfl
theorem ke71 : tkE TT 71 = .oth := rfl
theorem i85 : ti TT 85 = some ⟨1, 24, [.slice none 0 0], false, (.sl 5)⟩ := rfl
theorem k85 : tk TT 85 = (.sl 5) := rfl
theorem ke85 : tkE TT 85 = (.sl 5) := rfl
theorem i87 : ti TT 87 = some ⟨4, 32, [.int .i64 0, .int .i64 0, .int .i64 0, .int .i64 0], true, (.st [(0, 1, false), (1, 1, false), (2, 1, false), (3, 1, false)])⟩ := rfl
theorem k87 : tk TT 87 = (.st [(0, 1, false), (1, 1, false), (2, 1, false), (3, 1, false)]) := rfl
theorem ke87 : tkE TT 87 = (.st [(0, 1, false), (1, 1, false), (2, 1, false), (3, 1, false)]) := rfl
theorem i89 : ti TT 89 = some ⟨1, 8, [.nilFunc], false, .oth⟩ := rfl
theorem k89 : tk TT 89 = .oth := rfl
theorem ke89 : tkE TT 89 = .oth := rfl
theorem i97 : ti TT 97 = some ⟨4, 32, [.int .i64 0, .int .i64 0, .int .i64 0, .int .i64 0], true, (.st [(0, 1, false), (1, 1, false), (2, 1, false), (3, 1, false)])⟩ := rfl
theorem k97 : tk TT 97 = (.st [(0, 1, false), (1, 1, false), (2, 1, false), (3, 1, false)]) := rfl
theorem ke97 : tkE TT 97 = (.st [(0, 1, false), (1, 1, false), (2, 1, false), (3, 1, false)]) := rfl
theorem i111 : ti TT 111 = some ⟨1, 24, [.slice none 0 0], false, (.sl 38)⟩ := rfl
theorem k111 : tk TT 111 = (.sl 38) := rfl
theorem ke111 : tkE TT 111 = (.sl 38) := rfl
theorem i116 : ti TT 116 = some ⟨2, 32, [.pointer none, .slice none 0 0], true, (.st [(0, 1, false), (1, 1, false)])⟩ := rfl
theorem k116 : tk TT 116 = (.st [(0, 1, false), (1, 1, false)]) := rfl
theorem ke116 : tkE TT 116 = (.st [(0, 1, false), (1, 1, false)]) := rfl
attribute [go_sem] i3 k3 ke3 i4 k4 ke4 i5 k5 ke5 i9 k9 ke9 i22 k22 ke22 i24 k24 ke24 i25 k25 ke25 i26 k26 ke26 i28 k28 ke28 i30 k30 ke30 i32 k32 ke32 i35 k35 ke35 i37 k37 ke37 i38 k38 ke38 i39 k39 ke39 i41 k41 ke41 i71 k71 ke71 i85 k85 ke85 i87 k87 ke87 i89 k89 ke89 i97 k97 ke97 i111 k111 ke111 i116 k116 ke116

abbrev CC : Call := Den Tryz.prog TT Xn
abbrev encD (a : List Int) : D := .sl (a.map .i)

instance (b : Bool) : Con CC 85 [.d (.b b)] True (.d (.i (if b then 1 else 0))) := by
  constructor; intro pre
  refine Den.pureI Tryz.func85 rfl 1 [.tmp 2] (by kernel_rfl) rfl rfl (by simp only [initE_nil, initE_cons, Nat.reduceAdd]; exact rfl) ?_
  repeat' first | (with_reducible first | refine nx' ?_ | refine n0 ?_ | refine rD ?_ | refine n1 ?_ | refine nilB_i fun b hb => ?_ | refine nP ?_ ?_ | refine nS fun K hK => ?_ | (refine n2 ?_ ?_ <;> intro h <;> first | subst (h : _ = true) | subst (h : _ = false) | skip) | refine And.intro ?_ ?_ | refine nK ‹Imp _ _› ?_) | exact nl | fail

instance (n a b : Int) : Con CC 35 [.d (.i n), .d (.i a), .d (.i b)] True (.d (.b (decide (a ≤ n) && decide (n ≤ b)))) := by
  constructor; intro pre
  refine Den.pureI Tryz.func35 rfl 3 [.tmp 6] (by kernel_rfl) rfl rfl (by simp only [initE_nil, initE_cons, Nat.reduceAdd]; exact rfl) ?_
  repeat' first | (with_reducible first | refine nx' ?_ | refine n0 ?_ | refine rD ?_ | refine n1 ?_ | refine nilB_i fun b hb => ?_ | refine nP ?_ ?_ | refine nS fun K hK => ?_ | (refine n2 ?_ ?_ <;> intro h <;> first | subst (h : _ = true) | subst (h : _ = false) | skip) | refine And.intro ?_ ?_ | refine nK ‹Imp _ _› ?_) | exact nl | fail
  all_goals (first | omega | exact Or.inr trivial | (congr 3; simp [*]; done) | (congr 3; simp [*]; omega) | skip)

instance (m n : Nat) : Con CC 63 [.d (encD (digs m)), .d (encD (digs n))] ((digs m).length < 4611686018427387904 ∧ (digs n).length < 4611686018427387904) (.d (.i (cmpN m n))) := by
  constructor; intro ⟨hm, hn⟩
  generalize ha : digs m = a at *
  generalize hb : digs n = b at *
  refine Den.pureI Tryz.func63 rfl 2 [.tmp 4] (by kernel_rfl) rfl rfl (by simp only [initE_nil, initE_cons, Nat.reduceAdd]; exact rfl) ?_
  repeat' first | (with_reducible first | refine nx' ?_ | refine n0 ?_ | refine rD ?_ | refine n1 ?_ | refine nilB_i fun b hb => ?_ | refine nP ?_ ?_ | refine nS fun K hK => ?_ | (refine n2 ?_ ?_ <;> intro h <;> first | subst (h : _ = true) | subst (h : _ = false) | skip) | refine And.intro ?_ ?_ | refine nK ‹Imp _ _› ?_) | exact nl | fail
  · congr 3
    subst ha hb
    rw [cmpN_len (by omega)]
    by_cases hc : (digs n).length < (digs m).length
    · rw [if_pos hc, if_pos (by rw [decide_eq_true_eq]; omega)]; rfl
    · rw [if_neg hc, if_neg (by rw [decide_eq_true_eq]; omega)]; rfl
  · refine Wp.loopR (fun k : Int => ⟨[(0, .d (encD a)), (1, .d (encD b)), (5, .d (.i k))], []⟩) (fun k => (k + 1).toNat) (fun k => -1 ≤ k ∧ k < a.length ∧ a.drop (k + 1).toNat = b.drop (k + 1).toNat) ((a.length : Int) - 1)
      Weak.lo ⟨by omega, by omega, by rw [List.drop_of_length_le (by omega), List.drop_of_length_le (by omega)]⟩ ?_
    rintro k ⟨hk0, hk, hd⟩ K hK
    repeat' first | (with_reducible first | refine nx' ?_ | refine n0 ?_ | refine rD ?_ | refine n1 ?_ | refine nilB_i fun b hb => ?_ | refine nP ?_ ?_ | refine nS fun K hK => ?_ | (refine n2 ?_ ?_ <;> intro h <;> first | subst (h : _ = true) | subst (h : _ = false) | skip) | refine And.intro ?_ ?_ | refine nK ‹Imp _ _› ?_) | exact nl | fail
    · have e1 : (k + 1).toNat = k.toNat + 1 := by omega
      subst ha hb
      rw [e1] at hd
      congr 3
      by_cases hc : (digs n).getD k.toNat 0 < (digs m).getD k.toNat 0
      · rw [if_pos (by rw [decide_eq_true_eq]; exact hc), cmpN_gt (by omega) (by omega) hd hc]; rfl
      · rw [if_neg (by rw [decide_eq_true_eq]; exact hc), cmpN_lt (by omega) (by omega) hd (by omega)]; rfl
    · have e1 : (k + 1).toNat = k.toNat + 1 := by omega
      have e2 : (k - 1 + 1).toNat = k.toNat := by omega
      rw [e1] at hd
      exact ⟨k - 1, by omega, ⟨by omega, by omega, by rw [e2]; exact drop_eq (by omega) (by omega) hd h⟩, Weak.lo⟩
    · have e1 : (k + 1).toNat = 0 := by omega
      rw [e1, List.drop_zero, List.drop_zero, ← ha, ← hb] at hd
      have := digs_inj hd
      congr 3
      unfold cmpN; rw [if_neg (by omega), if_pos this]

instance (a : List Int) : Con CC 106 [.d (encD a)] (a.length * 8 ≤ 140737488355328) (.d (encD (trim a))) := by
  constructor; intro hb
  refine Den.pureI Tryz.func106 rfl 1 [.tmp 2] (by kernel_rfl) rfl rfl (by simp only [initE_nil, initE_cons, Nat.reduceAdd]; exact rfl) ?_
  repeat' first | (with_reducible first | refine nx' ?_ | refine n0 ?_ | refine rD ?_ | refine n1 ?_ | refine nilB_i fun b hb => ?_ | refine nP ?_ ?_ | refine nS fun K hK => ?_ | (refine n2 ?_ ?_ <;> intro h <;> first | subst (h : _ = true) | subst (h : _ = false) | skip) | refine And.intro ?_ ?_ | refine nK ‹Imp _ _› ?_) | exact nl | fail
  refine Wp.loopR (fun k : Nat => ⟨[(0, .d (encD a)), (3, .d (.i k))], []⟩) (fun k => k) (fun k => k ≤ a.length ∧ trim (a.take k) = trim a) a.length Weak.lo ⟨Nat.le_refl _, by simp⟩ ?_
  rintro k ⟨hk, ht⟩ K hK
  repeat' first | (with_reducible first | refine nx' ?_ | refine n0 ?_ | refine rD ?_ | refine n1 ?_ | refine nilB_i fun b hb => ?_ | refine nP ?_ ?_ | refine nS fun K hK => ?_ | (refine n2 ?_ ?_ <;> intro h <;> first | subst (h : _ = true) | subst (h : _ = false) | skip) | refine And.intro ?_ ?_ | refine nK ‹Imp _ _› ?_) | exact nl | fail
  · exact ⟨k - 1, by omega, ⟨by omega, by rw [trim_take_zero (by omega) hk (by rw [← h]; congr 1; omega), ht]⟩, (Weak.low (by simp -implicitDefEqProofs (disch := omega) only [go_sem, sub_nil, sub_cons, LX, show ((k - 1 : Nat) : Int) = (k : Int) - 1 by omega]; try ((repeat' refine And.intro ?_ ?_) <;> first | rfl | trivial | (congr 3; omega) | (congr 1; omega))))⟩
  · rw [← ht, trim_take_ne (by omega) hk (by intro e; exact h (by rw [← e]; congr 1; omega))]
  · obtain rfl : k = 0 := by omega
    rw [← ht]; rfl

instance (n : Nat) : Con CC 108 [.d (.i n)] (n < 1000000000000) (.d (encD (digs n))) := by
  constructor; intro hn
  refine Den.pureI Tryz.func108 rfl 1 [.tmp 2] (by kernel_rfl) rfl rfl (by simp only [initE_nil, initE_cons, Nat.reduceAdd]; exact rfl) ?_
  repeat' first | (with_reducible first | refine nx' ?_ | refine n0 ?_ | refine rD ?_ | refine n1 ?_ | refine nilB_i fun b hb => ?_ | refine nP ?_ ?_ | refine nS fun K hK => ?_ | (refine n2 ?_ ?_ <;> intro h <;> first | subst (h : _ = true) | subst (h : _ = false) | skip) | refine And.intro ?_ ?_ | refine nK ‹Imp _ _› ?_) | exact nl | fail
  refine Wp.loopR (fun x : Nat × List Int => ⟨[(0, .d (.i x.1)), (3, .msl 0 0 x.2.length)], [.arr 1 (x.2.map .i) false]⟩) (fun x => x.1) (fun x => x.2 ++ digs x.1 = digs n ∧ x.1 ≤ n) (n, []) Weak.lo ⟨by simp, Nat.le_refl _⟩ ?_
  rintro ⟨k, l⟩ ⟨hl, hk⟩ K hK
  simp only at hl hk ⊢
  have hlen : l.length + (digs k).length = (digs n).length := by rw [← hl, List.length_append]
  have hlen2 : (digs n).length ≤ 3 := digs_len_le (by simpa using hn)
  have e1 : (k : Int).tdiv 10000 = ((k / 10000 : Nat) : Int) := tdiv_nat k 10000
  have e2 : (k : Int).tmod 10000 = ((k % 10000 : Nat) : Int) := tmod_nat k 10000
  repeat' first | (with_reducible first | refine nx' ?_ (by simp -implicitDefEqProofs (disch := omega) only [go_sem, e1, e2]; exact rfl) | refine n0 ?_ | refine rD ?_ | refine n1 ?_ | refine nilB_i fun b hb => ?_ | refine nP ?_ ?_ | refine nS fun K hK => ?_ | (refine n2 ?_ ?_ <;> intro h <;> first | subst (h : _ = true) | subst (h : _ = false) | (simp only [FX, LX, e1, e2] at h) | skip) | refine And.intro ?_ ?_ | refine nK ‹Imp _ _› ?_) | exact nl | fail
  · refine ⟨(k / 10000, l ++ [((k % 10000 : Nat) : Int)]), by simp only; omega, ⟨?_, by simp only; omega⟩, Weak.cu⟩
    simp only
    rw [← hl, digs_pos (by omega : 0 < k)]; simp
  · obtain rfl : k = 0 := by omega
    rw [digs_zero, List.append_nil] at hl
    rw [hl]
end Go.PL
