/- A plain machine, sound for the given model, and contracts of functions over it, part 15: A1. Nothing is assumed. -/
import Derived.Test.YtldgmfplnlnhcaaGreatG14
import Derived.KernelRfl
import Derived.Test.YtldgmfplnlnhcaaGreatProg
set_option linter.unusedSimpArgs false
set_option linter.unusedVariables false
set_option linter.unusedSectionVars false
/- A1 -/
namespace Go.PL
open Go Go.Proofs
set_option maxRecDepth 10000
set_option maxHeartbeats 4000000
set_option linter.unusedSimpArgs false
set_option linter.unusedVariables false
def Xn : Call := fun _ _ _ _ _ => False

def TT : Tab := ⟨[(3, ⟨1, 8, [.int .i64 0], false, (.int .i64)⟩),
  (4, ⟨1, 1, [.bool false], false, .bool⟩),
  (22, ⟨1, 24, [.slice none 0 0], false, (.sl 114)⟩),
  (24, ⟨1, 24, [.slice none 0 0], true, (.st [(0, 1, false)])⟩),
  (25, ⟨1, 24, [.slice none 0 0], false, (.sl 28)⟩),
  (26, ⟨1, 24, [.slice none 0 0], false, (.sl 3)⟩),
  (28, ⟨3, 56, [.bool false, .slice none 0 0, .slice none 0 0], true, (.st [(0, 1, false), (1, 1, false), (2, 1, false)])⟩),
  (30, ⟨10, 176, [.slice none 0 0, .slice none 0 0, .slice none 0 0, .slice none 0 0, .int .i64 0, .bool false, .slice none 0 0, .slice none 0 0, .int .i64 0, .int .i64 0], true, (.st [(0, 1, true), (1, 1, false), (2, 1, false), (3, 1, false), (4, 1, false), (5, 3, true), (8, 1, false), (9, 1, false)])⟩),
  (31, ⟨1, 24, [.slice none 0 0], false, (.sl 75)⟩),
  (33, ⟨2, 32, [.int .i64 0, .slice none 0 0], true, (.st [(0, 1, false), (1, 1, false)])⟩),
  (38, ⟨1, 24, [.slice none 0 0], false, (.sl 112)⟩),
  (40, ⟨1, 24, [.slice none 0 0], true, (.st [(0, 1, false)])⟩),
  (41, ⟨1, 24, [.slice none 0 0], false, (.sl 42)⟩),
  (42, ⟨3, 56, [.bool false, .slice none 0 0, .slice none 0 0], true, (.st [(0, 1, false), (1, 1, false), (2, 1, false)])⟩),
  (44, ⟨10, 176, [.slice none 0 0, .slice none 0 0, .slice none 0 0, .slice none 0 0, .int .i64 0, .bool false, .slice none 0 0, .slice none 0 0, .int .i64 0, .int .i64 0], true, (.st [(0, 1, true), (1, 1, false), (2, 1, false), (3, 1, false), (4, 1, false), (5, 3, true), (8, 1, false), (9, 1, false)])⟩),
  (46, ⟨1, 24, [.slice none 0 0], false, (.sl 65)⟩),
  (48, ⟨2, 32, [.int .i64 0, .slice none 0 0], true, (.st [(0, 1, false), (1, 1, false)])⟩),
  (65, ⟨6, 96, [.int .i64 0, .int .i64 0, .slice none 0 0, .bool false, .slice none 0 0, .slice none 0 0], true, (.st [(0, 1, false), (1, 1, false), (2, 1, false), (3, 3, true)])⟩),
  (69, ⟨1, 8, [.nilFunc], false, .oth⟩),
  (75, ⟨6, 96, [.int .i64 0, .int .i64 0, .slice none 0 0, .bool false, .slice none 0 0, .slice none 0 0], true, (.st [(0, 1, false), (1, 1, false), (2, 1, false), (3, 3, true)])⟩),
  (94, ⟨1, 8, [.nilFunc], false, .oth⟩),
  (101, ⟨1, 8, [.nilFunc], false, .oth⟩),
  (105, ⟨12, 224, [.bool false, .slice none 0 0, .slice none 0 0, .bool false, .slice none 0 0, .slice none 0 0, .bool false, .slice none 0 0, .slice none 0 0, .bool false, .slice none 0 0, .slice none 0 0], true, (.st [(0, 3, true), (3, 3, true), (6, 3, true), (9, 3, true)])⟩),
  (112, ⟨4, 32, [.int .i64 0, .int .i64 0, .int .i64 0, .int .i64 0], true, (.st [(0, 1, false), (1, 1, false), (2, 1, false), (3, 1, false)])⟩),
  (114, ⟨4, 32, [.int .i64 0, .int .i64 0, .int .i64 0, .int .i64 0], true, (.st [(0, 1, false), (1, 1, false), (2, 1, false), (3, 1, false)])⟩),
  (120, ⟨8, 160, [.bool false, .slice none 0 0, .slice none 0 0, .slice none 0 0, .slice none 0 0, .bool false, .slice none 0 0, .slice none 0 0], true, (.st [(0, 3, true), (3, 1, false), (4, 1, false), (5, 3, true)])⟩),
  (123, ⟨2, 32, [.int .i64 0, .slice none 0 0], true, (.st [(0, 1, false), (1, 1, false)])⟩),
  (131, ⟨1, 8, [.nilFunc], false, .oth⟩),
  (134, ⟨1, 8, [.nilFunc], false, .oth⟩),
  (135, ⟨1, 24, [.slice none 0 0], false, (.sl 105)⟩),
  (148, ⟨1, 24, [.slice none 0 0], false, (.sl 120)⟩),
  (161, ⟨1, 24, [.slice none 0 0], false, (.sl 41)⟩)], [152], [], []⟩
instance TT.tg : TG TT ⟨[], []⟩ := ⟨rfl⟩
instance TT.ok : TOk TT Tryz.prog := TOk.of ⟨by kernel_rfl, by kernel_rfl, by kernel_rfl, by kernel_rfl, by kernel_rfl, by kernel_rfl, by kernel_rfl, by kernel_rfl, by kernel_rfl, by kernel_rfl, by kernel_rfl, by kernel_rfl, by kernel_rfl, by kernel_rfl, by kernel_rfl, by kernel_rfl, by kernel_rfl, by kernel_rfl, by kernel_rfl, by kernel_rfl, by kernel_rfl, by kernel_rfl, by kernel_rfl, by kernel_rfl, by kernel_rfl, by kernel_rfl, by kernel_rfl, by kernel_rfl, by kernel_rfl, by kernel_rfl, by kernel_rfl, by kernel_rfl, trivial⟩
theorem i3 : ti TT 3 = some ⟨1, 8, [.int .i64 0], false, (.int .i64)⟩ := rfl
theorem k3 : tk TT 3 = (.int .i64) := rfl
theorem ke3 : tkE TT 3 = (.int .i64) := rfl
theorem i4 : ti TT 4 = some ⟨1, 1, [.bool false], false, .bool⟩ := rfl
theorem k4 : tk TT 4 = .bool := rfl
theorem ke4 : tkE TT 4 = .bool := rfl
theorem i22 : ti TT 22 = some ⟨1, 24, [.slice none 0 0], false, (.sl 114)⟩ := rfl
theorem k22 : tk TT 22 = (.sl 114) := rfl
theorem ke22 : tkE TT 22 = (.sl 114) := rfl
theorem i24 : ti TT 24 = some ⟨1, 24, [.slice none 0 0], true, (.st [(0, 1, false)])⟩ := rfl
theorem k24 : tk TT 24 = (.st [(0, 1, false)]) := rfl
theorem ke24 : tkE TT 24 = (.st [(0, 1, false)]) := rfl
theorem i25 : ti TT 25 = some ⟨1, 24, [.slice none 0 0], false, (.sl 28)⟩ := rfl
theorem k25 : tk TT 25 = (.sl 28) := rfl
theorem ke25 : tkE TT 25 = (.sl 28) := rfl
theorem i26 : ti TT 26 = some ⟨1, 24, [.slice none 0 0], false, (.sl 3)⟩ := rfl
theorem k26 : tk TT 26 = (.sl 3) := rfl
theorem ke26 : tkE TT 26 = (.sl 3) := rfl
theorem i28 : ti TT 28 = some ⟨3, 56, [.bool false, .slice none 0 0, .slice none 0 0], true, (.st [(0, 1, false), (1, 1, false), (2, 1, false)])⟩ := rfl
theorem k28 : tk TT 28 = (.st [(0, 1, false), (1, 1, false), (2, 1, false)]) := rfl
theorem ke28 : tkE TT 28 = (.st [(0, 1, false), (1, 1, false), (2, 1, false)]) := rfl
theorem i30 : ti TT 30 = some ⟨10, 176, [.slice none 0 0, .slice none 0 0, .slice none 0 0, .slice none 0 0, .int .i64 0, .bool false, .slice none 0 0, .slice none 0 0, .int .i64 0, .int .i64 0], true, (.st [(0, 1, true), (1, 1, false), (2, 1, false), (3, 1, false), (4, 1, false), (5, 3, true), (8, 1, false), (9, 1, false)])⟩ := rfl
theorem k30 : tk TT 30 = (.st [(0, 1, true), (1, 1, false), (2, 1, false), (3, 1, false), (4, 1, false), (5, 3, true), (8, 1, false), (9, 1, false)]) := rfl
theorem ke30 : tkE TT 30 = (.st [(0, 1, true), (1, 1, false), (2, 1, false), (3, 1, false), (4, 1, false), (5, 3, true), (8, 1, false), (9, 1, false)]) := rfl
theorem i31 : ti TT 31 = some ⟨1, 24, [.slice none 0 0], false, (.sl 75)⟩ := rfl
theorem k31 : tk TT 31 = (.sl 75) := rfl
theorem ke31 : tkE TT 31 = (.sl 75) := rfl
theorem i33 : ti TT 33 = some ⟨2, 32, [.int .i64 0, .slice none 0 0], true, (.st [(0, 1, false), (1, 1, false)])⟩ := rfl
theorem k33 : tk TT 33 = (.st [(0, 1, false), (1, 1, false)]) := rfl
theorem ke33 : tkE TT 33 = (.st [(0, 1, false), (1, 1, false)]) := rfl
theorem i38 : ti TT 38 = some ⟨1, 24, [.slice none 0 0], false, (.sl 112)⟩ := rfl
theorem k38 : tk TT 38 = (.sl 112) := rfl
theorem ke38 : tkE TT 38 = (.sl 112) := rfl
theorem i40 : ti TT 40 = some ⟨1, 24, [.slice none 0 0], true, (.st [(0, 1, false)])⟩ := rfl
theorem k40 : tk TT 40 = (.st [(0, 1, false)]) := rfl
theorem ke40 : tkE TT 40 = (.st [(0, 1, false)]) := rfl
theorem i41 : ti TT 41 = some ⟨1, 24, [.slice none 0 0], false, (.sl 42)⟩ := rfl
theorem k41 : tk TT 41 = (.sl 42) := rfl
theorem ke41 : tkE TT 41 = (.sl 42) := rfl
theorem i42 : ti TT 42 = some ⟨3, 56, [.bool false, .slice none 0 0, .slice none 0 0], true, (.st [(0, 1, false), (1, 1, false), (2, 1, false)])⟩ := rfl
theorem k42 : tk TT 42 = (.st [(0, 1, false), (1, 1, false), (2, 1, false)]) := rfl
theorem ke42 : tkE TT 42 = (.st [(0, 1, false), (1, 1, false), (2, 1, false)]) := rfl
theorem i44 : ti TT 44 = some ⟨10, 176, [.slice none 0 0, .slice none 0 0, .slice none 0 0, .slice none 0 0, .int .i64 0, .bool false, .slice none 0 0, .slice none 0 0, .int .i64 0, .int .i64 0], true, (.st [(0, 1, true), (1, 1, false), (2, 1, false), (3, 1, false), (4, 1, false), (5, 3, true), (8, 1, false), (9, 1, false)])⟩ := rfl
theorem k44 : tk TT 44 = (.st [(0, 1, true), (1, 1, false), (2, 1, false), (3, 1, false), (4, 1, false), (5, 3, true), (8, 1, false), (9, 1, false)]) := rfl
theorem ke44 : tkE TT 44 = (.st [(0, 1, true), (1, 1, false), (2, 1, false), (3, 1, false), (4, 1, false), (5, 3, true), (8, 1, false), (9, 1, false)]) := rfl
theorem i46 : ti TT 46 = some ⟨1, 24, [.slice none 0 0], false, (.sl 65)⟩ := rfl
theorem k46 : tk TT 46 = (.sl 65) := rfl
theorem ke46 : tkE TT 46 = (.sl 65) := rfl
theorem i48 : ti TT 48 = some ⟨2, 32, [.int .i64 0, .slice none 0 0], true, (.st [(0, 1, false), (1, 1, false)])⟩ := rfl
theorem k48 : tk TT 48 = (.st [(0, 1, false), (1, 1, false)]) := rfl
theorem ke48 : tkE TT 48 = (.st [(0, 1, false), (1, 1, false)]) := rfl
theorem i65 : ti TT 65 = some ⟨6, 96, [.int .i64 0, .int .i64 0, .slice none 0 0, .bool false, .slice none 0 0, .slice none 0 0], true, (.st [(0, 1, false), (1, 1, false), (2, 1, false), (3, 3, true)])⟩ := rfl
theorem k65 : tk TT 65 = (.st [(0, 1, false), (1, 1, false), (2, 1, false), (3, 3, true)]) := rfl
theorem ke65 : tkE TT 65 = (.st [(0, 1, false), (1, 1, false), (2, 1, false), (3, 3, true)]) := rfl
theorem i69 : ti TT 69 = some ⟨1, 8, [.nilFunc], false, .oth⟩ := rfl
theorem k69 : tk TT 69 = .oth := rfl
theorem ke69 : tkE TT 69 = .oth := rfl
theorem i75 : ti TT 75 = some ⟨6, 96, [.int .i64 0, .int .i64 0, .slice none 0 0, .bool false, .slice none 0 0, .slice none 0 0], true, (.st [(0, 1, false), (1, 1, false), (2, 1, false), (3, 3, true)])⟩ := rfl
theorem k75 : tk TT 75 = (.st [(0, 1, false), (1, 1, false), (2, 1, false), (3, 3, true)]) := rfl
theorem ke75 : tkE TT 75 = (.st [(0, 1, false), (1, 1, false), (2, 1, false), (3, 3, true)]) := rfl
theorem i94 : ti TT 94 = some ⟨1, 8, [.nilFunc], false, .oth⟩ := rfl
theorem k94 : tk TT 94 = .oth := rfl
theorem ke94 : tkE TT 94 = .oth := rfl
theorem i101 : ti TT 101 = some ⟨1, 8, [.nilFunc], false, .oth⟩ := rfl
theorem k101 : tk TT 101 = .oth := rfl
theorem ke101 : tkE TT 101 = .oth := rfl
theorem i105 : ti TT 105 = some ⟨12, 224, [.bool false, .slice none 0 0, .slice none 0 0, .bool false, .slice none 0 0, .slice none 0 0, .bool false, .slice none 0 0, .slice none 0 0, .bool false, .slice none 0 0, .slice none 0 0], true, (.st [(0, 3, true), (3, 3, true), (6, 3, true), (9, 3, true)])⟩ := rfl
theorem k105 : tk TT 105 = (.st [(0, 3, true), (3, 3, true), (6, 3, true), (9, 3, true)]) := rfl
theorem ke105 : tkE TT 105 = (.st [(0, 3, true), (3, 3, true), (6, 3, true), (9, 3, true)]) := rfl
theorem i112 : ti TT 112 = some ⟨4, 32, [.int .i64 0, .int .i64 0, .int .i64 0, .int .i64 0], true, (.st [(0, 1, false), (1, 1, false), (2, 1, false), (3, 1, false)])⟩ := rfl
theorem k112 : tk TT 112 = (.st [(0, 1, false), (1, 1, false), (2, 1, false), (3, 1, false)]) := rfl
theorem ke112 : tkE TT 112 = (.st [(0, 1, false), (1, 1, false), (2, 1, false), (3, 1, false)]) := rfl
theorem i114 : ti TT 114 = some ⟨4, 32, [.int .i64 0, .int .i64 0, .int .i64 0, .int .i64 0], true, (.st [(0, 1, false), (1, 1, false), (2, 1, false), (3, 1, false)])⟩ := rfl
theorem k114 : tk TT 114 = (.st [(0, 1, false), (1, 1, false), (2, 1, false), (3, 1, false)]) := rfl
theorem ke114 : tkE TT 114 = (.st [(0, 1, false), (1, 1, false), (2, 1, false), (3, 1, false)]) := rfl
theorem i120 : ti TT 120 = some ⟨8, 160, [.bool false, .slice none 0 0, .slice none 0 0, .slice none 0 0, .slice none 0 0, .bool false, .slice none 0 0, .slice none 0 0], true, (.st [(0, 3, true), (3, 1, false), (4, 1, false), (5, 3, true)])⟩ := rfl
theorem k120 : tk TT 120 = (.st [(0, 3, true), (3, 1, false), (4, 1, false), (5, 3, true)]) := rfl
theorem ke120 : tkE TT 120 = (.st [(0, 3, true), (3, 1, false), (4, 1, false), (5, 3, true)]) := rfl
theorem i123 : ti TT 123 = some ⟨2, 32, [.int .i64 0, .slice none 0 0], true, (.st [(0, 1, false), (1, 1, false)])⟩ := rfl
theorem k123 : tk TT 123 = (.st [(0, 1, false), (1, 1, false)]) := rfl
theorem ke123 : tkE TT 123 = (.st [(0, 1, false), (1, 1, false)]) := rfl
theorem i131 : ti TT 131 = some ⟨1, 8, [.nilFunc], false, .oth⟩ := rfl
theorem k131 : tk TT 131 = .oth := rfl
theorem ke131 : tkE TT 131 = .oth := rfl
theorem i134 : ti TT 134 = some ⟨1, 8, [.nilFunc], false, .oth⟩ := rfl
theorem k134 : tk TT 134 = .oth := rfl
theorem ke134 : tkE TT 134 = .oth := rfl
theorem i135 : ti TT 135 = some ⟨1, 24, [.slice none 0 0], false, (.sl 105)⟩ := rfl
theorem k135 : tk TT 135 = (.sl 105) := rfl
theorem ke135 : tkE TT 135 = (.sl 105) := rfl
theorem i148 : ti TT 148 = some ⟨1, 24, [.slice none 0 0], false, (.sl 120)⟩ := rfl
theorem k148 : tk TT 148 = (.sl 120) := rfl
theorem ke148 : tkE TT 148 = (.sl 120) := rfl
theorem i161 : ti TT 161 = some ⟨1, 24, [.slice none 0 0], false, (.sl 41)⟩ := rfl
theorem k161 : tk TT 161 = (.sl 41) := rfl
theorem ke161 : tkE TT 161 = (.sl 41) := rfl
attribute [go_sem] i3 k3 ke3 i4 k4 ke4 i22 k22 ke22 i24 k24 ke24 i25 k25 ke25 i26 k26 ke26 i28 k28 ke28 i30 k30 ke30 i31 k31 ke31 i33 k33 ke33 i38 k38 ke38 i40 k40 ke40 i41 k41 ke41 i42 k42 ke42 i44 k44 ke44 i46 k46 ke46 i48 k48 ke48 i65 k65 ke65 i69 k69 ke69 i75 k75 ke75 i94 k94 ke94 i101 k101 ke101 i105 k105 ke105 i112 k112 ke112 i114 k114 ke114 i120 k120 ke120 i123 k123 ke123 i131 k131 ke131 i134 k134 ke134 i135 k135 ke135 i148 k148 ke148 i161 k161 ke161

abbrev CC : Call := Den Tryz.prog TT Xn
abbrev encD (a : List Int) : D := .sl (a.map .i)

instance (b : Bool) : Con CC 140 [.d (.b b)] True (.d (.i (if b then 1 else 0))) := by
  constructor; intro pre
  refine Den.pureI Tryz.func140 rfl 1 [.tmp 2] (by kernel_rfl) rfl rfl (by simp only [initE_nil, initE_cons, Nat.reduceAdd]; exact rfl) ?_
  repeat' first | (with_reducible first | refine nx' ?_ | refine n0 ?_ | refine rD ?_ | refine n1 ?_ | refine nilB_i fun b hb => ?_ | refine nP ?_ ?_ | refine nS fun K hK => ?_ | (refine n2 ?_ ?_ <;> intro h <;> first | subst (h : _ = true) | subst (h : _ = false) | skip) | refine And.intro ?_ ?_ | refine nK ‹Imp _ _› ?_) | exact nl | fail

instance (n a b : Int) : Con CC 63 [.d (.i n), .d (.i a), .d (.i b)] True (.d (.b (decide (a ≤ n) && decide (n ≤ b)))) := by
  constructor; intro pre
  refine Den.pureI Tryz.func63 rfl 3 [.tmp 6] (by kernel_rfl) rfl rfl (by simp only [initE_nil, initE_cons, Nat.reduceAdd]; exact rfl) ?_
  repeat' first | (with_reducible first | refine nx' ?_ | refine n0 ?_ | refine rD ?_ | refine n1 ?_ | refine nilB_i fun b hb => ?_ | refine nP ?_ ?_ | refine nS fun K hK => ?_ | (refine n2 ?_ ?_ <;> intro h <;> first | subst (h : _ = true) | subst (h : _ = false) | skip) | refine And.intro ?_ ?_ | refine nK ‹Imp _ _› ?_) | exact nl | fail
  all_goals (first | omega | exact Or.inr trivial | (congr 3; simp [*]; done) | (congr 3; simp [*]; omega) | skip)

instance (m n : Nat) : Con CC 96 [.d (encD (digs m)), .d (encD (digs n))] ((digs m).length < 4611686018427387904 ∧ (digs n).length < 4611686018427387904) (.d (.i (cmpN m n))) := by
  constructor; intro ⟨hm, hn⟩
  generalize ha : digs m = a at *
  generalize hb : digs n = b at *
  refine Den.pureI Tryz.func96 rfl 2 [.tmp 4] (by kernel_rfl) rfl rfl (by simp only [initE_nil, initE_cons, Nat.reduceAdd]; exact rfl) ?_
  repeat' first | (with_reducible first | refine nx' ?_ | refine n0 ?_ | refine rD ?_ | refine n1 ?_ | refine nilB_i fun b hb => ?_ | refine nP ?_ ?_ | refine nS fun K hK => ?_ | (refine n2 ?_ ?_ <;> intro h <;> first | subst (h : _ = true) | subst (h : _ = false) | skip) | refine And.intro ?_ ?_ | refine nK ‹Imp _ _› ?_) | exact nl | fail
  · congr 3
    subst ha hb
    rw [cmpN_len (by omega)]
    by_cases hc : (digs n).length < (digs m).length
    · rw [if_pos hc, if_pos (by rw [decide_eq_true_eq]; omega)]; rfl
    · rw [if_neg hc, if_neg (by rw [decide_eq_true_eq]; omega)]; rfl
  · refine Wp.loopR (fun k : Int => ⟨[(0, .d (encD a)), (1, .d (encD b)), (5, .d (.i k))], []⟩) (fun k => (k + 1).toNat) (fun k => -1 ≤ k ∧ k < a.length ∧ a.drop (k + 1).toNat = b.drop (k + 1).toNat) ((a.length : Int) - 1)
      Weak.lo ⟨by omega, by omega, by rw [List.drop_of_length_le (by omega), List.drop_of_length_le (by omega)]⟩ ?_
    rintro k ⟨hk0, hk, hd⟩ K hK
    repeat' first | (with_reducible first | refine nx' ?_ | refine n0 ?_ | refine rD ?_ | refine n1 ?_ | refine nilB_i fun b hb => ?_ | refine nP ?_ ?_ | refine nS fun K hK => ?_ | (refine n2 ?_ ?_ <;> intro h <;> first | subst (h : _ = true) | subst (h : _ = false) | skip) | refine And.intro ?_ ?_ | refine nK ‹Imp _ _› ?_) | exact nl | fail
    · have e1 : (k + 1).toNat = k.toNat + 1 := by omega
      subst ha hb
      rw [e1] at hd
      congr 3
      by_cases hc : (digs n).getD k.toNat 0 < (digs m).getD k.toNat 0
      · rw [if_pos (by rw [decide_eq_true_eq]; exact hc), cmpN_gt (by omega) (by omega) hd hc]; rfl
      · rw [if_neg (by rw [decide_eq_true_eq]; exact hc), cmpN_lt (by omega) (by omega) hd (by omega)]; rfl
    · have e1 : (k + 1).toNat = k.toNat + 1 := by omega
      have e2 : (k - 1 + 1).toNat = k.toNat := by omega
      rw [e1] at hd
      exact ⟨k - 1, by omega, ⟨by omega, by omega, by rw [e2]; exact drop_eq (by omega) (by omega) hd h⟩, Weak.lo⟩
    · have e1 : (k + 1).toNat = 0 := by omega
      rw [e1, List.drop_zero, List.drop_zero, ← ha, ← hb] at hd
      have := digs_inj hd
      congr 3
      unfold cmpN; rw [if_neg (by omega), if_pos this]

instance (a : List Int) : Con CC 147 [.d (encD a)] (a.length * 8 ≤ 140737488355328) (.d (encD (trim a))) := by
  constructor; intro hb
  refine Den.pureI Tryz.func147 rfl 1 [.tmp 2] (by kernel_rfl) rfl rfl (by simp only [initE_nil, initE_cons, Nat.reduceAdd]; exact rfl) ?_
  repeat' first | (with_reducible first | refine nx' ?_ | refine n0 ?_ | refine rD ?_ | refine n1 ?_ | refine nilB_i fun b hb => ?_ | refine nP ?_ ?_ | refine nS fun K hK => ?_ | (refine n2 ?_ ?_ <;> intro h <;> first | subst (h : _ = true) | subst (h : _ = false) | skip) | refine And.intro ?_ ?_ | refine nK ‹Imp _ _› ?_) | exact nl | fail
  refine Wp.loopR (fun k : Nat => ⟨[(0, .d (encD a)), (3, .d (.i k))], []⟩) (fun k => k) (fun k => k ≤ a.length ∧ trim (a.take k) = trim a) a.length Weak.lo ⟨Nat.le_refl _, by simp⟩ ?_
  rintro k ⟨hk, ht⟩ K hK
  repeat' first | (with_reducible first | refine nx' ?_ | refine n0 ?_ | refine rD ?_ | refine n1 ?_ | refine nilB_i fun b hb => ?_ | refine nP ?_ ?_ | refine nS fun K hK => ?_ | (refine n2 ?_ ?_ <;> intro h <;> first | subst (h : _ = true) | subst (h : _ = false) | skip) | refine And.intro ?_ ?_ | refine nK ‹Imp _ _› ?_) | exact nl | fail
  · exact ⟨k - 1, by omega, ⟨by omega, by rw [trim_take_zero (by omega) hk (by rw [← h]; congr 1; omega), ht]⟩, (Weak.low (by simp -implicitDefEqProofs (disch := omega) only [go_sem, sub_nil, sub_cons, LX, show ((k - 1 : Nat) : Int) = (k : Int) - 1 by omega]; try ((repeat' refine And.intro ?_ ?_) <;> first | rfl | trivial | (congr 3; omega) | (congr 1; omega))))⟩
  · rw [← ht, trim_take_ne (by omega) hk (by intro e; exact h (by rw [← e]; congr 1; omega))]
  · obtain rfl : k = 0 := by omega
    rw [← ht]; rfl

instance (n : Nat) : Con CC 142 [.d (.i n)] (n < 1000000000000) (.d (encD (digs n))) := by
  constructor; intro hn
  refine Den.pureI Tryz.func142 rfl 1 [.tmp 2] (by kernel_rfl) rfl rfl (by simp only [initE_nil, initE_cons, Nat.reduceAdd]; exact rfl) ?_
  repeat' first | (with_reducible first | refine nx' ?_ | refine n0 ?_ | refine rD ?_ | refine n1 ?_ | refine nilB_i fun b hb => ?_ | refine nP ?_ ?_ | refine nS fun K hK => ?_ | (refine n2 ?_ ?_ <;> intro h <;> first | subst (h : _ = true) | subst (h : _ = false) | skip) | refine And.intro ?_ ?_ | refine nK ‹Imp _ _› ?_) | exact nl | fail
  refine Wp.loopR (fun x : Nat × List Int => ⟨[(0, .d (.i x.1)), (3, .msl 0 0 x.2.length)], [.arr 1 (x.2.map .i) false]⟩) (fun x => x.1) (fun x => x.2 ++ digs x.1 = digs n ∧ x.1 ≤ n) (n, []) Weak.lo ⟨by simp, Nat.le_refl _⟩ ?_
  rintro ⟨k, l⟩ ⟨hl, hk⟩ K hK
  simp only at hl hk ⊢
  have hlen : l.length + (digs k).length = (digs n).length := by rw [← hl, List.length_append]
  have hlen2 : (digs n).length ≤ 3 := digs_len_le (by simpa using hn)
  have e1 : (k : Int).tdiv 10000 = ((k / 10000 : Nat) : Int) := tdiv_nat k 10000
  have e2 : (k : Int).tmod 10000 = ((k % 10000 : Nat) : Int) := tmod_nat k 10000
  repeat' first | (with_reducible first | refine nx' ?_ (by simp -implicitDefEqProofs (disch := omega) only [go_sem, e1, e2]; exact rfl) | refine n0 ?_ | refine rD ?_ | refine n1 ?_ | refine nilB_i fun b hb => ?_ | refine nP ?_ ?_ | refine nS fun K hK => ?_ | (refine n2 ?_ ?_ <;> intro h <;> first | subst (h : _ = true) | subst (h : _ = false) | (simp only [FX, LX, e1, e2] at h) | skip) | refine And.intro ?_ ?_ | refine nK ‹Imp _ _› ?_) | exact nl | fail
  · refine ⟨(k / 10000, l ++ [((k % 10000 : Nat) : Int)]), by simp only; omega, ⟨?_, by simp only; omega⟩, Weak.cu⟩
    simp only
    rw [← hl, digs_pos (by omega : 0 < k)]; simp
  · obtain rfl : k = 0 := by omega
    rw [digs_zero, List.append_nil] at hl
    rw [hl]
end Go.PL
