/- A plain machine, sound for the given model, and contracts of functions over it, part 17: A1. Nothing is assumed. -/
import Derived.Test.YtedbifiejciocacDoorG16
import Derived.Lib.ItoaNum
import Derived.Lib.Bytealg
import Derived.Lib.Join
import Derived.KernelRfl
import Derived.Test.YtedbifiejciocacDoorProg
set_option linter.unusedSimpArgs false
set_option linter.unusedVariables false
set_option linter.unusedSectionVars false
/- A1 -/
namespace Go.PL
open Go Go.Proofs
set_option maxRecDepth 10000
set_option maxHeartbeats 4000000
set_option linter.unusedSimpArgs false
set_option linter.unusedVariables false
/-- Decimal digits. -/
def digB (n : Nat) : ByteArray := ⟨(Lib.decDigits n).toArray⟩
def itoaB (n : Int) : ByteArray := ⟨(Lib.itoa n).toArray⟩
/-- Is a text's first byte in another text? -/
def has1 (s t : ByteArray) : Bool := decide (0 ≤ Lib.indexByte s.data.toList (t.data.getD 0 0))
/-- Words with a word between each two. -/
def joinB (ws : List ByteArray) (sep : ByteArray) : ByteArray := ⟨(Lib.join (ws.map (·.data.toList)) sep.data.toList).toArray⟩
/-- Are digits a number's text, of one that a token may have? -/
def numOk (l : List UInt8) : Bool := decide (dv l ≤ 999999999) && decide (Lib.decDigits (dv l) = l)
/-- The library's functions, whose contracts are the shelf's, and some that are walked by themselves. -/
def Xn : Call := fun f a0 os r os' => os = [] ∧ os' = [] ∧
  ((f = 27 ∧ ∃ n : Int, -9223372036854775808 ≤ n ∧ n ≤ 9223372036854775807 ∧ a0 = [.d (.i n)] ∧ r = .d (.s (itoaB n))) ∨
   (f = 23 ∧ ∃ s t : ByteArray, t.size = 1 ∧ a0 = [.d (.s s), .d (.s t)] ∧ r = .d (.b (has1 s t))) ∨
   (f = 18 ∧ ∃ (ws : List ByteArray) (s : ByteArray), ws.length ≤ 1048576 ∧ (Lib.join (ws.map (·.data.toList)) s.data.toList).length ≤ 140737488355328 ∧ a0 = [.d (.sl (ws.map .s)), .d (.s s)] ∧ r = .d (.s (joinB ws s))) ∨
   (f = 49 ∧ ∃ l : List UInt8, 1 ≤ l.length ∧ l.length ≤ 18 ∧ (∀ c ∈ l, isDg c) ∧ a0 = [.d (.s ⟨l.toArray⟩)] ∧ r = .tup [.d (.i (dv l)), .d (.b (numOk l))]))

def TT : Tab := ⟨[(3, ⟨1, 8, [.int .i64 0], false, (.int .i64)⟩),
  (4, ⟨1, 1, [.bool false], false, .bool⟩),
  (5, ⟨1, 1, [.int .u8 0], false, (.int .u8)⟩),
  (9, ⟨1, 16, [.string ⟨#[]⟩], false, .str⟩),
  (22, ⟨1, 24, [.slice none 0 0], false, (.sl 5)⟩),
  (23, ⟨1, 24, [.slice none 0 0], false, (.sl 31)⟩),
  (31, ⟨3, 32, [.int .i64 0, .int .i64 0, .string ⟨#[]⟩], true, (.st [(0, 1, false), (1, 1, false), (2, 1, false)])⟩),
  (32, ⟨1, 8, [.nilFunc], false, .oth⟩),
  (34, ⟨1, 8, [.pointer none], false, .oth⟩),
  (41, ⟨1, 24, [.slice none 0 0], false, (.sl 9)⟩),
  (48, ⟨3, 40, [.slice none 0 0, .int .i64 0, .int .i64 0], true, (.st [(0, 1, false), (1, 1, false), (2, 1, false)])⟩),
  (51, ⟨1, 24, [.slice none 0 0], false, (.sl 3)⟩),
  (59, ⟨1, 16, [.nilIface], false, .oth⟩)], [], [], [(31, [.int .i64, .int .i64, .str])]⟩
instance TT.tg : TG TT ⟨[], []⟩ := ⟨rfl⟩
instance TT.ok : TOk TT Tryd.prog := TOk.of ⟨by kernel_rfl, by kernel_rfl, by kernel_rfl, by kernel_rfl, by kernel_rfl, by kernel_rfl, by kernel_rfl, by kernel_rfl, by kernel_rfl, by kernel_rfl, by kernel_rfl, by kernel_rfl, by kernel_rfl, trivial⟩ ⟨⟨_, Tryd.underlying31, by kernel_rfl, by kernel_rfl, (And.intro (by decide) (And.intro rfl (And.intro (by kernel_rfl) (And.intro (by decide) (And.intro rfl (And.intro (by kernel_rfl) (And.intro (by decide) (And.intro rfl (And.intro (by kernel_rfl) trivial)))))))))⟩, trivial⟩
theorem i3 : ti TT 3 = some ⟨1, 8, [.int .i64 0], false, (.int .i64)⟩ := rfl
theorem k3 : tk TT 3 = (.int .i64) := rfl
theorem ke3 : tkE TT 3 = (.int .i64) := rfl
theorem i4 : ti TT 4 = some ⟨1, 1, [.bool false], false, .bool⟩ := rfl
theorem k4 : tk TT 4 = .bool := rfl
theorem ke4 : tkE TT 4 = .bool := rfl
theorem i5 : ti TT 5 = some ⟨1, 1, [.int .u8 0], false, (.int .u8)⟩ := rfl
theorem k5 : tk TT 5 = (.int .u8) := rfl
theorem ke5 : tkE TT 5 = (.int .u8) := rfl
theorem i9 : ti TT 9 = some ⟨1, 16, [.string ⟨#[]⟩], false, .str⟩ := rfl
theorem k9 : tk TT 9 = .str := rfl
theorem ke9 : tkE TT 9 = .str := rfl
theorem i22 : ti TT 22 = some ⟨1, 24, [.slice none 0 0], false, (.sl 5)⟩ := rfl
theorem k22 : tk TT 22 = (.sl 5) := rfl
theorem ke22 : tkE TT 22 = (.sl 5) := rfl
theorem i23 : ti TT 23 = some ⟨1, 24, [.slice none 0 0], false, (.sl 31)⟩ := rfl
theorem k23 : tk TT 23 = (.sl 31) := rfl
theorem ke23 : tkE TT 23 = (.sl 31) := rfl
theorem i31 : ti TT 31 = some ⟨3, 32, [.int .i64 0, .int .i64 0, .string ⟨#[]⟩], true, (.st [(0, 1, false), (1, 1, false), (2, 1, false)])⟩ := rfl
theorem k31 : tk TT 31 = (.st [(0, 1, false), (1, 1, false), (2, 1, false)]) := rfl
theorem ke31 : tkE TT 31 = .eqs [.int .i64, .int .i64, .str] := rfl
theorem i32 : ti TT 32 = some ⟨1, 8, [.nilFunc], false, .oth⟩ := rfl
theorem k32 : tk TT 32 = .oth := rfl
theorem ke32 : tkE TT 32 = .oth := rfl
theorem i34 : ti TT 34 = some ⟨1, 8, [.pointer none], false, .oth⟩ := rfl
theorem k34 : tk TT 34 = .oth := rfl
theorem ke34 : tkE TT 34 = .oth := rfl
theorem i41 : ti TT 41 = some ⟨1, 24, [.slice none 0 0], false, (.sl 9)⟩ := rfl
theorem k41 : tk TT 41 = (.sl 9) := rfl
theorem ke41 : tkE TT 41 = (.sl 9) := rfl
theorem i48 : ti TT 48 = some ⟨3, 40, [.slice none 0 0, .int .i64 0, .int .i64 0], true, (.st [(0, 1, false), (1, 1, false), (2, 1, false)])⟩ := rfl
theorem k48 : tk TT 48 = (.st [(0, 1, false), (1, 1, false), (2, 1, false)]) := rfl
theorem ke48 : tkE TT 48 = (.st [(0, 1, false), (1, 1, false), (2, 1, false)]) := rfl
theorem i51 : ti TT 51 = some ⟨1, 24, [.slice none 0 0], false, (.sl 3)⟩ := rfl
theorem k51 : tk TT 51 = (.sl 3) := rfl
theorem ke51 : tkE TT 51 = (.sl 3) := rfl
theorem i59 : ti TT 59 = some ⟨1, 16, [.nilIface], false, .oth⟩ := rfl
theorem k59 : tk TT 59 = .oth := rfl
theorem ke59 : tkE TT 59 = .oth := rfl
attribute [go_sem] i3 k3 ke3 i4 k4 ke4 i5 k5 ke5 i9 k9 ke9 i22 k22 ke22 i23 k23 ke23 i31 k31 ke31 i32 k32 ke32 i34 k34 ke34 i41 k41 ke41 i48 k48 ke48 i51 k51 ke51 i59 k59 ke59

abbrev CC : Call := Den Tryd.prog TT Xn
abbrev encD (a : List Int) : D := .sl (a.map .i)

instance (n a b : Int) : Con CC 31 [.d (.i n), .d (.i a), .d (.i b)] True (.d (.b (decide (a ≤ n) && decide (n ≤ b)))) := by
  constructor; intro pre
  refine Den.pureI Tryd.func31 rfl 3 [.tmp 6] (by kernel_rfl) rfl rfl (by simp only [initE_nil, initE_cons, Nat.reduceAdd]; exact rfl) ?_
  repeat' first | (with_reducible first | refine nx' ?_ | refine n0 ?_ | refine rD ?_ | refine n1 ?_ | refine nilB_i fun b hb => ?_ | refine nP ?_ ?_ | refine nS fun K hK => ?_ | (refine n2 ?_ ?_ <;> intro h <;> first | subst (h : _ = true) | subst (h : _ = false) | skip) | refine And.intro ?_ ?_ | refine nK ‹Imp _ _› ?_) | exact nl | fail
  all_goals (first | omega | exact Or.inr trivial | (congr 3; simp [*]; done) | (congr 3; simp [*]; omega) | skip)

end Go.PL
