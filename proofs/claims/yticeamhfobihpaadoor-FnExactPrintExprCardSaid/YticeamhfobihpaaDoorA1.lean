/- A plain machine, sound for the given model, and contracts of functions over it, part 16: A1. Nothing is assumed. -/
import Derived.Test.YticeamhfobihpaaDoorPlRun
import Derived.Lib.ItoaNum
import Derived.Lib.Bytealg
import Derived.KernelRfl
import Derived.Test.YticeamhfobihpaaDoorProg
set_option linter.unusedSimpArgs false
set_option linter.unusedVariables false
set_option linter.unusedSectionVars false
/- A1 -/
namespace Go.PL
open Go Go.Proofs
set_option maxRecDepth 10000
set_option linter.unusedSimpArgs false
set_option linter.unusedVariables false
/-- Decimal digits. -/
def digB (n : Nat) : ByteArray := ⟨(Lib.decDigits n).toArray⟩
def itoaB (n : Int) : ByteArray := ⟨(Lib.itoa n).toArray⟩
/-- Is a text's first byte in another text? -/
def has1 (s t : ByteArray) : Bool := decide (0 ≤ Lib.indexByte s.data.toList (t.data.getD 0 0))
/-- An operation's sign. -/
def signB (o : Int) : ByteArray := if o = 3 then ⟨#[43]⟩ else if o = 4 then ⟨#[45]⟩ else if o = 5 then ⟨#[42]⟩ else ⟨#[47]⟩
/-- The library's functions, whose contracts are the shelf's. -/
def Xn : Call := fun f a0 os r os' => os = [] ∧ os' = [] ∧
  ((f = 30 ∧ ∃ n : Int, -9223372036854775808 ≤ n ∧ n ≤ 9223372036854775807 ∧ a0 = [.d (.i n)] ∧ r = .d (.s (itoaB n))) ∨
   (f = 29 ∧ ∃ s t : ByteArray, t.size = 1 ∧ a0 = [.d (.s s), .d (.s t)] ∧ r = .d (.b (has1 s t))) ∨ 
   (f = 48 ∧ ∃ o a b n : Int, 3 ≤ o ∧ o ≤ 6 ∧ a0 = [.d (.agg [.i o, .i a, .i b, .i n])] ∧ r = .d (.s (signB o))))

def TT : Tab := ⟨[(1, ⟨1, 8, [.nilFunc], false, .oth⟩),
  (2, ⟨1, 8, [.int .i64 0], false, (.int .i64)⟩),
  (3, ⟨1, 8, [.int .i64 0], false, (.int .i64)⟩),
  (4, ⟨1, 1, [.bool false], false, .bool⟩),
  (5, ⟨1, 1, [.int .u8 0], false, (.int .u8)⟩),
  (6, ⟨1, 1, [.int .u8 0], false, (.int .u8)⟩),
  (7, ⟨4, 24, [.int .i64 0, .int .i64 0, .bool false, .int .u8 0], true, (.st [(0, 1, false), (1, 1, false), (2, 1, false), (3, 1, false)])⟩),
  (8, ⟨4, 24, [.int .i64 0, .int .i64 0, .bool false, .int .u8 0], true, (.st [(0, 1, false), (1, 1, false), (2, 1, false), (3, 1, false)])⟩),
  (9, ⟨1, 16, [.string ⟨#[]⟩], false, .str⟩),
  (10, ⟨1, 16, [.string ⟨#[]⟩], false, .str⟩),
  (11, ⟨1, 16, [.string ⟨#[]⟩], false, .str⟩),
  (12, ⟨1, 8, [.int .u64 0], false, (.int .u64)⟩),
  (13, ⟨2, 24, [.string ⟨#[]⟩, .int .u64 0], true, (.st [(0, 1, false), (1, 1, false)])⟩),
  (14, ⟨2, 24, [.string ⟨#[]⟩, .int .u64 0], true, (.st [(0, 1, false), (1, 1, false)])⟩),
  (15, ⟨1, 8, [.pointer none], false, .oth⟩),
  (16, ⟨1, 8, [.pointer none], false, .oth⟩),
  (17, ⟨1, 8, [.pointer none], false, .oth⟩),
  (18, ⟨1, 8, [.pointer none], true, (.st [(0, 1, false)])⟩),
  (19, ⟨1, 8, [.pointer none], true, (.st [(0, 1, false)])⟩),
  (20, ⟨1, 16, [.nilIface], false, .oth⟩),
  (21, ⟨1, 4, [.int .i32 0], false, (.int .i32)⟩),
  (22, ⟨3, 32, [.int .i64 0, .int .i64 0, .string ⟨#[]⟩], true, (.st [(0, 1, false), (1, 1, false), (2, 1, false)])⟩),
  (23, ⟨3, 32, [.int .i64 0, .int .i64 0, .string ⟨#[]⟩], true, (.st [(0, 1, false), (1, 1, false), (2, 1, false)])⟩),
  (24, ⟨1, 8, [.nilFunc], false, .oth⟩),
  (26, ⟨1, 8, [.nilFunc], false, .oth⟩),
  (27, ⟨3, 32, [.int .i64 0, .int .i64 0, .string ⟨#[]⟩], true, (.st [(0, 1, false), (1, 1, false), (2, 1, false)])⟩),
  (28, ⟨1, 8, [.nilFunc], false, .oth⟩),
  (29, ⟨1, 8, [.nilFunc], false, .oth⟩),
  (30, ⟨1, 24, [.slice none 0 0], false, (.sl 62)⟩),
  (31, ⟨1, 24, [.slice none 0 0], true, (.st [(0, 1, false)])⟩),
  (32, ⟨1, 24, [.slice none 0 0], true, (.st [(0, 1, false)])⟩),
  (33, ⟨1, 8, [.nilFunc], false, .oth⟩),
  (34, ⟨1, 8, [.nilFunc], false, .oth⟩),
  (35, ⟨1, 24, [.slice none 0 0], false, (.sl 56)⟩),
  (36, ⟨1, 24, [.slice none 0 0], true, (.st [(0, 1, false)])⟩),
  (37, ⟨1, 24, [.slice none 0 0], true, (.st [(0, 1, false)])⟩),
  (38, ⟨1, 8, [.nilFunc], false, .oth⟩),
  (39, ⟨1, 8, [.nilFunc], false, .oth⟩),
  (40, ⟨1, 8, [.nilFunc], false, .oth⟩),
  (41, ⟨1, 8, [.nilFunc], false, .oth⟩),
  (42, ⟨1, 8, [.nilFunc], false, .oth⟩),
  (43, ⟨1, 8, [.nilFunc], false, .oth⟩),
  (44, ⟨1, 8, [.nilFunc], false, .oth⟩),
  (45, ⟨1, 8, [.nilFunc], false, .oth⟩),
  (46, ⟨1, 8, [.nilFunc], false, .oth⟩),
  (47, ⟨1, 8, [.nilFunc], false, .oth⟩),
  (48, ⟨1, 8, [.nilFunc], false, .oth⟩),
  (49, ⟨1, 8, [.nilFunc], false, .oth⟩),
  (50, ⟨1, 8, [.nilFunc], false, .oth⟩),
  (51, ⟨1, 8, [.nilFunc], false, .oth⟩),
  (52, ⟨1, 8, [.nilFunc], false, .oth⟩),
  (53, ⟨1, 8, [.nilFunc], false, .oth⟩),
  (54, ⟨1, 24, [.slice none 0 0], false, (.sl 3)⟩),
  (55, ⟨4, 32, [.int .i64 0, .int .i64 0, .int .i64 0, .int .i64 0], true, (.st [(0, 1, false), (1, 1, false), (2, 1, false), (3, 1, false)])⟩),
  (56, ⟨4, 32, [.int .i64 0, .int .i64 0, .int .i64 0, .int .i64 0], true, (.st [(0, 1, false), (1, 1, false), (2, 1, false), (3, 1, false)])⟩),
  (57, ⟨1, 8, [.nilFunc], false, .oth⟩),
  (58, ⟨1, 8, [.nilFunc], false, .oth⟩),
  (59, ⟨1, 8, [.nilFunc], false, .oth⟩),
  (60, ⟨1, 24, [.slice none 0 0], false, (.sl 9)⟩),
  (61, ⟨1, 8, [.nilFunc], false, .oth⟩),
  (62, ⟨4, 32, [.int .i64 0, .int .i64 0, .int .i64 0, .int .i64 0], true, (.st [(0, 1, false), (1, 1, false), (2, 1, false), (3, 1, false)])⟩),
  (63, ⟨1, 8, [.nilFunc], false, .oth⟩),
  (64, ⟨1, 8, [.nilFunc], false, .oth⟩),
  (65, ⟨1, 8, [.nilFunc], false, .oth⟩),
  (66, ⟨1, 24, [.slice none 0 0], false, (.sl 5)⟩),
  (67, ⟨1, 8, [.nilFunc], false, .oth⟩),
  (68, ⟨1, 8, [.nilFunc], false, .oth⟩),
  (70, ⟨1, 8, [.nilFunc], false, .oth⟩),
  (71, ⟨1, 8, [.nilFunc], false, .oth⟩),
  (72, ⟨1, 8, [.nilFunc], false, .oth⟩),
  (73, ⟨1, 8, [.nilFunc], false, .oth⟩),
  (74, ⟨1, 8, [.nilFunc], false, .oth⟩),
  (75, ⟨1, 8, [.nilFunc], false, .oth⟩),
  (76, ⟨1, 8, [.nilFunc], false, .oth⟩),
  (77, ⟨1, 8, [.int .u64 0], false, (.int .u64)⟩),
  (78, ⟨24, 24, [.int .u8 0, .int .u8 0, .int .u8 0, .int .u8 0, .int .u8 0, .int .u8 0, .int .u8 0, .int .u8 0, .int .u8 0, .int .u8 0, .int .u8 0, .int .u8 0, .int .u8 0, .int .u8 0, .int .u8 0, .int .u8 0, .int .u8 0, .int .u8 0, .int .u8 0, .int .u8 0, .int .u8 0, .int .u8 0, .int .u8 0, .int .u8 0], true, .oth⟩),
  (79, ⟨1, 8, [.int .u64 0], false, (.int .u64)⟩),
  (80, ⟨1, 8, [.nilFunc], false, .oth⟩),
  (81, ⟨1, 8, [.nilFunc], false, .oth⟩),
  (83, ⟨1, 8, [.nilFunc], false, .oth⟩),
  (84, ⟨1, 8, [.nilFunc], false, .oth⟩),
  (85, ⟨1, 8, [.nilFunc], false, .oth⟩),
  (86, ⟨1, 4, [.int .u32 0], false, (.int .u32)⟩),
  (88, ⟨1, 8, [.nilFunc], false, .oth⟩),
  (89, ⟨20, 160, [.int .u64 0, .int .u64 0, .int .u64 0, .int .u64 0, .int .u64 0, .int .u64 0, .int .u64 0, .int .u64 0, .int .u64 0, .int .u64 0, .int .u64 0, .int .u64 0, .int .u64 0, .int .u64 0, .int .u64 0, .int .u64 0, .int .u64 0, .int .u64 0, .int .u64 0, .int .u64 0], true, .oth⟩),
  (90, ⟨65, 65, [.int .u8 0, .int .u8 0, .int .u8 0, .int .u8 0, .int .u8 0, .int .u8 0, .int .u8 0, .int .u8 0, .int .u8 0, .int .u8 0, .int .u8 0, .int .u8 0, .int .u8 0, .int .u8 0, .int .u8 0, .int .u8 0, .int .u8 0, .int .u8 0, .int .u8 0, .int .u8 0, .int .u8 0, .int .u8 0, .int .u8 0, .int .u8 0, .int .u8 0, .int .u8 0, .int .u8 0, .int .u8 0, .int .u8 0, .int .u8 0, .int .u8 0, .int .u8 0, .int .u8 0, .int .u8 0, .int .u8 0, .int .u8 0, .int .u8 0, .int .u8 0, .int .u8 0, .int .u8 0, .int .u8 0, .int .u8 0, .int .u8 0, .int .u8 0, .int .u8 0, .int .u8 0, .int .u8 0, .int .u8 0, .int .u8 0, .int .u8 0, .int .u8 0, .int .u8 0, .int .u8 0, .int .u8 0, .int .u8 0, .int .u8 0, .int .u8 0, .int .u8 0, .int .u8 0, .int .u8 0, .int .u8 0, .int .u8 0, .int .u8 0, .int .u8 0, .int .u8 0], true, .oth⟩),
  (91, ⟨1, 8, [.nilFunc], false, .oth⟩),
  (92, ⟨1, 8, [.nilFunc], false, .oth⟩),
  (93, ⟨32, 32, [.int .u8 0, .int .u8 0, .int .u8 0, .int .u8 0, .int .u8 0, .int .u8 0, .int .u8 0, .int .u8 0, .int .u8 0, .int .u8 0, .int .u8 0, .int .u8 0, .int .u8 0, .int .u8 0, .int .u8 0, .int .u8 0, .int .u8 0, .int .u8 0, .int .u8 0, .int .u8 0, .int .u8 0, .int .u8 0, .int .u8 0, .int .u8 0, .int .u8 0, .int .u8 0, .int .u8 0, .int .u8 0, .int .u8 0, .int .u8 0, .int .u8 0, .int .u8 0], true, .oth⟩),
  (94, ⟨64, 64, [.int .u8 0, .int .u8 0, .int .u8 0, .int .u8 0, .int .u8 0, .int .u8 0, .int .u8 0, .int .u8 0, .int .u8 0, .int .u8 0, .int .u8 0, .int .u8 0, .int .u8 0, .int .u8 0, .int .u8 0, .int .u8 0, .int .u8 0, .int .u8 0, .int .u8 0, .int .u8 0, .int .u8 0, .int .u8 0, .int .u8 0, .int .u8 0, .int .u8 0, .int .u8 0, .int .u8 0, .int .u8 0, .int .u8 0, .int .u8 0, .int .u8 0, .int .u8 0, .int .u8 0, .int .u8 0, .int .u8 0, .int .u8 0, .int .u8 0, .int .u8 0, .int .u8 0, .int .u8 0, .int .u8 0, .int .u8 0, .int .u8 0, .int .u8 0, .int .u8 0, .int .u8 0, .int .u8 0, .int .u8 0, .int .u8 0, .int .u8 0, .int .u8 0, .int .u8 0, .int .u8 0, .int .u8 0, .int .u8 0, .int .u8 0, .int .u8 0, .int .u8 0, .int .u8 0, .int .u8 0, .int .u8 0, .int .u8 0, .int .u8 0, .int .u8 0], true, .oth⟩),
  (95, ⟨4, 40, [.pointer none, .pointer none, .pointer none, .string ⟨#[]⟩], true, (.st [(0, 1, false), (1, 1, false), (2, 1, false), (3, 1, false)])⟩),
  (96, ⟨4, 40, [.pointer none, .pointer none, .pointer none, .string ⟨#[]⟩], true, (.st [(0, 1, false), (1, 1, false), (2, 1, false), (3, 1, false)])⟩),
  (97, ⟨0, 0, [], true, .oth⟩),
  (98, ⟨0, 0, [], true, (.st [(0, 0, true)])⟩),
  (99, ⟨0, 0, [], true, (.st [(0, 0, true)])⟩),
  (100, ⟨1, 1, [.int .u8 0], false, (.int .u8)⟩),
  (101, ⟨1, 1, [.int .u8 0], false, (.int .u8)⟩),
  (102, ⟨1, 8, [.nilFunc], false, .oth⟩),
  (103, ⟨1, 8, [.pointer none], false, .oth⟩),
  (104, ⟨1, 4, [.int .i32 0], false, (.int .i32)⟩),
  (105, ⟨1, 4, [.int .i32 0], false, (.int .i32)⟩),
  (106, ⟨11, 48, [.int .u64 0, .int .u64 0, .int .u32 0, .int .u8 0, .int .u8 0, .int .u8 0, .int .u8 0, .nilFunc, .pointer none, .int .i32 0, .int .i32 0], true, (.st [(0, 1, false), (1, 1, false), (2, 1, false), (3, 1, false), (4, 1, false), (5, 1, false), (6, 1, false), (7, 1, false), (8, 1, false), (9, 1, false), (10, 1, false)])⟩),
  (107, ⟨11, 48, [.int .u64 0, .int .u64 0, .int .u32 0, .int .u8 0, .int .u8 0, .int .u8 0, .int .u8 0, .nilFunc, .pointer none, .int .i32 0, .int .i32 0], true, (.st [(0, 1, false), (1, 1, false), (2, 1, false), (3, 1, false), (4, 1, false), (5, 1, false), (6, 1, false), (7, 1, false), (8, 1, false), (9, 1, false), (10, 1, false)])⟩),
  (108, ⟨1, 8, [.pointer none], false, .oth⟩)], [], []⟩
instance TT.tg : TG TT ⟨[], []⟩ := ⟨rfl⟩
instance TT.ok : TOk TT Tryd.prog := TOk.of ⟨by kernel_rfl, by kernel_rfl, by kernel_rfl, by kernel_rfl, by kernel_rfl, by kernel_rfl, by kernel_rfl, by kernel_rfl, by kernel_rfl, by kernel_rfl, by kernel_rfl, by kernel_rfl, by kernel_rfl, by kernel_rfl, by kernel_rfl, by kernel_rfl, by kernel_rfl, by kernel_rfl, by kernel_rfl, by kernel_rfl, by kernel_rfl, by kernel_rfl, by kernel_rfl, by kernel_rfl, by kernel_rfl, by kernel_rfl, by kernel_rfl, by kernel_rfl, by kernel_rfl, by kernel_rfl, by kernel_rfl, by kernel_rfl, by kernel_rfl, by kernel_rfl, by kernel_rfl, by kernel_rfl, by kernel_rfl, by kernel_rfl, by kernel_rfl, by kernel_rfl, by kernel_rfl, by kernel_rfl, by kernel_rfl, by kernel_rfl, by kernel_rfl, by kernel_rfl, by kernel_rfl, by kernel_rfl, by kernel_rfl, by kernel_rfl, by kernel_rfl, by kernel_rfl, by kernel_rfl, by kernel_rfl, by kernel_rfl, by kernel_rfl, by kernel_rfl, by kernel_rfl, by kernel_rfl, by kernel_rfl, by kernel_rfl, by kernel_rfl, by kernel_rfl, by kernel_rfl, by kernel_rfl, by kernel_rfl, by kernel_rfl, by kernel_rfl, by kernel_rfl, by kernel_rfl, by kernel_rfl, by kernel_rfl, by kernel_rfl, by kernel_rfl, by kernel_rfl, by kernel_rfl, by kernel_rfl, by kernel_rfl, by kernel_rfl, by kernel_rfl, by kernel_rfl, by kernel_rfl, by kernel_rfl, by kernel_rfl, by kernel_rfl, by kernel_rfl, by kernel_rfl, by kernel_rfl, by kernel_rfl, by kernel_rfl, by kernel_rfl, by kernel_rfl, by kernel_rfl, by kernel_rfl, by kernel_rfl, by kernel_rfl, by kernel_rfl, by kernel_rfl, by kernel_rfl, by kernel_rfl, by kernel_rfl, by kernel_rfl, by kernel_rfl, by kernel_rfl, trivial⟩
theorem i1 : ti TT 1 = some ⟨1, 8, [.nilFunc], false, .oth⟩ := rfl
theorem k1 : tk TT 1 = .oth := rfl
theorem i2 : ti TT 2 = some ⟨1, 8, [.int .i64 0], false, (.int .i64)⟩ := rfl
theorem k2 : tk TT 2 = (.int .i64) := rfl
theorem i3 : ti TT 3 = some ⟨1, 8, [.int .i64 0], false, (.int .i64)⟩ := rfl
theorem k3 : tk TT 3 = (.int .i64) := rfl
theorem i4 : ti TT 4 = some ⟨1, 1, [.bool false], false, .bool⟩ := rfl
theorem k4 : tk TT 4 = .bool := rfl
theorem i5 : ti TT 5 = some ⟨1, 1, [.int .u8 0], false, (.int .u8)⟩ := rfl
theorem k5 : tk TT 5 = (.int .u8) := rfl
theorem i6 : ti TT 6 = some ⟨1, 1, [.int .u8 0], false, (.int .u8)⟩ := rfl
theorem k6 : tk TT 6 = (.int .u8) := rfl
theorem i7 : ti TT 7 = some ⟨4, 24, [.int .i64 0, .int .i64 0, .bool false, .int .u8 0], true, (.st [(0, 1, false), (1, 1, false), (2, 1, false), (3, 1, false)])⟩ := rfl
theorem k7 : tk TT 7 = (.st [(0, 1, false), (1, 1, false), (2, 1, false), (3, 1, false)]) := rfl
theorem i8 : ti TT 8 = some ⟨4, 24, [.int .i64 0, .int .i64 0, .bool false, .int .u8 0], true, (.st [(0, 1, false), (1, 1, false), (2, 1, false), (3, 1, false)])⟩ := rfl
theorem k8 : tk TT 8 = (.st [(0, 1, false), (1, 1, false), (2, 1, false), (3, 1, false)]) := rfl
theorem i9 : ti TT 9 = some ⟨1, 16, [.string ⟨#[]⟩], false, .str⟩ := rfl
theorem k9 : tk TT 9 = .str := rfl
theorem i10 : ti TT 10 = some ⟨1, 16, [.string ⟨#[]⟩], false, .str⟩ := rfl
theorem k10 : tk TT 10 = .str := rfl
theorem i11 : ti TT 11 = some ⟨1, 16, [.string ⟨#[]⟩], false, .str⟩ := rfl
theorem k11 : tk TT 11 = .str := rfl
theorem i12 : ti TT 12 = some ⟨1, 8, [.int .u64 0], false, (.int .u64)⟩ := rfl
theorem k12 : tk TT 12 = (.int .u64) := rfl
theorem i13 : ti TT 13 = some ⟨2, 24, [.string ⟨#[]⟩, .int .u64 0], true, (.st [(0, 1, false), (1, 1, false)])⟩ := rfl
theorem k13 : tk TT 13 = (.st [(0, 1, false), (1, 1, false)]) := rfl
theorem i14 : ti TT 14 = some ⟨2, 24, [.string ⟨#[]⟩, .int .u64 0], true, (.st [(0, 1, false), (1, 1, false)])⟩ := rfl
theorem k14 : tk TT 14 = (.st [(0, 1, false), (1, 1, false)]) := rfl
theorem i15 : ti TT 15 = some ⟨1, 8, [.pointer none], false, .oth⟩ := rfl
theorem k15 : tk TT 15 = .oth := rfl
theorem i16 : ti TT 16 = some ⟨1, 8, [.pointer none], false, .oth⟩ := rfl
theorem k16 : tk TT 16 = .oth := rfl
theorem i17 : ti TT 17 = some ⟨1, 8, [.pointer none], false, .oth⟩ := rfl
theorem k17 : tk TT 17 = .oth := rfl
theorem i18 : ti TT 18 = some ⟨1, 8, [.pointer none], true, (.st [(0, 1, false)])⟩ := rfl
theorem k18 : tk TT 18 = (.st [(0, 1, false)]) := rfl
theorem i19 : ti TT 19 = some ⟨1, 8, [.pointer none], true, (.st [(0, 1, false)])⟩ := rfl
theorem k19 : tk TT 19 = (.st [(0, 1, false)]) := rfl
theorem i20 : ti TT 20 = some ⟨1, 16, [.nilIface], false, .oth⟩ := rfl
theorem k20 : tk TT 20 = .oth := rfl
theorem i21 : ti TT 21 = some ⟨1, 4, [.int .i32 0], false, (.int .i32)⟩ := rfl
theorem k21 : tk TT 21 = (.int .i32) := rfl
theorem i22 : ti TT 22 = some ⟨3, 32, [.int .i64 0, .int .i64 0, .string ⟨#[]⟩], true, (.st [(0, 1, false), (1, 1, false), (2, 1, false)])⟩ := rfl
theorem k22 : tk TT 22 = (.st [(0, 1, false), (1, 1, false), (2, 1, false)]) := rfl
theorem i23 : ti TT 23 = some ⟨3, 32, [.int .i64 0, .int .i64 0, .string ⟨#[]⟩], true, (.st [(0, 1, false), (1, 1, false), (2, 1, false)])⟩ := rfl
theorem k23 : tk TT 23 = (.st [(0, 1, false), (1, 1, false), (2, 1, false)]) := rfl
theorem i24 : ti TT 24 = some ⟨1, 8, [.nilFunc], false, .oth⟩ := rfl
theorem k24 : tk TT 24 = .oth := rfl
theorem i26 : ti TT 26 = some ⟨1, 8, [.nilFunc], false, .oth⟩ := rfl
theorem k26 : tk TT 26 = .oth := rfl
theorem i27 : ti TT 27 = some ⟨3, 32, [.int .i64 0, .int .i64 0, .string ⟨#[]⟩], true, (.st [(0, 1, false), (1, 1, false), (2, 1, false)])⟩ := rfl
theorem k27 : tk TT 27 = (.st [(0, 1, false), (1, 1, false), (2, 1, false)]) := rfl
theorem i28 : ti TT 28 = some ⟨1, 8, [.nilFunc], false, .oth⟩ := rfl
theorem k28 : tk TT 28 = .oth := rfl
theorem i29 : ti TT 29 = some ⟨1, 8, [.nilFunc], false, .oth⟩ := rfl
theorem k29 : tk TT 29 = .oth := rfl
theorem i30 : ti TT 30 = some ⟨1, 24, [.slice none 0 0], false, (.sl 62)⟩ := rfl
theorem k30 : tk TT 30 = (.sl 62) := rfl
theorem i31 : ti TT 31 = some ⟨1, 24, [.slice none 0 0], true, (.st [(0, 1, false)])⟩ := rfl
theorem k31 : tk TT 31 = (.st [(0, 1, false)]) := rfl
theorem i32 : ti TT 32 = some ⟨1, 24, [.slice none 0 0], true, (.st [(0, 1, false)])⟩ := rfl
theorem k32 : tk TT 32 = (.st [(0, 1, false)]) := rfl
theorem i33 : ti TT 33 = some ⟨1, 8, [.nilFunc], false, .oth⟩ := rfl
theorem k33 : tk TT 33 = .oth := rfl
theorem i34 : ti TT 34 = some ⟨1, 8, [.nilFunc], false, .oth⟩ := rfl
theorem k34 : tk TT 34 = .oth := rfl
theorem i35 : ti TT 35 = some ⟨1, 24, [.slice none 0 0], false, (.sl 56)⟩ := rfl
theorem k35 : tk TT 35 = (.sl 56) := rfl
theorem i36 : ti TT 36 = some ⟨1, 24, [.slice none 0 0], true, (.st [(0, 1, false)])⟩ := rfl
theorem k36 : tk TT 36 = (.st [(0, 1, false)]) := rfl
theorem i37 : ti TT 37 = some ⟨1, 24, [.slice none 0 0], true, (.st [(0, 1, false)])⟩ := rfl
theorem k37 : tk TT 37 = (.st [(0, 1, false)]) := rfl
theorem i38 : ti TT 38 = some ⟨1, 8, [.nilFunc], false, .oth⟩ := rfl
theorem k38 : tk TT 38 = .oth := rfl
theorem i39 : ti TT 39 = some ⟨1, 8, [.nilFunc], false, .oth⟩ := rfl
theorem k39 : tk TT 39 = .oth := rfl
theorem i40 : ti TT 40 = some ⟨1, 8, [.nilFunc], false, .oth⟩ := rfl
theorem k40 : tk TT 40 = .oth := rfl
theorem i41 : ti TT 41 = some ⟨1, 8, [.nilFunc], false, .oth⟩ := rfl
theorem k41 : tk TT 41 = .oth := rfl
theorem i42 : ti TT 42 = some ⟨1, 8, [.nilFunc], false, .oth⟩ := rfl
theorem k42 : tk TT 42 = .oth := rfl
theorem i43 : ti TT 43 = some ⟨1, 8, [.nilFunc], false, .oth⟩ := rfl
theorem k43 : tk TT 43 = .oth := rfl
theorem i44 : ti TT 44 = some ⟨1, 8, [.nilFunc], false, .oth⟩ := rfl
theorem k44 : tk TT 44 = .oth := rfl
theorem i45 : ti TT 45 = some ⟨1, 8, [.nilFunc], false, .oth⟩ := rfl
theorem k45 : tk TT 45 = .oth := rfl
theorem i46 : ti TT 46 = some ⟨1, 8, [.nilFunc], false, .oth⟩ := rfl
theorem k46 : tk TT 46 = .oth := rfl
theorem i47 : ti TT 47 = some ⟨1, 8, [.nilFunc], false, .oth⟩ := rfl
theorem k47 : tk TT 47 = .oth := rfl
theorem i48 : ti TT 48 = some ⟨1, 8, [.nilFunc], false, .oth⟩ := rfl
theorem k48 : tk TT 48 = .oth := rfl
theorem i49 : ti TT 49 = some ⟨1, 8, [.nilFunc], false, .oth⟩ := rfl
theorem k49 : tk TT 49 = .oth := rfl
theorem i50 : ti TT 50 = some ⟨1, 8, [.nilFunc], false, .oth⟩ := rfl
theorem k50 : tk TT 50 = .oth := rfl
theorem i51 : ti TT 51 = some ⟨1, 8, [.nilFunc], false, .oth⟩ := rfl
theorem k51 : tk TT 51 = .oth := rfl
theorem i52 : ti TT 52 = some ⟨1, 8, [.nilFunc], false, .oth⟩ := rfl
theorem k52 : tk TT 52 = .oth := rfl
theorem i53 : ti TT 53 = some ⟨1, 8, [.nilFunc], false, .oth⟩ := rfl
theorem k53 : tk TT 53 = .oth := rfl
theorem i54 : ti TT 54 = some ⟨1, 24, [.slice none 0 0], false, (.sl 3)⟩ := rfl
theorem k54 : tk TT 54 = (.sl 3) := rfl
theorem i55 : ti TT 55 = some ⟨4, 32, [.int .i64 0, .int .i64 0, .int .i64 0, .int .i64 0], true, (.st [(0, 1, false), (1, 1, false), (2, 1, false), (3, 1, false)])⟩ := rfl
theorem k55 : tk TT 55 = (.st [(0, 1, false), (1, 1, false), (2, 1, false), (3, 1, false)]) := rfl
theorem i56 : ti TT 56 = some ⟨4, 32, [.int .i64 0, .int .i64 0, .int .i64 0, .int .i64 0], true, (.st [(0, 1, false), (1, 1, false), (2, 1, false), (3, 1, false)])⟩ := rfl
theorem k56 : tk TT 56 = (.st [(0, 1, false), (1, 1, false), (2, 1, false), (3, 1, false)]) := rfl
theorem i57 : ti TT 57 = some ⟨1, 8, [.nilFunc], false, .oth⟩ := rfl
theorem k57 : tk TT 57 = .oth := rfl
theorem i58 : ti TT 58 = some ⟨1, 8, [.nilFunc], false, .oth⟩ := rfl
theorem k58 : tk TT 58 = .oth := rfl
theorem i59 : ti TT 59 = some ⟨1, 8, [.nilFunc], false, .oth⟩ := rfl
theorem k59 : tk TT 59 = .oth := rfl
theorem i60 : ti TT 60 = some ⟨1, 24, [.slice none 0 0], false, (.sl 9)⟩ := rfl
theorem k60 : tk TT 60 = (.sl 9) := rfl
theorem i61 : ti TT 61 = some ⟨1, 8, [.nilFunc], false, .oth⟩ := rfl
theorem k61 : tk TT 61 = .oth := rfl
theorem i62 : ti TT 62 = some ⟨4, 32, [.int .i64 0, .int .i64 0, .int .i64 0, .int .i64 0], true, (.st [(0, 1, false), (1, 1, false), (2, 1, false), (3, 1, false)])⟩ := rfl
theorem k62 : tk TT 62 = (.st [(0, 1, false), (1, 1, false), (2, 1, false), (3, 1, false)]) := rfl
theorem i63 : ti TT 63 = some ⟨1, 8, [.nilFunc], false, .oth⟩ := rfl
theorem k63 : tk TT 63 = .oth := rfl
theorem i64 : ti TT 64 = some ⟨1, 8, [.nilFunc], false, .oth⟩ := rfl
theorem k64 : tk TT 64 = .oth := rfl
theorem i65 : ti TT 65 = some ⟨1, 8, [.nilFunc], false, .oth⟩ := rfl
theorem k65 : tk TT 65 = .oth := rfl
theorem i66 : ti TT 66 = some ⟨1, 24, [.slice none 0 0], false, (.sl 5)⟩ := rfl
theorem k66 : tk TT 66 = (.sl 5) := rfl
theorem i67 : ti TT 67 = some ⟨1, 8, [.nilFunc], false, .oth⟩ := rfl
theorem k67 : tk TT 67 = .oth := rfl
theorem i68 : ti TT 68 = some ⟨1, 8, [.nilFunc], false, .oth⟩ := rfl
theorem k68 : tk TT 68 = .oth := rfl
theorem i70 : ti TT 70 = some ⟨1, 8, [.nilFunc], false, .oth⟩ := rfl
theorem k70 : tk TT 70 = .oth := rfl
theorem i71 : ti TT 71 = some ⟨1, 8, [.nilFunc], false, .oth⟩ := rfl
theorem k71 : tk TT 71 = .oth := rfl
theorem i72 : ti TT 72 = some ⟨1, 8, [.nilFunc], false, .oth⟩ := rfl
theorem k72 : tk TT 72 = .oth := rfl
theorem i73 : ti TT 73 = some ⟨1, 8, [.nilFunc], false, .oth⟩ := rfl
theorem k73 : tk TT 73 = .oth := rfl
theorem i74 : ti TT 74 = some ⟨1, 8, [.nilFunc], false, .oth⟩ := rfl
theorem k74 : tk TT 74 = .oth := rfl
theorem i75 : ti TT 75 = some ⟨1, 8, [.nilFunc], false, .oth⟩ := rfl
theorem k75 : tk TT 75 = .oth := rfl
theorem i76 : ti TT 76 = some ⟨1, 8, [.nilFunc], false, .oth⟩ := rfl
theorem k76 : tk TT 76 = .oth := rfl
theorem i77 : ti TT 77 = some ⟨1, 8, [.int .u64 0], false, (.int .u64)⟩ := rfl
theorem k77 : tk TT 77 = (.int .u64) := rfl
theorem i78 : ti TT 78 = some ⟨24, 24, [.int .u8 0, .int .u8 0, .int .u8 0, .int .u8 0, .int .u8 0, .int .u8 0, .int .u8 0, .int .u8 0, .int .u8 0, .int .u8 0, .int .u8 0, .int .u8 0, .int .u8 0, .int .u8 0, .int .u8 0, .int .u8 0, .int .u8 0, .int .u8 0, .int .u8 0, .int .u8 0, .int .u8 0, .int .u8 0, .int .u8 0, .int .u8 0], true, .oth⟩ := rfl
theorem k78 : tk TT 78 = .oth := rfl
theorem i79 : ti TT 79 = some ⟨1, 8, [.int .u64 0], false, (.int .u64)⟩ := rfl
theorem k79 : tk TT 79 = (.int .u64) := rfl
theorem i80 : ti TT 80 = some ⟨1, 8, [.nilFunc], false, .oth⟩ := rfl
theorem k80 : tk TT 80 = .oth := rfl
theorem i81 : ti TT 81 = some ⟨1, 8, [.nilFunc], false, .oth⟩ := rfl
theorem k81 : tk TT 81 = .oth := rfl
theorem i83 : ti TT 83 = some ⟨1, 8, [.nilFunc], false, .oth⟩ := rfl
theorem k83 : tk TT 83 = .oth := rfl
theorem i84 : ti TT 84 = some ⟨1, 8, [.nilFunc], false, .oth⟩ := rfl
theorem k84 : tk TT 84 = .oth := rfl
theorem i85 : ti TT 85 = some ⟨1, 8, [.nilFunc], false, .oth⟩ := rfl
theorem k85 : tk TT 85 = .oth := rfl
theorem i86 : ti TT 86 = some ⟨1, 4, [.int .u32 0], false, (.int .u32)⟩ := rfl
theorem k86 : tk TT 86 = (.int .u32) := rfl
theorem i88 : ti TT 88 = some ⟨1, 8, [.nilFunc], false, .oth⟩ := rfl
theorem k88 : tk TT 88 = .oth := rfl
theorem i89 : ti TT 89 = some ⟨20, 160, [.int .u64 0, .int .u64 0, .int .u64 0, .int .u64 0, .int .u64 0, .int .u64 0, .int .u64 0, .int .u64 0, .int .u64 0, .int .u64 0, .int .u64 0, .int .u64 0, .int .u64 0, .int .u64 0, .int .u64 0, .int .u64 0, .int .u64 0, .int .u64 0, .int .u64 0, .int .u64 0], true, .oth⟩ := rfl
theorem k89 : tk TT 89 = .oth := rfl
theorem i90 : ti TT 90 = some ⟨65, 65, [.int .u8 0, .int .u8 0, .int .u8 0, .int .u8 0, .int .u8 0, .int .u8 0, .int .u8 0, .int .u8 0, .int .u8 0, .int .u8 0, .int .u8 0, .int .u8 0, .int .u8 0, .int .u8 0, .int .u8 0, .int .u8 0, .int .u8 0, .int .u8 0, .int .u8 0, .int .u8 0, .int .u8 0, .int .u8 0, .int .u8 0, .int .u8 0, .int .u8 0, .int .u8 0, .int .u8 0, .int .u8 0, .int .u8 0, .int .u8 0, .int .u8 0, .int .u8 0, .int .u8 0, .int .u8 0, .int .u8 0, .int .u8 0, .int .u8 0, .int .u8 0, .int .u8 0, .int .u8 0, .int .u8 0, .int .u8 0, .int .u8 0, .int .u8 0, .int .u8 0, .int .u8 0, .int .u8 0, .int .u8 0, .int .u8 0, .int .u8 0, .int .u8 0, .int .u8 0, .int .u8 0, .int .u8 0, .int .u8 0, .int .u8 0, .int .u8 0, .int .u8 0, .int .u8 0, .int .u8 0, .int .u8 0, .int .u8 0, .int .u8 0, .int .u8 0, .int .u8 0], true, .oth⟩ := rfl
theorem k90 : tk TT 90 = .oth := rfl
theorem i91 : ti TT 91 = some ⟨1, 8, [.nilFunc], false, .oth⟩ := rfl
theorem k91 : tk TT 91 = .oth := rfl
theorem i92 : ti TT 92 = some ⟨1, 8, [.nilFunc], false, .oth⟩ := rfl
theorem k92 : tk TT 92 = .oth := rfl
theorem i93 : ti TT 93 = some ⟨32, 32, [.int .u8 0, .int .u8 0, .int .u8 0, .int .u8 0, .int .u8 0, .int .u8 0, .int .u8 0, .int .u8 0, .int .u8 0, .int .u8 0, .int .u8 0, .int .u8 0, .int .u8 0, .int .u8 0, .int .u8 0, .int .u8 0, .int .u8 0, .int .u8 0, .int .u8 0, .int .u8 0, .int .u8 0, .int .u8 0, .int .u8 0, .int .u8 0, .int .u8 0, .int .u8 0, .int .u8 0, .int .u8 0, .int .u8 0, .int .u8 0, .int .u8 0, .int .u8 0], true, .oth⟩ := rfl
theorem k93 : tk TT 93 = .oth := rfl
theorem i94 : ti TT 94 = some ⟨64, 64, [.int .u8 0, .int .u8 0, .int .u8 0, .int .u8 0, .int .u8 0, .int .u8 0, .int .u8 0, .int .u8 0, .int .u8 0, .int .u8 0, .int .u8 0, .int .u8 0, .int .u8 0, .int .u8 0, .int .u8 0, .int .u8 0, .int .u8 0, .int .u8 0, .int .u8 0, .int .u8 0, .int .u8 0, .int .u8 0, .int .u8 0, .int .u8 0, .int .u8 0, .int .u8 0, .int .u8 0, .int .u8 0, .int .u8 0, .int .u8 0, .int .u8 0, .int .u8 0, .int .u8 0, .int .u8 0, .int .u8 0, .int .u8 0, .int .u8 0, .int .u8 0, .int .u8 0, .int .u8 0, .int .u8 0, .int .u8 0, .int .u8 0, .int .u8 0, .int .u8 0, .int .u8 0, .int .u8 0, .int .u8 0, .int .u8 0, .int .u8 0, .int .u8 0, .int .u8 0, .int .u8 0, .int .u8 0, .int .u8 0, .int .u8 0, .int .u8 0, .int .u8 0, .int .u8 0, .int .u8 0, .int .u8 0, .int .u8 0, .int .u8 0, .int .u8 0], true, .oth⟩ := rfl
theorem k94 : tk TT 94 = .oth := rfl
theorem i95 : ti TT 95 = some ⟨4, 40, [.pointer none, .pointer none, .pointer none, .string ⟨#[]⟩], true, (.st [(0, 1, false), (1, 1, false), (2, 1, false), (3, 1, false)])⟩ := rfl
theorem k95 : tk TT 95 = (.st [(0, 1, false), (1, 1, false), (2, 1, false), (3, 1, false)]) := rfl
theorem i96 : ti TT 96 = some ⟨4, 40, [.pointer none, .pointer none, .pointer none, .string ⟨#[]⟩], true, (.st [(0, 1, false), (1, 1, false), (2, 1, false), (3, 1, false)])⟩ := rfl
theorem k96 : tk TT 96 = (.st [(0, 1, false), (1, 1, false), (2, 1, false), (3, 1, false)]) := rfl
theorem i97 : ti TT 97 = some ⟨0, 0, [], true, .oth⟩ := rfl
theorem k97 : tk TT 97 = .oth := rfl
theorem i98 : ti TT 98 = some ⟨0, 0, [], true, (.st [(0, 0, true)])⟩ := rfl
theorem k98 : tk TT 98 = (.st [(0, 0, true)]) := rfl
theorem i99 : ti TT 99 = some ⟨0, 0, [], true, (.st [(0, 0, true)])⟩ := rfl
theorem k99 : tk TT 99 = (.st [(0, 0, true)]) := rfl
theorem i100 : ti TT 100 = some ⟨1, 1, [.int .u8 0], false, (.int .u8)⟩ := rfl
theorem k100 : tk TT 100 = (.int .u8) := rfl
theorem i101 : ti TT 101 = some ⟨1, 1, [.int .u8 0], false, (.int .u8)⟩ := rfl
theorem k101 : tk TT 101 = (.int .u8) := rfl
theorem i102 : ti TT 102 = some ⟨1, 8, [.nilFunc], false, .oth⟩ := rfl
theorem k102 : tk TT 102 = .oth := rfl
theorem i103 : ti TT 103 = some ⟨1, 8, [.pointer none], false, .oth⟩ := rfl
theorem k103 : tk TT 103 = .oth := rfl
theorem i104 : ti TT 104 = some ⟨1, 4, [.int .i32 0], false, (.int .i32)⟩ := rfl
theorem k104 : tk TT 104 = (.int .i32) := rfl
theorem i105 : ti TT 105 = some ⟨1, 4, [.int .i32 0], false, (.int .i32)⟩ := rfl
theorem k105 : tk TT 105 = (.int .i32) := rfl
theorem i106 : ti TT 106 = some ⟨11, 48, [.int .u64 0, .int .u64 0, .int .u32 0, .int .u8 0, .int .u8 0, .int .u8 0, .int .u8 0, .nilFunc, .pointer none, .int .i32 0, .int .i32 0], true, (.st [(0, 1, false), (1, 1, false), (2, 1, false), (3, 1, false), (4, 1, false), (5, 1, false), (6, 1, false), (7, 1, false), (8, 1, false), (9, 1, false), (10, 1, false)])⟩ := rfl
theorem k106 : tk TT 106 = (.st [(0, 1, false), (1, 1, false), (2, 1, false), (3, 1, false), (4, 1, false), (5, 1, false), (6, 1, false), (7, 1, false), (8, 1, false), (9, 1, false), (10, 1, false)]) := rfl
theorem i107 : ti TT 107 = some ⟨11, 48, [.int .u64 0, .int .u64 0, .int .u32 0, .int .u8 0, .int .u8 0, .int .u8 0, .int .u8 0, .nilFunc, .pointer none, .int .i32 0, .int .i32 0], true, (.st [(0, 1, false), (1, 1, false), (2, 1, false), (3, 1, false), (4, 1, false), (5, 1, false), (6, 1, false), (7, 1, false), (8, 1, false), (9, 1, false), (10, 1, false)])⟩ := rfl
theorem k107 : tk TT 107 = (.st [(0, 1, false), (1, 1, false), (2, 1, false), (3, 1, false), (4, 1, false), (5, 1, false), (6, 1, false), (7, 1, false), (8, 1, false), (9, 1, false), (10, 1, false)]) := rfl
theorem i108 : ti TT 108 = some ⟨1, 8, [.pointer none], false, .oth⟩ := rfl
theorem k108 : tk TT 108 = .oth := rfl
attribute [go_sem] i1 k1 i2 k2 i3 k3 i4 k4 i5 k5 i6 k6 i7 k7 i8 k8 i9 k9 i10 k10 i11 k11 i12 k12 i13 k13 i14 k14 i15 k15 i16 k16 i17 k17 i18 k18 i19 k19 i20 k20 i21 k21 i22 k22 i23 k23 i24 k24 i26 k26 i27 k27 i28 k28 i29 k29 i30 k30 i31 k31 i32 k32 i33 k33 i34 k34 i35 k35 i36 k36 i37 k37 i38 k38 i39 k39 i40 k40 i41 k41 i42 k42 i43 k43 i44 k44 i45 k45 i46 k46 i47 k47 i48 k48 i49 k49 i50 k50 i51 k51 i52 k52 i53 k53 i54 k54 i55 k55 i56 k56 i57 k57 i58 k58 i59 k59 i60 k60 i61 k61 i62 k62 i63 k63 i64 k64 i65 k65 i66 k66 i67 k67 i68 k68 i70 k70 i71 k71 i72 k72 i73 k73 i74 k74 i75 k75 i76 k76 i77 k77 i78 k78 i79 k79 i80 k80 i81 k81 i83 k83 i84 k84 i85 k85 i86 k86 i88 k88 i89 k89 i90 k90 i91 k91 i92 k92 i93 k93 i94 k94 i95 k95 i96 k96 i97 k97 i98 k98 i99 k99 i100 k100 i101 k101 i102 k102 i103 k103 i104 k104 i105 k105 i106 k106 i107 k107 i108 k108

abbrev CC : Call := Den Tryd.prog TT Xn
abbrev encD (a : List Int) : D := .sl (a.map .i)

instance (b : Bool) : Con CC 43 [.d (.b b)] True (.d (.i (if b then 1 else 0))) := by
  constructor; intro pre
  refine Den.pureI Tryd.func43 rfl 1 [.tmp 2] (by kernel_rfl) rfl rfl (by simp only [initE_nil, initE_cons, Nat.reduceAdd]; exact rfl) ?_
  repeat' (first | (with_reducible show _ ∧ _; first | (with_reducible refine And.intro (by first | omega | exact Or.inr trivial | exact trivial | (simp only [LX]; omega)) ?_) | (with_reducible refine And.intro ?_ ?_)) | (with_reducible show Wp _ _ _ _ _ _; first | ((with_reducible first | refine Wp.regionR ?_ | refine Wp.skip ?_ | refine Wp.ret ?_ | refine Wp.exit ?_ | refine Wp.drawR (by kernel_rfl) ?_ | refine Wp.label ?_); (try simp -implicitDefEqProofs (disch := omega) only [go_sem])) | (with_reducible first | refine wS fun K hK => ?_ | refine wB fun K hK => ?_ | refine wE ?_)) | (with_reducible show bcase _ _ _; first | (with_reducible first | refine bcaseT ?_ | refine bcaseF ?_) | ((with_reducible refine bcase_s ?_ ?_) <;> intro h <;> first | subst h | (try simp only [FX, LX] at h))) | (with_reducible show op1R _ _ _ _ _ _ _; first | ((with_reducible first | refine wC ?_ | refine wC0 ?_); (first | with_reducible refine pcD_con ?_ rfl ?_ | with_reducible refine pcDQ_con ?_ rfl (by first | exact .inl rfl | exact .inr rfl) ?_) <;> (try simp -implicitDefEqProofs (disch := omega) only [go_sem])) | ((with_reducible first | refine wCn ?_ | refine wC0n ?_); (first | with_reducible refine pcD_con ?_ rfl ?_ | with_reducible refine pcDQ_con ?_ rfl (by first | exact .inl rfl | exact .inr rfl) ?_) <;> (try simp -implicitDefEqProofs (disch := omega) only [go_sem])) | ((with_reducible first | refine r1_append ?_); (try simp -implicitDefEqProofs (disch := omega) only [go_sem]))) | (with_reducible show opsR _ _ _ _ _ _; first | (with_reducible first | refine wG ?_)) | (with_reducible show gcase _ _ _ _; first | ((with_reducible first | refine gcaseTT ?_ | refine gcaseTF ?_ | refine gcaseFT ?_ | refine gcaseFF ?_ | refine gcaseU ?_) <;> (try simp -implicitDefEqProofs (disch := omega) only [go_sem])) | ((with_reducible first | refine wGt ?_ ?_ | refine wGf ?_ ?_) <;> intro h <;> (first | subst h | (simp only [h]; (try simp only [FX, LX] at h))) <;> (try simp -implicitDefEqProofs (disch := omega) only [go_sem]))) | (with_reducible show qR _ _ _ _ _ _ _; first | (with_reducible first | refine wGq ?_)) | (with_reducible show q1R _ _ _ _ _ _ _; first | ((with_reducible first | refine wCq ?_); (first | with_reducible refine pcD_con ?_ rfl ?_ | with_reducible refine pcDQ_con ?_ rfl (by first | exact .inl rfl | exact .inr rfl) ?_) <;> (try simp -implicitDefEqProofs (disch := omega) only [go_sem])) | ((with_reducible first | refine wCqn ?_); (first | with_reducible refine pcD_con ?_ rfl ?_ | with_reducible refine pcDQ_con ?_ rfl (by first | exact .inl rfl | exact .inr rfl) ?_) <;> (try simp -implicitDefEqProofs (disch := omega) only [go_sem]))) | (with_reducible show nilB _ _ _; first | ((with_reducible first | refine nilB_pos (by omega) ?_ | refine nilB_i fun b hb => ?_); (try simp -implicitDefEqProofs (disch := omega) only [go_sem]))) | (with_reducible refine Imp.out ‹Imp _ _› ?_; (try simp only [TX, Nat.reduceBEq])) | assumption | omega | exact trivial | (simp only [LX]; omega))

instance (n a b : Int) : Con CC 25 [.d (.i n), .d (.i a), .d (.i b)] True (.d (.b (decide (a ≤ n) && decide (n ≤ b)))) := by
  constructor; intro pre
  refine Den.pureI Tryd.func25 rfl 3 [.tmp 6] (by kernel_rfl) rfl rfl (by simp only [initE_nil, initE_cons, Nat.reduceAdd]; exact rfl) ?_
  repeat' (first | (with_reducible show _ ∧ _; first | (with_reducible refine And.intro (by first | omega | exact Or.inr trivial | exact trivial | (simp only [LX]; omega)) ?_) | (with_reducible refine And.intro ?_ ?_)) | (with_reducible show Wp _ _ _ _ _ _; first | ((with_reducible first | refine Wp.regionR ?_ | refine Wp.skip ?_ | refine Wp.ret ?_ | refine Wp.exit ?_ | refine Wp.drawR (by kernel_rfl) ?_ | refine Wp.label ?_); (try simp -implicitDefEqProofs (disch := omega) only [go_sem])) | (with_reducible first | refine wS fun K hK => ?_ | refine wB fun K hK => ?_ | refine wE ?_)) | (with_reducible show bcase _ _ _; first | (with_reducible first | refine bcaseT ?_ | refine bcaseF ?_) | ((with_reducible refine bcase_s ?_ ?_) <;> intro h <;> first | subst h | (try simp only [FX, LX] at h))) | (with_reducible show op1R _ _ _ _ _ _ _; first | ((with_reducible first | refine wC ?_ | refine wC0 ?_); (first | with_reducible refine pcD_con ?_ rfl ?_ | with_reducible refine pcDQ_con ?_ rfl (by first | exact .inl rfl | exact .inr rfl) ?_) <;> (try simp -implicitDefEqProofs (disch := omega) only [go_sem])) | ((with_reducible first | refine wCn ?_ | refine wC0n ?_); (first | with_reducible refine pcD_con ?_ rfl ?_ | with_reducible refine pcDQ_con ?_ rfl (by first | exact .inl rfl | exact .inr rfl) ?_) <;> (try simp -implicitDefEqProofs (disch := omega) only [go_sem])) | ((with_reducible first | refine r1_append ?_); (try simp -implicitDefEqProofs (disch := omega) only [go_sem]))) | (with_reducible show opsR _ _ _ _ _ _; first | (with_reducible first | refine wG ?_)) | (with_reducible show gcase _ _ _ _; first | ((with_reducible first | refine gcaseTT ?_ | refine gcaseTF ?_ | refine gcaseFT ?_ | refine gcaseFF ?_ | refine gcaseU ?_) <;> (try simp -implicitDefEqProofs (disch := omega) only [go_sem])) | ((with_reducible first | refine wGt ?_ ?_ | refine wGf ?_ ?_) <;> intro h <;> (first | subst h | (simp only [h]; (try simp only [FX, LX] at h))) <;> (try simp -implicitDefEqProofs (disch := omega) only [go_sem]))) | (with_reducible show qR _ _ _ _ _ _ _; first | (with_reducible first | refine wGq ?_)) | (with_reducible show q1R _ _ _ _ _ _ _; first | ((with_reducible first | refine wCq ?_); (first | with_reducible refine pcD_con ?_ rfl ?_ | with_reducible refine pcDQ_con ?_ rfl (by first | exact .inl rfl | exact .inr rfl) ?_) <;> (try simp -implicitDefEqProofs (disch := omega) only [go_sem])) | ((with_reducible first | refine wCqn ?_); (first | with_reducible refine pcD_con ?_ rfl ?_ | with_reducible refine pcDQ_con ?_ rfl (by first | exact .inl rfl | exact .inr rfl) ?_) <;> (try simp -implicitDefEqProofs (disch := omega) only [go_sem]))) | (with_reducible show nilB _ _ _; first | ((with_reducible first | refine nilB_pos (by omega) ?_ | refine nilB_i fun b hb => ?_); (try simp -implicitDefEqProofs (disch := omega) only [go_sem]))) | (with_reducible refine Imp.out ‹Imp _ _› ?_; (try simp only [TX, Nat.reduceBEq])) | assumption | omega | exact trivial | (simp only [LX]; omega))
  all_goals (first | omega | exact Or.inr trivial | (congr 3; simp [*]; done) | (congr 3; simp [*]; omega) | skip)

end Go.PL
