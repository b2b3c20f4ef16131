/- A plain machine, sound for the given model, and contracts of functions over it, part 16: A1. Nothing is assumed. -/
import Derived.Test.YtfdjgoapdkpbaaaG15
import Derived.KernelRfl
import Derived.Test.YtfdjgoapdkpbaaaProg
set_option linter.unusedSimpArgs false
set_option linter.unusedVariables false
set_option linter.unusedSectionVars false
/- A1 -/
namespace Go.PL
open Go Go.Proofs
set_option maxRecDepth 10000
set_option maxHeartbeats 4000000
set_option linter.unusedSimpArgs false
set_option linter.unusedVariables false
def Xn : Call := fun _ _ _ _ _ => False

def TT : Tab := ⟨[(1, ⟨1, 8, [.nilFunc], false, .oth⟩),
  (2, ⟨1, 8, [.int .i64 0], false, (.int .i64)⟩),
  (3, ⟨1, 8, [.int .i64 0], false, (.int .i64)⟩),
  (4, ⟨1, 1, [.bool false], false, .bool⟩),
  (5, ⟨1, 1, [.int .u8 0], false, (.int .u8)⟩),
  (6, ⟨1, 1, [.int .u8 0], false, (.int .u8)⟩),
  (7, ⟨4, 24, [.int .i64 0, .int .i64 0, .bool false, .int .u8 0], true, (.st [(0, 1, false), (1, 1, false), (2, 1, false), (3, 1, false)])⟩),
  (8, ⟨4, 24, [.int .i64 0, .int .i64 0, .bool false, .int .u8 0], true, (.st [(0, 1, false), (1, 1, false), (2, 1, false), (3, 1, false)])⟩),
  (9, ⟨1, 16, [.string ⟨#[]⟩], false, .str⟩),
  (10, ⟨1, 16, [.string ⟨#[]⟩], false, .str⟩),
  (11, ⟨1, 16, [.string ⟨#[]⟩], false, .str⟩),
  (12, ⟨1, 8, [.int .u64 0], false, (.int .u64)⟩),
  (13, ⟨2, 24, [.string ⟨#[]⟩, .int .u64 0], true, (.st [(0, 1, false), (1, 1, false)])⟩),
  (14, ⟨2, 24, [.string ⟨#[]⟩, .int .u64 0], true, (.st [(0, 1, false), (1, 1, false)])⟩),
  (15, ⟨1, 8, [.pointer none], false, .oth⟩),
  (16, ⟨1, 8, [.pointer none], false, .oth⟩),
  (17, ⟨1, 8, [.pointer none], false, .oth⟩),
  (18, ⟨1, 8, [.pointer none], true, (.st [(0, 1, false)])⟩),
  (19, ⟨1, 8, [.pointer none], true, (.st [(0, 1, false)])⟩),
  (20, ⟨1, 16, [.nilIface], false, .oth⟩),
  (21, ⟨1, 4, [.int .i32 0], false, (.int .i32)⟩),
  (22, ⟨1, 24, [.slice none 0 0], false, (.sl 62)⟩),
  (23, ⟨2, 32, [.int .i64 0, .slice none 0 0], true, (.st [(0, 1, false), (1, 1, false)])⟩),
  (24, ⟨2, 32, [.int .i64 0, .slice none 0 0], true, (.st [(0, 1, false), (1, 1, false)])⟩),
  (25, ⟨1, 8, [.nilFunc], false, .oth⟩),
  (26, ⟨1, 24, [.slice none 0 0], false, (.sl 29)⟩),
  (27, ⟨1, 24, [.slice none 0 0], false, (.sl 3)⟩),
  (28, ⟨3, 56, [.bool false, .slice none 0 0, .slice none 0 0], true, (.st [(0, 1, false), (1, 1, false), (2, 1, false)])⟩),
  (29, ⟨3, 56, [.bool false, .slice none 0 0, .slice none 0 0], true, (.st [(0, 1, false), (1, 1, false), (2, 1, false)])⟩),
  (30, ⟨6, 96, [.int .i64 0, .int .i64 0, .slice none 0 0, .bool false, .slice none 0 0, .slice none 0 0], true, (.st [(0, 1, false), (1, 1, false), (2, 1, false), (3, 3, true)])⟩),
  (31, ⟨6, 96, [.int .i64 0, .int .i64 0, .slice none 0 0, .bool false, .slice none 0 0, .slice none 0 0], true, (.st [(0, 1, false), (1, 1, false), (2, 1, false), (3, 3, true)])⟩),
  (33, ⟨1, 8, [.nilFunc], false, .oth⟩),
  (34, ⟨1, 24, [.slice none 0 0], false, (.sl 31)⟩),
  (35, ⟨2, 32, [.int .i64 0, .slice none 0 0], true, (.st [(0, 1, false), (1, 1, false)])⟩),
  (36, ⟨2, 32, [.int .i64 0, .slice none 0 0], true, (.st [(0, 1, false), (1, 1, false)])⟩),
  (37, ⟨1, 8, [.nilFunc], false, .oth⟩),
  (38, ⟨1, 8, [.nilFunc], false, .oth⟩),
  (39, ⟨1, 8, [.nilFunc], false, .oth⟩),
  (40, ⟨1, 8, [.nilFunc], false, .oth⟩),
  (41, ⟨1, 8, [.nilFunc], false, .oth⟩),
  (42, ⟨1, 8, [.nilFunc], false, .oth⟩),
  (43, ⟨1, 8, [.nilFunc], false, .oth⟩),
  (44, ⟨1, 8, [.nilFunc], false, .oth⟩),
  (45, ⟨1, 8, [.nilFunc], false, .oth⟩),
  (46, ⟨1, 8, [.nilFunc], false, .oth⟩),
  (47, ⟨1, 8, [.nilFunc], false, .oth⟩),
  (48, ⟨1, 8, [.nilFunc], false, .oth⟩),
  (49, ⟨1, 8, [.nilFunc], false, .oth⟩),
  (50, ⟨1, 8, [.nilFunc], false, .oth⟩),
  (51, ⟨1, 8, [.nilFunc], false, .oth⟩),
  (52, ⟨1, 8, [.nilFunc], false, .oth⟩),
  (53, ⟨1, 8, [.nilFunc], false, .oth⟩),
  (54, ⟨1, 8, [.nilFunc], false, .oth⟩),
  (55, ⟨1, 8, [.nilFunc], false, .oth⟩),
  (56, ⟨1, 8, [.nilFunc], false, .oth⟩),
  (57, ⟨1, 8, [.nilFunc], false, .oth⟩),
  (58, ⟨1, 8, [.nilFunc], false, .oth⟩),
  (59, ⟨1, 24, [.slice none 0 0], false, (.sl 60)⟩),
  (60, ⟨3, 56, [.bool false, .slice none 0 0, .slice none 0 0], true, (.st [(0, 1, false), (1, 1, false), (2, 1, false)])⟩),
  (61, ⟨6, 96, [.int .i64 0, .int .i64 0, .slice none 0 0, .bool false, .slice none 0 0, .slice none 0 0], true, (.st [(0, 1, false), (1, 1, false), (2, 1, false), (3, 3, true)])⟩),
  (62, ⟨6, 96, [.int .i64 0, .int .i64 0, .slice none 0 0, .bool false, .slice none 0 0, .slice none 0 0], true, (.st [(0, 1, false), (1, 1, false), (2, 1, false), (3, 3, true)])⟩),
  (63, ⟨1, 8, [.nilFunc], false, .oth⟩),
  (64, ⟨1, 8, [.nilFunc], false, .oth⟩),
  (66, ⟨1, 8, [.nilFunc], false, .oth⟩),
  (67, ⟨1, 8, [.nilFunc], false, .oth⟩),
  (68, ⟨1, 8, [.nilFunc], false, .oth⟩),
  (69, ⟨1, 8, [.nilFunc], false, .oth⟩),
  (70, ⟨1, 8, [.nilFunc], false, .oth⟩),
  (71, ⟨1, 8, [.nilFunc], false, .oth⟩),
  (72, ⟨1, 8, [.nilFunc], false, .oth⟩),
  (73, ⟨1, 8, [.nilFunc], false, .oth⟩),
  (74, ⟨1, 8, [.nilFunc], false, .oth⟩),
  (75, ⟨1, 8, [.nilFunc], false, .oth⟩),
  (76, ⟨1, 8, [.nilFunc], false, .oth⟩),
  (77, ⟨1, 8, [.nilFunc], false, .oth⟩),
  (78, ⟨1, 8, [.nilFunc], false, .oth⟩),
  (79, ⟨1, 8, [.nilFunc], false, .oth⟩),
  (80, ⟨1, 8, [.nilFunc], false, .oth⟩),
  (81, ⟨1, 8, [.nilFunc], false, .oth⟩),
  (82, ⟨1, 8, [.nilFunc], false, .oth⟩),
  (83, ⟨1, 8, [.nilFunc], false, .oth⟩),
  (85, ⟨1, 8, [.nilFunc], false, .oth⟩),
  (86, ⟨1, 8, [.nilFunc], false, .oth⟩),
  (87, ⟨1, 8, [.nilFunc], false, .oth⟩),
  (88, ⟨1, 8, [.nilFunc], false, .oth⟩),
  (89, ⟨1, 8, [.nilFunc], false, .oth⟩),
  (90, ⟨1, 8, [.nilFunc], false, .oth⟩),
  (91, ⟨1, 8, [.nilFunc], false, .oth⟩),
  (92, ⟨1, 8, [.nilFunc], false, .oth⟩),
  (93, ⟨1, 8, [.nilFunc], false, .oth⟩),
  (94, ⟨1, 8, [.nilFunc], false, .oth⟩),
  (95, ⟨1, 8, [.nilFunc], false, .oth⟩),
  (96, ⟨1, 8, [.nilFunc], false, .oth⟩),
  (97, ⟨1, 8, [.nilFunc], false, .oth⟩),
  (98, ⟨1, 8, [.nilFunc], false, .oth⟩),
  (99, ⟨1, 8, [.nilFunc], false, .oth⟩),
  (100, ⟨4, 40, [.pointer none, .pointer none, .pointer none, .string ⟨#[]⟩], true, (.st [(0, 1, false), (1, 1, false), (2, 1, false), (3, 1, false)])⟩),
  (101, ⟨4, 40, [.pointer none, .pointer none, .pointer none, .string ⟨#[]⟩], true, (.st [(0, 1, false), (1, 1, false), (2, 1, false), (3, 1, false)])⟩),
  (102, ⟨0, 0, [], true, .oth⟩),
  (103, ⟨0, 0, [], true, (.st [(0, 0, true)])⟩),
  (104, ⟨0, 0, [], true, (.st [(0, 0, true)])⟩),
  (105, ⟨1, 8, [.nilFunc], false, .oth⟩),
  (106, ⟨1, 4, [.int .u32 0], false, (.int .u32)⟩),
  (107, ⟨1, 1, [.int .u8 0], false, (.int .u8)⟩),
  (108, ⟨1, 1, [.int .u8 0], false, (.int .u8)⟩),
  (109, ⟨1, 8, [.nilFunc], false, .oth⟩),
  (110, ⟨1, 8, [.pointer none], false, .oth⟩),
  (111, ⟨1, 4, [.int .i32 0], false, (.int .i32)⟩),
  (112, ⟨1, 4, [.int .i32 0], false, (.int .i32)⟩),
  (113, ⟨11, 48, [.int .u64 0, .int .u64 0, .int .u32 0, .int .u8 0, .int .u8 0, .int .u8 0, .int .u8 0, .nilFunc, .pointer none, .int .i32 0, .int .i32 0], true, (.st [(0, 1, false), (1, 1, false), (2, 1, false), (3, 1, false), (4, 1, false), (5, 1, false), (6, 1, false), (7, 1, false), (8, 1, false), (9, 1, false), (10, 1, false)])⟩),
  (114, ⟨11, 48, [.int .u64 0, .int .u64 0, .int .u32 0, .int .u8 0, .int .u8 0, .int .u8 0, .int .u8 0, .nilFunc, .pointer none, .int .i32 0, .int .i32 0], true, (.st [(0, 1, false), (1, 1, false), (2, 1, false), (3, 1, false), (4, 1, false), (5, 1, false), (6, 1, false), (7, 1, false), (8, 1, false), (9, 1, false), (10, 1, false)])⟩),
  (115, ⟨1, 8, [.pointer none], false, .oth⟩)], [79], [], []⟩
instance TT.tg : TG TT ⟨[], []⟩ := ⟨rfl⟩
instance TT.ok : TOk TT Try.prog := TOk.of ⟨by kernel_rfl, by kernel_rfl, by kernel_rfl, by kernel_rfl, by kernel_rfl, by kernel_rfl, by kernel_rfl, by kernel_rfl, by kernel_rfl, by kernel_rfl, by kernel_rfl, by kernel_rfl, by kernel_rfl, by kernel_rfl, by kernel_rfl, by kernel_rfl, by kernel_rfl, by kernel_rfl, by kernel_rfl, by kernel_rfl, by kernel_rfl, by kernel_rfl, by kernel_rfl, by kernel_rfl, by kernel_rfl, by kernel_rfl, by kernel_rfl, by kernel_rfl, by kernel_rfl, by kernel_rfl, by kernel_rfl, by kernel_rfl, by kernel_rfl, by kernel_rfl, by kernel_rfl, by kernel_rfl, by kernel_rfl, by kernel_rfl, by kernel_rfl, by kernel_rfl, by kernel_rfl, by kernel_rfl, by kernel_rfl, by kernel_rfl, by kernel_rfl, by kernel_rfl, by kernel_rfl, by kernel_rfl, by kernel_rfl, by kernel_rfl, by kernel_rfl, by kernel_rfl, by kernel_rfl, by kernel_rfl, by kernel_rfl, by kernel_rfl, by kernel_rfl, by kernel_rfl, by kernel_rfl, by kernel_rfl, by kernel_rfl, by kernel_rfl, by kernel_rfl, by kernel_rfl, by kernel_rfl, by kernel_rfl, by kernel_rfl, by kernel_rfl, by kernel_rfl, by kernel_rfl, by kernel_rfl, by kernel_rfl, by kernel_rfl, by kernel_rfl, by kernel_rfl, by kernel_rfl, by kernel_rfl, by kernel_rfl, by kernel_rfl, by kernel_rfl, by kernel_rfl, by kernel_rfl, by kernel_rfl, by kernel_rfl, by kernel_rfl, by kernel_rfl, by kernel_rfl, by kernel_rfl, by kernel_rfl, by kernel_rfl, by kernel_rfl, by kernel_rfl, by kernel_rfl, by kernel_rfl, by kernel_rfl, by kernel_rfl, by kernel_rfl, by kernel_rfl, by kernel_rfl, by kernel_rfl, by kernel_rfl, by kernel_rfl, by kernel_rfl, by kernel_rfl, by kernel_rfl, by kernel_rfl, by kernel_rfl, by kernel_rfl, by kernel_rfl, by kernel_rfl, by kernel_rfl, by kernel_rfl, trivial⟩
theorem i1 : ti TT 1 = some ⟨1, 8, [.nilFunc], false, .oth⟩ := rfl
theorem k1 : tk TT 1 = .oth := rfl
theorem ke1 : tkE TT 1 = .oth := rfl
theorem i2 : ti TT 2 = some ⟨1, 8, [.int .i64 0], false, (.int .i64)⟩ := rfl
theorem k2 : tk TT 2 = (.int .i64) := rfl
theorem ke2 : tkE TT 2 = (.int .i64) := rfl
theorem i3 : ti TT 3 = some ⟨1, 8, [.int .i64 0], false, (.int .i64)⟩ := rfl
theorem k3 : tk TT 3 = (.int .i64) := rfl
theorem ke3 : tkE TT 3 = (.int .i64) := rfl
theorem i4 : ti TT 4 = some ⟨1, 1, [.bool false], false, .bool⟩ := rfl
theorem k4 : tk TT 4 = .bool := rfl
theorem ke4 : tkE TT 4 = .bool := rfl
theorem i5 : ti TT 5 = some ⟨1, 1, [.int .u8 0], false, (.int .u8)⟩ := rfl
theorem k5 : tk TT 5 = (.int .u8) := rfl
theorem ke5 : tkE TT 5 = (.int .u8) := rfl
theorem i6 : ti TT 6 = some ⟨1, 1, [.int .u8 0], false, (.int .u8)⟩ := rfl
theorem k6 : tk TT 6 = (.int .u8) := rfl
theorem ke6 : tkE TT 6 = (.int .u8) := rfl
theorem i7 : ti TT 7 = some ⟨4, 24, [.int .i64 0, .int .i64 0, .bool false, .int .u8 0], true, (.st [(0, 1, false), (1, 1, false), (2, 1, false), (3, 1, false)])⟩ := rfl
theorem k7 : tk TT 7 = (.st [(0, 1, false), (1, 1, false), (2, 1, false), (3, 1, false)]) := rfl
theorem ke7 : tkE TT 7 = (.st [(0, 1, false), (1, 1, false), (2, 1, false), (3, 1, false)]) := rfl
theorem i8 : ti TT 8 = some ⟨4, 24, [.int .i64 0, .int .i64 0, .bool false, .int .u8 0], true, (.st [(0, 1, false), (1, 1, false), (2, 1, false), (3, 1, false)])⟩ := rfl
theorem k8 : tk TT 8 = (.st [(0, 1, false), (1, 1, false), (2, 1, false), (3, 1, false)]) := rfl
theorem ke8 : tkE TT 8 = (.st [(0, 1, false), (1, 1, false), (2, 1, false), (3, 1, false)]) := rfl
theorem i9 : ti TT 9 = some ⟨1, 16, [.string ⟨#[]⟩], false, .str⟩ := rfl
theorem k9 : tk TT 9 = .str := rfl
theorem ke9 : tkE TT 9 = .str := rfl
theorem i10 : ti TT 10 = some ⟨1, 16, [.string ⟨#[]⟩], false, .str⟩ := rfl
theorem k10 : tk TT 10 = .str := rfl
theorem ke10 : tkE TT 10 = .str := rfl
theorem i11 : ti TT 11 = some ⟨1, 16, [.string ⟨#[]⟩], false, .str⟩ := rfl
theorem k11 : tk TT 11 = .str := rfl
theorem ke11 : tkE TT 11 = .str := rfl
theorem i12 : ti TT 12 = some ⟨1, 8, [.int .u64 0], false, (.int .u64)⟩ := rfl
theorem k12 : tk TT 12 = (.int .u64) := rfl
theorem ke12 : tkE TT 12 = (.int .u64) := rfl
theorem i13 : ti TT 13 = some ⟨2, 24, [.string ⟨#[]⟩, .int .u64 0], true, (.st [(0, 1, false), (1, 1, false)])⟩ := rfl
theorem k13 : tk TT 13 = (.st [(0, 1, false), (1, 1, false)]) := rfl
theorem ke13 : tkE TT 13 = (.st [(0, 1, false), (1, 1, false)]) := rfl
theorem i14 : ti TT 14 = some ⟨2, 24, [.string ⟨#[]⟩, .int .u64 0], true, (.st [(0, 1, false), (1, 1, false)])⟩ := rfl
theorem k14 : tk TT 14 = (.st [(0, 1, false), (1, 1, false)]) := rfl
theorem ke14 : tkE TT 14 = (.st [(0, 1, false), (1, 1, false)]) := rfl
theorem i15 : ti TT 15 = some ⟨1, 8, [.pointer none], false, .oth⟩ := rfl
theorem k15 : tk TT 15 = .oth := rfl
theorem ke15 : tkE TT 15 = .oth := rfl
theorem i16 : ti TT 16 = some ⟨1, 8, [.pointer none], false, .oth⟩ := rfl
theorem k16 : tk TT 16 = .oth := rfl
theorem ke16 : tkE TT 16 = .oth := rfl
theorem i17 : ti TT 17 = some ⟨1, 8, [.pointer none], false, .oth⟩ := rfl
theorem k17 : tk TT 17 = .oth := rfl
theorem ke17 : tkE TT 17 = .oth := rfl
theorem i18 : ti TT 18 = some ⟨1, 8, [.pointer none], true, (.st [(0, 1, false)])⟩ := rfl
theorem k18 : tk TT 18 = (.st [(0, 1, false)]) := rfl
theorem ke18 : tkE TT 18 = (.st [(0, 1, false)]) := rfl
theorem i19 : ti TT 19 = some ⟨1, 8, [.pointer none], true, (.st [(0, 1, false)])⟩ := rfl
theorem k19 : tk TT 19 = (.st [(0, 1, false)]) := rfl
theorem ke19 : tkE TT 19 = (.st [(0, 1, false)]) := rfl
theorem i20 : ti TT 20 = some ⟨1, 16, [.nilIface], false, .oth⟩ := rfl
theorem k20 : tk TT 20 = .oth := rfl
theorem ke20 : tkE TT 20 = .oth := rfl
theorem i21 : ti TT 21 = some ⟨1, 4, [.int .i32 0], false, (.int .i32)⟩ := rfl
theorem k21 : tk TT 21 = (.int .i32) := rfl
theorem ke21 : tkE TT 21 = (.int .i32) := rfl
theorem i22 : ti TT 22 = some ⟨1, 24, [.slice none 0 0], false, (.sl 62)⟩ := rfl
theorem k22 : tk TT 22 = (.sl 62) := rfl
theorem ke22 : tkE TT 22 = (.sl 62) := rfl
theorem i23 : ti TT 23 = some ⟨2, 32, [.int .i64 0, .slice none 0 0], true, (.st [(0, 1, false), (1, 1, false)])⟩ := rfl
theorem k23 : tk TT 23 = (.st [(0, 1, false), (1, 1, false)]) := rfl
theorem ke23 : tkE TT 23 = (.st [(0, 1, false), (1, 1, false)]) := rfl
theorem i24 : ti TT 24 = some ⟨2, 32, [.int .i64 0, .slice none 0 0], true, (.st [(0, 1, false), (1, 1, false)])⟩ := rfl
theorem k24 : tk TT 24 = (.st [(0, 1, false), (1, 1, false)]) := rfl
theorem ke24 : tkE TT 24 = (.st [(0, 1, false), (1, 1, false)]) := rfl
theorem i25 : ti TT 25 = some ⟨1, 8, [.nilFunc], false, .oth⟩ := rfl
theorem k25 : tk TT 25 = .oth := rfl
theorem ke25 : tkE TT 25 = .oth := rfl
theorem i26 : ti TT 26 = some ⟨1, 24, [.slice none 0 0], false, (.sl 29)⟩ := rfl
theorem k26 : tk TT 26 = (.sl 29) := rfl
theorem ke26 : tkE TT 26 = (.sl 29) := rfl
theorem i27 : ti TT 27 = some ⟨1, 24, [.slice none 0 0], false, (.sl 3)⟩ := rfl
theorem k27 : tk TT 27 = (.sl 3) := rfl
theorem ke27 : tkE TT 27 = (.sl 3) := rfl
theorem i28 : ti TT 28 = some ⟨3, 56, [.bool false, .slice none 0 0, .slice none 0 0], true, (.st [(0, 1, false), (1, 1, false), (2, 1, false)])⟩ := rfl
theorem k28 : tk TT 28 = (.st [(0, 1, false), (1, 1, false), (2, 1, false)]) := rfl
theorem ke28 : tkE TT 28 = (.st [(0, 1, false), (1, 1, false), (2, 1, false)]) := rfl
theorem i29 : ti TT 29 = some ⟨3, 56, [.bool false, .slice none 0 0, .slice none 0 0], true, (.st [(0, 1, false), (1, 1, false), (2, 1, false)])⟩ := rfl
theorem k29 : tk TT 29 = (.st [(0, 1, false), (1, 1, false), (2, 1, false)]) := rfl
theorem ke29 : tkE TT 29 = (.st [(0, 1, false), (1, 1, false), (2, 1, false)]) := rfl
theorem i30 : ti TT 30 = some ⟨6, 96, [.int .i64 0, .int .i64 0, .slice none 0 0, .bool false, .slice none 0 0, .slice none 0 0], true, (.st [(0, 1, false), (1, 1, false), (2, 1, false), (3, 3, true)])⟩ := rfl
theorem k30 : tk TT 30 = (.st [(0, 1, false), (1, 1, false), (2, 1, false), (3, 3, true)]) := rfl
theorem ke30 : tkE TT 30 = (.st [(0, 1, false), (1, 1, false), (2, 1, false), (3, 3, true)]) := rfl
theorem i31 : ti TT 31 = some ⟨6, 96, [.int .i64 0, .int .i64 0, .slice none 0 0, .bool false, .slice none 0 0, .slice none 0 0], true, (.st [(0, 1, false), (1, 1, false), (2, 1, false), (3, 3, true)])⟩ := rfl
theorem k31 : tk TT 31 = (.st [(0, 1, false), (1, 1, false), (2, 1, false), (3, 3, true)]) := rfl
theorem ke31 : tkE TT 31 = (.st [(0, 1, false), (1, 1, false), (2, 1, false), (3, 3, true)]) := rfl
theorem i33 : ti TT 33 = some ⟨1, 8, [.nilFunc], false, .oth⟩ := rfl
theorem k33 : tk TT 33 = .oth := rfl
theorem ke33 : tkE TT 33 = .oth := rfl
theorem i34 : ti TT 34 = some ⟨1, 24, [.slice none 0 0], false, (.sl 31)⟩ := rfl
theorem k34 : tk TT 34 = (.sl 31) := rfl
theorem ke34 : tkE TT 34 = (.sl 31) := rfl
theorem i35 : ti TT 35 = some ⟨2, 32, [.int .i64 0, .slice none 0 0], true, (.st [(0, 1, false), (1, 1, false)])⟩ := rfl
theorem k35 : tk TT 35 = (.st [(0, 1, false), (1, 1, false)]) := rfl
theorem ke35 : tkE TT 35 = (.st [(0, 1, false), (1, 1, false)]) := rfl
theorem i36 : ti TT 36 = some ⟨2, 32, [.int .i64 0, .slice none 0 0], true, (.st [(0, 1, false), (1, 1, false)])⟩ := rfl
theorem k36 : tk TT 36 = (.st [(0, 1, false), (1, 1, false)]) := rfl
theorem ke36 : tkE TT 36 = (.st [(0, 1, false), (1, 1, false)]) := rfl
theorem i37 : ti TT 37 = some ⟨1, 8, [.nilFunc], false, .oth⟩ := rfl
theorem k37 : tk TT 37 = .oth := rfl
theorem ke37 : tkE TT 37 = .oth := rfl
theorem i38 : ti TT 38 = some ⟨1, 8, [.nilFunc], false, .oth⟩ := rfl
theorem k38 : tk TT 38 = .oth := rfl
theorem ke38 : tkE TT 38 = .oth := rfl
theorem i39 : ti TT 39 = some ⟨1, 8, [.nilFunc], false, .oth⟩ := rfl
theorem k39 : tk TT 39 = .oth := rfl
theorem ke39 : tkE TT 39 = .oth := rfl
theorem i40 : ti TT 40 = some ⟨1, 8, [.nilFunc], false, .oth⟩ := rfl
theorem k40 : tk TT 40 = .oth := rfl
theorem ke40 : tkE TT 40 = .oth := rfl
theorem i41 : ti TT 41 = some ⟨1, 8, [.nilFunc], false, .oth⟩ := rfl
theorem k41 : tk TT 41 = .oth := rfl
theorem ke41 : tkE TT 41 = .oth := rfl
theorem i42 : ti TT 42 = some ⟨1, 8, [.nilFunc], false, .oth⟩ := rfl
theorem k42 : tk TT 42 = .oth := rfl
theorem ke42 : tkE TT 42 = .oth := rfl
theorem i43 : ti TT 43 = some ⟨1, 8, [.nilFunc], false, .oth⟩ := rfl
theorem k43 : tk TT 43 = .oth := rfl
theorem ke43 : tkE TT 43 = .oth := rfl
theorem i44 : ti TT 44 = some ⟨1, 8, [.nilFunc], false, .oth⟩ := rfl
theorem k44 : tk TT 44 = .oth := rfl
theorem ke44 : tkE TT 44 = .oth := rfl
theorem i45 : ti TT 45 = some ⟨1, 8, [.nilFunc], false, .oth⟩ := rfl
theorem k45 : tk TT 45 = .oth := rfl
theorem ke45 : tkE TT 45 = .oth := rfl
theorem i46 : ti TT 46 = some ⟨1, 8, [.nilFunc], false, .oth⟩ := rfl
theorem k46 : tk TT 46 = .oth := rfl
theorem ke46 : tkE TT 46 = .oth := rfl
theorem i47 : ti TT 47 = some ⟨1, 8, [.nilFunc], false, .oth⟩ := rfl
theorem k47 : tk TT 47 = .oth := rfl
theorem ke47 : tkE TT 47 = .oth := rfl
theorem i48 : ti TT 48 = some ⟨1, 8, [.nilFunc], false, .oth⟩ := rfl
theorem k48 : tk TT 48 = .oth := rfl
theorem ke48 : tkE TT 48 = .oth := rfl
theorem i49 : ti TT 49 = some ⟨1, 8, [.nilFunc], false, .oth⟩ := rfl
theorem k49 : tk TT 49 = .oth := rfl
theorem ke49 : tkE TT 49 = .oth := rfl
theorem i50 : ti TT 50 = some ⟨1, 8, [.nilFunc], false, .oth⟩ := rfl
theorem k50 : tk TT 50 = .oth := rfl
theorem ke50 : tkE TT 50 = .oth := rfl
theorem i51 : ti TT 51 = some ⟨1, 8, [.nilFunc], false, .oth⟩ := rfl
theorem k51 : tk TT 51 = .oth := rfl
theorem ke51 : tkE TT 51 = .oth := rfl
theorem i52 : ti TT 52 = some ⟨1, 8, [.nilFunc], false, .oth⟩ := rfl
theorem k52 : tk TT 52 = .oth := rfl
theorem ke52 : tkE TT 52 = .oth := rfl
theorem i53 : ti TT 53 = some ⟨1, 8, [.nilFunc], false, .oth⟩ := rfl
theorem k53 : tk TT 53 = .oth := rfl
theorem ke53 : tkE TT 53 = .oth := rfl
theorem i54 : ti TT 54 = some ⟨1, 8, [.nilFunc], false, .oth⟩ := rfl
theorem k54 : tk TT 54 = .oth := rfl
theorem ke54 : tkE TT 54 = .oth := rfl
theorem i55 : ti TT 55 = some ⟨1, 8, [.nilFunc], false, .oth⟩ := rfl
theorem k55 : tk TT 55 = .oth := rfl
theorem ke55 : tkE TT 55 = .oth := rfl
theorem i56 : ti TT 56 = some ⟨1, 8, [.nilFunc], false, .oth⟩ := rfl
theorem k56 : tk TT 56 = .oth := rfl
theorem ke56 : tkE TT 56 = .oth := rfl
theorem i57 : ti TT 57 = some ⟨1, 8, [.nilFunc], false, .oth⟩ := rfl
theorem k57 : tk TT 57 = .oth := rfl
theorem ke57 : tkE TT 57 = .oth := rfl
theorem i58 : ti TT 58 = some ⟨1, 8, [.nilFunc], false, .oth⟩ := rfl
theorem k58 : tk TT 58 = .oth := rfl
theorem ke58 : tkE TT 58 = .oth := rfl
theorem i59 : ti TT 59 = some ⟨1, 24, [.slice none 0 0], false, (.sl 60)⟩ := rfl
theorem k59 : tk TT 59 = (.sl 60) := rfl
theorem ke59 : tkE TT 59 = (.sl 60) := rfl
theorem i60 : ti TT 60 = some ⟨3, 56, [.bool false, .slice none 0 0, .slice none 0 0], true, (.st [(0, 1, false), (1, 1, false), (2, 1, false)])⟩ := rfl
theorem k60 : tk TT 60 = (.st [(0, 1, false), (1, 1, false), (2, 1, false)]) := rfl
theorem ke60 : tkE TT 60 = (.st [(0, 1, false), (1, 1, false), (2, 1, false)]) := rfl
theorem i61 : ti TT 61 = some ⟨6, 96, [.int .i64 0, .int .i64 0, .slice none 0 0, .bool false, .slice none 0 0, .slice none 0 0], true, (.st [(0, 1, false), (1, 1, false), (2, 1, false), (3, 3, true)])⟩ := rfl
theorem k61 : tk TT 61 = (.st [(0, 1, false), (1, 1, false), (2, 1, false), (3, 3, true)]) := rfl
theorem ke61 : tkE TT 61 = (.st [(0, 1, false), (1, 1, false), (2, 1, false), (3, 3, true)]) := rfl
theorem i62 : ti TT 62 = some ⟨6, 96, [.int .i64 0, .int .i64 0, .slice none 0 0, .bool false, .slice none 0 0, .slice none 0 0], true, (.st [(0, 1, false), (1, 1, false), (2, 1, false), (3, 3, true)])⟩ := rfl
theorem k62 : tk TT 62 = (.st [(0, 1, false), (1, 1, false), (2, 1, false), (3, 3, true)]) := rfl
theorem ke62 : tkE TT 62 = (.st [(0, 1, false), (1, 1, false), (2, 1, false), (3, 3, true)]) := rfl
theorem i63 : ti TT 63 = some ⟨1, 8, [.nilFunc], false, .oth⟩ := rfl
theorem k63 : tk TT 63 = .oth := rfl
theorem ke63 : tkE TT 63 = .oth := rfl
theorem i64 : ti TT 64 = some ⟨1, 8, [.nilFunc], false, .oth⟩ := rfl
theorem k64 : tk TT 64 = .oth := rfl
theorem ke64 : tkE TT 64 = .oth := rfl
theorem i66 : ti TT 66 = some ⟨1, 8, [.nilFunc], false, .oth⟩ := rfl
theorem k66 : tk TT 66 = .oth := rfl
theorem ke66 : tkE TT 66 = .oth := rfl
theorem i67 : ti TT 67 = some ⟨1, 8, [.nilFunc], false, .oth⟩ := rfl
theorem k67 : tk TT 67 = .oth := rfl
theorem ke67 : tkE TT 67 = .oth := rfl
theorem i68 : ti TT 68 = some ⟨1, 8, [.nilFunc], false, .oth⟩ := rfl
theorem k68 : tk TT 68 = .oth := rfl
theorem ke68 : tkE TT 68 = .oth := rfl
theorem i69 : ti TT 69 = some ⟨1, 8, [.nilFunc], false, .oth⟩ := rfl
theorem k69 : tk TT 69 = .oth := rfl
theorem ke69 : tkE TT 69 = .oth := rfl
theorem i70 : ti TT 70 = some ⟨1, 8, [.nilFunc], false, .oth⟩ := rfl
theorem k70 : tk TT 70 = .oth := rfl
theorem ke70 : tkE TT 70 = .oth := rfl
theorem i71 : ti TT 71 = some ⟨1, 8, [.nilFunc], false, .oth⟩ := rfl
theorem k71 : tk TT 71 = .oth := rfl
theorem ke71 : tkE TT 71 = .oth := rfl
theorem i72 : ti TT 72 = some ⟨1, 8, [.nilFunc], false, .oth⟩ := rfl
theorem k72 : tk TT 72 = .oth := rfl
theorem ke72 : tkE TT 72 = .oth := rfl
theorem i73 : ti TT 73 = some ⟨1, 8, [.nilFunc], false, .oth⟩ := rfl
theorem k73 : tk TT 73 = .oth := rfl
theorem ke73 : tkE TT 73 = .oth := rfl
theorem i74 : ti TT 74 = some ⟨1, 8, [.nilFunc], false, .oth⟩ := rfl
theorem k74 : tk TT 74 = .oth := rfl
theorem ke74 : tkE TT 74 = .oth := rfl
theorem i75 : ti TT 75 = some ⟨1, 8, [.nilFunc], false, .oth⟩ := rfl
theorem k75 : tk TT 75 = .oth := rfl
theorem ke75 : tkE TT 75 = .oth := rfl
theorem i76 : ti TT 76 = some ⟨1, 8, [.nilFunc], false, .oth⟩ := rfl
theorem k76 : tk TT 76 = .oth := rfl
theorem ke76 : tkE TT 76 = .oth := rfl
theorem i77 : ti TT 77 = some ⟨1, 8, [.nilFunc], false, .oth⟩ := rfl
theorem k77 : tk TT 77 = .oth := rfl
theorem ke77 : tkE TT 77 = .oth := rfl
theorem i78 : ti TT 78 = some ⟨1, 8, [.nilFunc], false, .oth⟩ := rfl
theorem k78 : tk TT 78 = .oth := rfl
theorem ke78 : tkE TT 78 = .oth := rfl
theorem i79 : ti TT 79 = some ⟨1, 8, [.nilFunc], false, .oth⟩ := rfl
theorem k79 : tk TT 79 = .oth := rfl
theorem ke79 : tkE TT 79 = .oth := rfl
theorem i80 : ti TT 80 = some ⟨1, 8, [.nilFunc], false, .oth⟩ := rfl
theorem k80 : tk TT 80 = .oth := rfl
theorem ke80 : tkE TT 80 = .oth := rfl
theorem i81 : ti TT 81 = some ⟨1, 8, [.nilFunc], false, .oth⟩ := rfl
theorem k81 : tk TT 81 = .oth := rfl
theorem ke81 : tkE TT 81 = .oth := rfl
theorem i82 : ti TT 82 = some ⟨1, 8, [.nilFunc], false, .oth⟩ := rfl
theorem k82 : tk TT 82 = .oth := rfl
theorem ke82 : tkE TT 82 = .oth := rfl
theorem i83 : ti TT 83 = some ⟨1, 8, [.nilFunc], false, .oth⟩ := rfl
theorem k83 : tk TT 83 = .oth := rfl
theorem ke83 : tkE TT 83 = .oth := rfl
theorem i85 : ti TT 85 = some ⟨1, 8, [.nilFunc], false, .oth⟩ := rfl
theorem k85 : tk TT 85 = .oth := rfl
theorem ke85 : tkE TT 85 = .oth := rfl
theorem i86 : ti TT 86 = some ⟨1, 8, [.nilFunc], false, .oth⟩ := rfl
theorem k86 : tk TT 86 = .oth := rfl
theorem ke86 : tkE TT 86 = .oth := rfl
theorem i87 : ti TT 87 = some ⟨1, 8, [.nilFunc], false, .oth⟩ := rfl
theorem k87 : tk TT 87 = .oth := rfl
theorem ke87 : tkE TT 87 = .oth := rfl
theorem i88 : ti TT 88 = some ⟨1, 8, [.nilFunc], false, .oth⟩ := rfl
theorem k88 : tk TT 88 = .oth := rfl
theorem ke88 : tkE TT 88 = .oth := rfl
theorem i89 : ti TT 89 = some ⟨1, 8, [.nilFunc], false, .oth⟩ := rfl
theorem k89 : tk TT 89 = .oth := rfl
theorem ke89 : tkE TT 89 = .oth := rfl
theorem i90 : ti TT 90 = some ⟨1, 8, [.nilFunc], false, .oth⟩ := rfl
theorem k90 : tk TT 90 = .oth := rfl
theorem ke90 : tkE TT 90 = .oth := rfl
theorem i91 : ti TT 91 = some ⟨1, 8, [.nilFunc], false, .oth⟩ := rfl
theorem k91 : tk TT 91 = .oth := rfl
theorem ke91 : tkE TT 91 = .oth := rfl
theorem i92 : ti TT 92 = some ⟨1, 8, [.nilFunc], false, .oth⟩ := rfl
theorem k92 : tk TT 92 = .oth := rfl
theorem ke92 : tkE TT 92 = .oth := rfl
theorem i93 : ti TT 93 = some ⟨1, 8, [.nilFunc], false, .oth⟩ := rfl
theorem k93 : tk TT 93 = .oth := rfl
theorem ke93 : tkE TT 93 = .oth := rfl
theorem i94 : ti TT 94 = some ⟨1, 8, [.nilFunc], false, .oth⟩ := rfl
theorem k94 : tk TT 94 = .oth := rfl
theorem ke94 : tkE TT 94 = .oth := rfl
theorem i95 : ti TT 95 = some ⟨1, 8, [.nilFunc], false, .oth⟩ := rfl
theorem k95 : tk TT 95 = .oth := rfl
theorem ke95 : tkE TT 95 = .oth := rfl
theorem i96 : ti TT 96 = some ⟨1, 8, [.nilFunc], false, .oth⟩ := rfl
theorem k96 : tk TT 96 = .oth := rfl
theorem ke96 : tkE TT 96 = .oth := rfl
theorem i97 : ti TT 97 = some ⟨1, 8, [.nilFunc], false, .oth⟩ := rfl
theorem k97 : tk TT 97 = .oth := rfl
theorem ke97 : tkE TT 97 = .oth := rfl
theorem i98 : ti TT 98 = some ⟨1, 8, [.nilFunc], false, .oth⟩ := rfl
theorem k98 : tk TT 98 = .oth := rfl
theorem ke98 : tkE TT 98 = .oth := rfl
theorem i99 : ti TT 99 = some ⟨1, 8, [.nilFunc], false, .oth⟩ := rfl
theorem k99 : tk TT 99 = .oth := rfl
theorem ke99 : tkE TT 99 = .oth := rfl
theorem i100 : ti TT 100 = some ⟨4, 40, [.pointer none, .pointer none, .pointer none, .string ⟨#[]⟩], true, (.st [(0, 1, false), (1, 1, false), (2, 1, false), (3, 1, false)])⟩ := rfl
theorem k100 : tk TT 100 = (.st [(0, 1, false), (1, 1, false), (2, 1, false), (3, 1, false)]) := rfl
theorem ke100 : tkE TT 100 = (.st [(0, 1, false), (1, 1, false), (2, 1, false), (3, 1, false)]) := rfl
theorem i101 : ti TT 101 = some ⟨4, 40, [.pointer none, .pointer none, .pointer none, .string ⟨#[]⟩], true, (.st [(0, 1, false), (1, 1, false), (2, 1, false), (3, 1, false)])⟩ := rfl
theorem k101 : tk TT 101 = (.st [(0, 1, false), (1, 1, false), (2, 1, false), (3, 1, false)]) := rfl
theorem ke101 : tkE TT 101 = (.st [(0, 1, false), (1, 1, false), (2, 1, false), (3, 1, false)]) := rfl
theorem i102 : ti TT 102 = some ⟨0, 0, [], true, .oth⟩ := rfl
theorem k102 : tk TT 102 = .oth := rfl
theorem ke102 : tkE TT 102 = .oth := rfl
theorem i103 : ti TT 103 = some ⟨0, 0, [], true, (.st [(0, 0, true)])⟩ := rfl
theorem k103 : tk TT 103 = (.st [(0, 0, true)]) := rfl
theorem ke103 : tkE TT 103 = (.st [(0, 0, true)]) := rfl
theorem i104 : ti TT 104 = some ⟨0, 0, [], true, (.st [(0, 0, true)])⟩ := rfl
theorem k104 : tk TT 104 = (.st [(0, 0, true)]) := rfl
theorem ke104 : tkE TT 104 = (.st [(0, 0, true)]) := rfl
theorem i105 : ti TT 105 = some ⟨1, 8, [.nilFunc], false, .oth⟩ := rfl
theorem k105 : tk TT 105 = .oth := rfl
theorem ke105 : tkE TT 105 = .oth := rfl
theorem i106 : ti TT 106 = some ⟨1, 4, [.int .u32 0], false, (.int .u32)⟩ := rfl
theorem k106 : tk TT 106 = (.int .u32) := rfl
theorem ke106 : tkE TT 106 = (.int .u32) := rfl
theorem i107 : ti TT 107 = some ⟨1, 1, [.int .u8 0], false, (.int .u8)⟩ := rfl
theorem k107 : tk TT 107 = (.int .u8) := rfl
theorem ke107 : tkE TT 107 = (.int .u8) := rfl
theorem i108 : ti TT 108 = some ⟨1, 1, [.int .u8 0], false, (.int .u8)⟩ := rfl
theorem k108 : tk TT 108 = (.int .u8) := rfl
theorem ke108 : tkE TT 108 = (.int .u8) := rfl
theorem i109 : ti TT 109 = some ⟨1, 8, [.nilFunc], false, .oth⟩ := rfl
theorem k109 : tk TT 109 = .oth := rfl
theorem ke109 : tkE TT 109 = .oth := rfl
theorem i110 : ti TT 110 = some ⟨1, 8, [.pointer none], false, .oth⟩ := rfl
theorem k110 : tk TT 110 = .oth := rfl
theorem ke110 : tkE TT 110 = .oth := rfl
theorem i111 : ti TT 111 = some ⟨1, 4, [.int .i32 0], false, (.int .i32)⟩ := rfl
theorem k111 : tk TT 111 = (.int .i32) := rfl
theorem ke111 : tkE TT 111 = (.int .i32) := rfl
theorem i112 : ti TT 112 = some ⟨1, 4, [.int .i32 0], false, (.int .i32)⟩ := rfl
theorem k112 : tk TT 112 = (.int .i32) := rfl
theorem ke112 : tkE TT 112 = (.int .i32) := rfl
theorem i113 : ti TT 113 = some ⟨11, 48, [.int .u64 0, .int .u64 0, .int .u32 0, .int .u8 0, .int .u8 0, .int .u8 0, .int .u8 0, .nilFunc, .pointer none, .int .i32 0, .int .i32 0], true, (.st [(0, 1, false), (1, 1, false), (2, 1, false), (3, 1, false), (4, 1, false), (5, 1, false), (6, 1, false), (7, 1, false), (8, 1, false), (9, 1, false), (10, 1, false)])⟩ := rfl
theorem k113 : tk TT 113 = (.st [(0, 1, false), (1, 1, false), (2, 1, false), (3, 1, false), (4, 1, false), (5, 1, false), (6, 1, false), (7, 1, false), (8, 1, false), (9, 1, false), (10, 1, false)]) := rfl
theorem ke113 : tkE TT 113 = (.st [(0, 1, false), (1, 1, false), (2, 1, false), (3, 1, false), (4, 1, false), (5, 1, false), (6, 1, false), (7, 1, false), (8, 1, false), (9, 1, false), (10, 1, false)]) := rfl
theorem i114 : ti TT 114 = some ⟨11, 48, [.int .u64 0, .int .u64 0, .int .u32 0, .int .u8 0, .int .u8 0, .int .u8 0, .int .u8 0, .nilFunc, .pointer none, .int .i32 0, .int .i32 0], true, (.st [(0, 1, false), (1, 1, false), (2, 1, false), (3, 1, false), (4, 1, false), (5, 1, false), (6, 1, false), (7, 1, false), (8, 1, false), (9, 1, false), (10, 1, false)])⟩ := rfl
theorem k114 : tk TT 114 = (.st [(0, 1, false), (1, 1, false), (2, 1, false), (3, 1, false), (4, 1, false), (5, 1, false), (6, 1, false), (7, 1, false), (8, 1, false), (9, 1, false), (10, 1, false)]) := rfl
theorem ke114 : tkE TT 114 = (.st [(0, 1, false), (1, 1, false), (2, 1, false), (3, 1, false), (4, 1, false), (5, 1, false), (6, 1, false), (7, 1, false), (8, 1, false), (9, 1, false), (10, 1, false)]) := rfl
theorem i115 : ti TT 115 = some ⟨1, 8, [.pointer none], false, .oth⟩ := rfl
theorem k115 : tk TT 115 = .oth := rfl
theorem ke115 : tkE TT 115 = .oth := rfl
attribute [go_sem] i1 k1 ke1 i2 k2 ke2 i3 k3 ke3 i4 k4 ke4 i5 k5 ke5 i6 k6 ke6 i7 k7 ke7 i8 k8 ke8 i9 k9 ke9 i10 k10 ke10 i11 k11 ke11 i12 k12 ke12 i13 k13 ke13 i14 k14 ke14 i15 k15 ke15 i16 k16 ke16 i17 k17 ke17 i18 k18 ke18 i19 k19 ke19 i20 k20 ke20 i21 k21 ke21 i22 k22 ke22 i23 k23 ke23 i24 k24 ke24 i25 k25 ke25 i26 k26 ke26 i27 k27 ke27 i28 k28 ke28 i29 k29 ke29 i30 k30 ke30 i31 k31 ke31 i33 k33 ke33 i34 k34 ke34 i35 k35 ke35 i36 k36 ke36 i37 k37 ke37 i38 k38 ke38 i39 k39 ke39 i40 k40 ke40 i41 k41 ke41 i42 k42 ke42 i43 k43 ke43 i44 k44 ke44 i45 k45 ke45 i46 k46 ke46 i47 k47 ke47 i48 k48 ke48 i49 k49 ke49 i50 k50 ke50 i51 k51 ke51 i52 k52 ke52 i53 k53 ke53 i54 k54 ke54 i55 k55 ke55 i56 k56 ke56 i57 k57 ke57 i58 k58 ke58 i59 k59 ke59 i60 k60 ke60 i61 k61 ke61 i62 k62 ke62 i63 k63 ke63 i64 k64 ke64 i66 k66 ke66 i67 k67 ke67 i68 k68 ke68 i69 k69 ke69 i70 k70 ke70 i71 k71 ke71 i72 k72 ke72 i73 k73 ke73 i74 k74 ke74 i75 k75 ke75 i76 k76 ke76 i77 k77 ke77 i78 k78 ke78 i79 k79 ke79 i80 k80 ke80 i81 k81 ke81 i82 k82 ke82 i83 k83 ke83 i85 k85 ke85 i86 k86 ke86 i87 k87 ke87 i88 k88 ke88 i89 k89 ke89 i90 k90 ke90 i91 k91 ke91 i92 k92 ke92 i93 k93 ke93 i94 k94 ke94 i95 k95 ke95 i96 k96 ke96 i97 k97 ke97 i98 k98 ke98 i99 k99 ke99 i100 k100 ke100 i101 k101 ke101 i102 k102 ke102 i103 k103 ke103 i104 k104 ke104 i105 k105 ke105 i106 k106 ke106 i107 k107 ke107 i108 k108 ke108 i109 k109 ke109 i110 k110 ke110 i111 k111 ke111 i112 k112 ke112 i113 k113 ke113 i114 k114 ke114 i115 k115 ke115

abbrev CC : Call := Den Try.prog TT Xn
abbrev encD (a : List Int) : D := .sl (a.map .i)

instance (b : Bool) : Con CC 59 [.d (.b b)] True (.d (.i (if b then 1 else 0))) := by
  constructor; intro pre
  refine Den.pureI Try.func59 rfl 1 [.tmp 2] (by kernel_rfl) rfl rfl (by simp only [initE_nil, initE_cons, Nat.reduceAdd]; exact rfl) ?_
  repeat' first | (with_reducible first | refine nx' ?_ | refine n0 ?_ | refine rD ?_ | refine n1 ?_ | refine nilB_i fun b hb => ?_ | refine nP ?_ ?_ | refine nS fun K hK => ?_ | (refine n2 ?_ ?_ <;> intro h <;> first | subst (h : _ = true) | subst (h : _ = false) | skip) | refine And.intro ?_ ?_ | refine nK ‹Imp _ _› ?_) | exact nl | fail

instance (n a b : Int) : Con CC 32 [.d (.i n), .d (.i a), .d (.i b)] True (.d (.b (decide (a ≤ n) && decide (n ≤ b)))) := by
  constructor; intro pre
  refine Den.pureI Try.func32 rfl 3 [.tmp 6] (by kernel_rfl) rfl rfl (by simp only [initE_nil, initE_cons, Nat.reduceAdd]; exact rfl) ?_
  repeat' first | (with_reducible first | refine nx' ?_ | refine n0 ?_ | refine rD ?_ | refine n1 ?_ | refine nilB_i fun b hb => ?_ | refine nP ?_ ?_ | refine nS fun K hK => ?_ | (refine n2 ?_ ?_ <;> intro h <;> first | subst (h : _ = true) | subst (h : _ = false) | skip) | refine And.intro ?_ ?_ | refine nK ‹Imp _ _› ?_) | exact nl | fail
  all_goals (first | omega | exact Or.inr trivial | (congr 3; simp [*]; done) | (congr 3; simp [*]; omega) | skip)

instance (m n : Nat) : Con CC 54 [.d (encD (digs m)), .d (encD (digs n))] ((digs m).length < 4611686018427387904 ∧ (digs n).length < 4611686018427387904) (.d (.i (cmpN m n))) := by
  constructor; intro ⟨hm, hn⟩
  generalize ha : digs m = a at *
  generalize hb : digs n = b at *
  refine Den.pureI Try.func54 rfl 2 [.tmp 4] (by kernel_rfl) rfl rfl (by simp only [initE_nil, initE_cons, Nat.reduceAdd]; exact rfl) ?_
  repeat' first | (with_reducible first | refine nx' ?_ | refine n0 ?_ | refine rD ?_ | refine n1 ?_ | refine nilB_i fun b hb => ?_ | refine nP ?_ ?_ | refine nS fun K hK => ?_ | (refine n2 ?_ ?_ <;> intro h <;> first | subst (h : _ = true) | subst (h : _ = false) | skip) | refine And.intro ?_ ?_ | refine nK ‹Imp _ _› ?_) | exact nl | fail
  · congr 3
    subst ha hb
    rw [cmpN_len (by omega)]
    by_cases hc : (digs n).length < (digs m).length
    · rw [if_pos hc, if_pos (by rw [decide_eq_true_eq]; omega)]; rfl
    · rw [if_neg hc, if_neg (by rw [decide_eq_true_eq]; omega)]; rfl
  · refine Wp.loopR (fun k : Int => ⟨[(0, .d (encD a)), (1, .d (encD b)), (5, .d (.i k))], []⟩) (fun k => (k + 1).toNat) (fun k => -1 ≤ k ∧ k < a.length ∧ a.drop (k + 1).toNat = b.drop (k + 1).toNat) ((a.length : Int) - 1)
      Weak.lo ⟨by omega, by omega, by rw [List.drop_of_length_le (by omega), List.drop_of_length_le (by omega)]⟩ ?_
    rintro k ⟨hk0, hk, hd⟩ K hK
    repeat' first | (with_reducible first | refine nx' ?_ | refine n0 ?_ | refine rD ?_ | refine n1 ?_ | refine nilB_i fun b hb => ?_ | refine nP ?_ ?_ | refine nS fun K hK => ?_ | (refine n2 ?_ ?_ <;> intro h <;> first | subst (h : _ = true) | subst (h : _ = false) | skip) | refine And.intro ?_ ?_ | refine nK ‹Imp _ _› ?_) | exact nl | fail
    · have e1 : (k + 1).toNat = k.toNat + 1 := by omega
      subst ha hb
      rw [e1] at hd
      congr 3
      by_cases hc : (digs n).getD k.toNat 0 < (digs m).getD k.toNat 0
      · rw [if_pos (by rw [decide_eq_true_eq]; exact hc), cmpN_gt (by omega) (by omega) hd hc]; rfl
      · rw [if_neg (by rw [decide_eq_true_eq]; exact hc), cmpN_lt (by omega) (by omega) hd (by omega)]; rfl
    · have e1 : (k + 1).toNat = k.toNat + 1 := by omega
      have e2 : (k - 1 + 1).toNat = k.toNat := by omega
      rw [e1] at hd
      exact ⟨k - 1, by omega, ⟨by omega, by omega, by rw [e2]; exact drop_eq (by omega) (by omega) hd h⟩, Weak.lo⟩
    · have e1 : (k + 1).toNat = 0 := by omega
      rw [e1, List.drop_zero, List.drop_zero, ← ha, ← hb] at hd
      have := digs_inj hd
      congr 3
      unfold cmpN; rw [if_neg (by omega), if_pos this]

instance (a : List Int) : Con CC 67 [.d (encD a)] (a.length * 8 ≤ 140737488355328) (.d (encD (trim a))) := by
  constructor; intro hb
  refine Den.pureI Try.func67 rfl 1 [.tmp 2] (by kernel_rfl) rfl rfl (by simp only [initE_nil, initE_cons, Nat.reduceAdd]; exact rfl) ?_
  repeat' first | (with_reducible first | refine nx' ?_ | refine n0 ?_ | refine rD ?_ | refine n1 ?_ | refine nilB_i fun b hb => ?_ | refine nP ?_ ?_ | refine nS fun K hK => ?_ | (refine n2 ?_ ?_ <;> intro h <;> first | subst (h : _ = true) | subst (h : _ = false) | skip) | refine And.intro ?_ ?_ | refine nK ‹Imp _ _› ?_) | exact nl | fail
  refine Wp.loopR (fun k : Nat => ⟨[(0, .d (encD a)), (3, .d (.i k))], []⟩) (fun k => k) (fun k => k ≤ a.length ∧ trim (a.take k) = trim a) a.length Weak.lo ⟨Nat.le_refl _, by simp⟩ ?_
  rintro k ⟨hk, ht⟩ K hK
  repeat' first | (with_reducible first | refine nx' ?_ | refine n0 ?_ | refine rD ?_ | refine n1 ?_ | refine nilB_i fun b hb => ?_ | refine nP ?_ ?_ | refine nS fun K hK => ?_ | (refine n2 ?_ ?_ <;> intro h <;> first | subst (h : _ = true) | subst (h : _ = false) | skip) | refine And.intro ?_ ?_ | refine nK ‹Imp _ _› ?_) | exact nl | fail
  · exact ⟨k - 1, by omega, ⟨by omega, by rw [trim_take_zero (by omega) hk (by rw [← h]; congr 1; omega), ht]⟩, (Weak.low (by simp -implicitDefEqProofs (disch := omega) only [go_sem, sub_nil, sub_cons, LX, show ((k - 1 : Nat) : Int) = (k : Int) - 1 by omega]; try ((repeat' refine And.intro ?_ ?_) <;> first | rfl | trivial | (congr 3; omega) | (congr 1; omega))))⟩
  · rw [← ht, trim_take_ne (by omega) hk (by intro e; exact h (by rw [← e]; congr 1; omega))]
  · obtain rfl : k = 0 := by omega
    rw [← ht]; rfl

instance (n : Nat) : Con CC 69 [.d (.i n)] (n < 1000000000000) (.d (encD (digs n))) := by
  constructor; intro hn
  refine Den.pureI Try.func69 rfl 1 [.tmp 2] (by kernel_rfl) rfl rfl (by simp only [initE_nil, initE_cons, Nat.reduceAdd]; exact rfl) ?_
  repeat' first | (with_reducible first | refine nx' ?_ | refine n0 ?_ | refine rD ?_ | refine n1 ?_ | refine nilB_i fun b hb => ?_ | refine nP ?_ ?_ | refine nS fun K hK => ?_ | (refine n2 ?_ ?_ <;> intro h <;> first | subst (h : _ = true) | subst (h : _ = false) | skip) | refine And.intro ?_ ?_ | refine nK ‹Imp _ _› ?_) | exact nl | fail
  refine Wp.loopR (fun x : Nat × List Int => ⟨[(0, .d (.i x.1)), (3, .msl 0 0 x.2.length)], [.arr 1 (x.2.map .i) false]⟩) (fun x => x.1) (fun x => x.2 ++ digs x.1 = digs n ∧ x.1 ≤ n) (n, []) Weak.lo ⟨by simp, Nat.le_refl _⟩ ?_
  rintro ⟨k, l⟩ ⟨hl, hk⟩ K hK
  simp only at hl hk ⊢
  have hlen : l.length + (digs k).length = (digs n).length := by rw [← hl, List.length_append]
  have hlen2 : (digs n).length ≤ 3 := digs_len_le (by simpa using hn)
  have e1 : (k : Int).tdiv 10000 = ((k / 10000 : Nat) : Int) := tdiv_nat k 10000
  have e2 : (k : Int).tmod 10000 = ((k % 10000 : Nat) : Int) := tmod_nat k 10000
  repeat' first | (with_reducible first | refine nx' ?_ (by simp -implicitDefEqProofs (disch := omega) only [go_sem, e1, e2]; exact rfl) | refine n0 ?_ | refine rD ?_ | refine n1 ?_ | refine nilB_i fun b hb => ?_ | refine nP ?_ ?_ | refine nS fun K hK => ?_ | (refine n2 ?_ ?_ <;> intro h <;> first | subst (h : _ = true) | subst (h : _ = false) | (simp only [FX, LX, e1, e2] at h) | skip) | refine And.intro ?_ ?_ | refine nK ‹Imp _ _› ?_) | exact nl | fail
  · refine ⟨(k / 10000, l ++ [((k % 10000 : Nat) : Int)]), by simp only; omega, ⟨?_, by simp only; omega⟩, Weak.cu⟩
    simp only
    rw [← hl, digs_pos (by omega : 0 < k)]; simp
  · obtain rfl : k = 0 := by omega
    rw [digs_zero, List.append_nil] at hl
    rw [hl]
end Go.PL
