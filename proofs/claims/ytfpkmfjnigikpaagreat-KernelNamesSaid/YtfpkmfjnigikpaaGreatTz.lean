/- The table of types. -/
import Derived.Test.YtfpkmfjnigikpaaGreatCA
import Derived.Test.YtfpkmfjnigikpaaGreatProg
set_option autoImplicit false
namespace Go.Proofs.YtfpkmfjnigikpaaGreat.Fw.Cm
open Go
def T : TT := [
  (3, ⟨1, false, 8, TK.int IntKind.i64, [AV.d (D.int IntKind.i64 0)], [], 0, 0, false⟩),
  (4, ⟨1, false, 1, TK.bool, [AV.d (D.bool false)], [], 0, 0, false⟩),
  (5, ⟨1, false, 1, TK.int IntKind.u8, [AV.d (D.int IntKind.u8 0)], [], 0, 0, false⟩),
  (9, ⟨1, false, 16, TK.str, [AV.d (D.str ByteArray.empty)], [], 0, 0, false⟩),
  (22, ⟨1, false, 8, TK.ptr 70, [AV.d D.nilptr], [], 0, 0, false⟩),
  (24, ⟨1, true, 8, TK.struct, [AV.d D.nilptr], [(0, 1, false)], 0, 0, false⟩),
  (26, ⟨1, false, 8, TK.ptr 46, [AV.d D.nilptr], [], 0, 0, false⟩),
  (28, ⟨2, true, 16, TK.struct, [AV.d D.nilptr, AV.d D.nilptr], [(0, 1, false), (1, 1, false)], 0, 0, false⟩),
  (29, ⟨1, false, 8, TK.int IntKind.i64, [AV.d (D.int IntKind.i64 0)], [], 0, 0, false⟩),
  (32, ⟨1, false, 24, TK.slice 34, [AV.nil 3], [], 3, 48, false⟩),
  (34, ⟨3, true, 48, TK.struct, [AV.d (D.bool false), AV.d (D.str ByteArray.empty), AV.nil 3], [(0, 1, false), (1, 1, false), (2, 1, false)], 0, 0, false⟩),
  (35, ⟨1, false, 24, TK.slice 37, [AV.nil 7], [], 7, 104, false⟩),
  (37, ⟨7, true, 104, TK.struct, [AV.d (D.int IntKind.u8 0), AV.d (D.str ByteArray.empty), AV.d (D.bool false), AV.d (D.str ByteArray.empty), AV.nil 3, AV.d (D.int IntKind.i64 0), AV.nil 7], [(0, 1, false), (1, 1, false), (2, 3, true), (5, 1, false), (6, 1, false)], 0, 0, false⟩),
  (39, ⟨1, false, 24, TK.slice 116, [AV.nil 2], [], 2, 24, false⟩),
  (40, ⟨1, false, 24, TK.slice 118, [AV.nil 4], [], 4, 64, false⟩),
  (42, ⟨2, true, 48, TK.struct, [AV.nil 2, AV.nil 4], [(0, 1, false), (1, 1, false)], 0, 0, false⟩),
  (46, ⟨8, true, 128, TK.struct, [AV.nil 7, AV.d (D.int IntKind.u8 0), AV.d (D.str ByteArray.empty), AV.d (D.bool false), AV.d (D.str ByteArray.empty), AV.nil 3, AV.d (D.int IntKind.i64 0), AV.nil 7], [(0, 1, false), (1, 7, true)], 0, 0, false⟩),
  (66, ⟨1, false, 24, TK.slice 46, [AV.nil 8], [], 8, 128, false⟩),
  (68, ⟨7, true, 104, TK.struct, [AV.d (D.int IntKind.u8 0), AV.d (D.str ByteArray.empty), AV.d (D.int IntKind.i64 0), AV.d (D.bool false), AV.d (D.str ByteArray.empty), AV.nil 3, AV.nil 8], [(0, 1, false), (1, 1, false), (2, 1, false), (3, 3, true), (6, 1, false)], 0, 0, false⟩),
  (70, ⟨11, true, 168, TK.struct, [AV.d (D.int IntKind.u8 0), AV.d (D.str ByteArray.empty), AV.d (D.int IntKind.i64 0), AV.d (D.bool false), AV.d (D.str ByteArray.empty), AV.nil 3, AV.nil 8, AV.d D.nilptr, AV.d (D.int IntKind.i64 0), AV.nil 2, AV.nil 4], [(0, 7, true), (7, 1, false), (8, 1, false), (9, 2, true)], 0, 0, false⟩),
  (72, ⟨1, false, 8, TK.func, [AV.d D.nilfunc], [], 0, 0, false⟩),
  (91, ⟨1, false, 24, TK.slice 68, [AV.nil 7], [], 7, 104, false⟩),
  (109, ⟨1, true, 8, TK.struct, [AV.d (D.int IntKind.i64 0)], [(0, 1, false)], 0, 0, false⟩),
  (116, ⟨2, true, 24, TK.struct, [AV.d (D.str ByteArray.empty), AV.d (D.int IntKind.i64 0)], [(0, 1, false), (1, 1, false)], 0, 0, false⟩),
  (118, ⟨4, true, 64, TK.struct, [AV.d (D.str ByteArray.empty), AV.d (D.bool false), AV.d (D.str ByteArray.empty), AV.nil 3], [(0, 1, false), (1, 3, true)], 0, 0, false⟩),
  (120, ⟨1, false, 24, TK.slice 24, [AV.nil 1], [], 1, 8, false⟩),
  (124, ⟨1, false, 24, TK.slice 28, [AV.nil 2], [], 2, 16, false⟩),
  (130, ⟨1, false, 24, TK.slice 35, [AV.nil 1], [], 1, 24, false⟩),
  (140, ⟨1, false, 8, TK.map 9 3, [AV.d D.nilmap], [], 0, 0, false⟩),
  (141, ⟨1, false, 8, TK.map 9 34, [AV.d D.nilmap], [], 0, 0, false⟩),
  (143, ⟨2, true, 16, TK.struct, [AV.d D.nilmap, AV.d D.nilmap], [(0, 1, false), (1, 1, false)], 0, 0, false⟩),
  (147, ⟨1, false, 8, TK.func, [AV.d D.nilfunc], [], 0, 0, false⟩),
  (151, ⟨1, false, 24, TK.slice 9, [AV.nil 1], [], 1, 16, false⟩),
  (161, ⟨1, false, 24, TK.slice 201, [AV.nil 4], [], 4, 64, false⟩),
  (179, ⟨2, true, 48, TK.struct, [AV.nil 7, AV.nil 1], [(0, 1, false), (1, 1, false)], 0, 0, false⟩),
  (201, ⟨4, true, 64, TK.struct, [AV.d (D.str ByteArray.empty), AV.d (D.bool false), AV.d (D.str ByteArray.empty), AV.nil 3], [(0, 1, false), (1, 3, true)], 0, 0, false⟩),
  (207, ⟨1, false, 24, TK.slice 3, [AV.nil 1], [], 1, 8, false⟩),
  (220, ⟨1, false, 8, TK.int IntKind.u64, [AV.d (D.int IntKind.u64 0)], [], 0, 0, false⟩)]

end Go.Proofs.YtfpkmfjnigikpaaGreat.Fw.Cm
