/- Types. -/
import Derived.Test.YtemfpemejagndaaGFun
import Derived.Test.YtemfpemejagndaaChecked
set_option autoImplicit false
set_option linter.unusedVariables false
set_option linter.unusedSimpArgs false
namespace Go.Proofs.Ytemfpemejagndaa.Fw
open Go Go.Proofs
def T : TT := [
 (3, ⟨1, false, 8, TK.int IntKind.i64, [AV.d (D.int IntKind.i64 0)], [], 0, 0, false⟩),
 (4, ⟨1, false, 1, TK.bool, [AV.d (D.bool false)], [], 0, 0, false⟩),
 (5, ⟨1, false, 1, TK.int IntKind.u8, [AV.d (D.int IntKind.u8 0)], [], 0, 0, false⟩),
 (9, ⟨1, false, 16, TK.str, [AV.d (D.str ByteArray.empty)], [], 0, 0, false⟩),
 (22, ⟨1, false, 24, TK.slice 53, [AV.nil 3], [], 3, 48, false⟩),
 (23, ⟨1, false, 24, TK.slice 46, [AV.nil 5], [], 5, 64, false⟩),
 (25, ⟨2, true, 48, TK.struct, [AV.nil 3, AV.nil 5], [(0, 1, false), (1, 1, false)], 0, 0, false⟩),
 (26, ⟨1, false, 24, TK.slice 28, [AV.nil 3], [], 3, 48, false⟩),
 (28, ⟨3, true, 48, TK.struct, [AV.d (D.bool false), AV.d (D.str ByteArray.empty), AV.nil 3], [(0, 1, false), (1, 1, false), (2, 1, false)], 0, 0, false⟩),
 (29, ⟨1, false, 24, TK.slice 31, [AV.nil 7], [], 7, 104, false⟩),
 (31, ⟨7, true, 104, TK.struct, [AV.d (D.int IntKind.u8 0), AV.d (D.str ByteArray.empty), AV.d (D.bool false), AV.d (D.str ByteArray.empty), AV.nil 3, AV.d (D.int IntKind.i64 0), AV.nil 7], [(0, 1, false), (1, 1, false), (2, 3, true), (5, 1, false), (6, 1, false)], 0, 0, false⟩),
 (36, ⟨1, false, 8, TK.int IntKind.i64, [AV.d (D.int IntKind.i64 0)], [], 0, 0, false⟩),
 (44, ⟨1, false, 24, TK.slice 3, [AV.nil 1], [], 1, 8, false⟩),
 (46, ⟨5, true, 64, TK.struct, [AV.d (D.int IntKind.u8 0), AV.d (D.str ByteArray.empty), AV.d (D.int IntKind.i64 0), AV.d (D.int IntKind.i64 0), AV.nil 1], [(0, 1, false), (1, 1, false), (2, 1, false), (3, 1, false), (4, 1, false)], 0, 0, false⟩),
 (53, ⟨3, true, 48, TK.struct, [AV.d (D.bool false), AV.d (D.str ByteArray.empty), AV.nil 1], [(0, 1, false), (1, 1, false), (2, 1, false)], 0, 0, false⟩),
 (56, ⟨1, false, 8, TK.ptr 73, [AV.d D.nilptr], [], 0, 0, false⟩),
 (70, ⟨1, false, 8, TK.map 85 3, [AV.d D.nilmap], [], 0, 0, false⟩),
 (71, ⟨1, false, 8, TK.map 79 3, [AV.d D.nilmap], [], 0, 0, false⟩),
 (73, ⟨4, true, 64, TK.struct, [AV.nil 3, AV.nil 5, AV.d D.nilmap, AV.d D.nilmap], [(0, 2, true), (2, 1, false), (3, 1, false)], 0, 0, false⟩),
 (79, ⟨7, true, 64, TK.struct, [AV.d (D.int IntKind.u8 0), AV.d (D.str ByteArray.empty), AV.d (D.int IntKind.i64 0), AV.d (D.int IntKind.i64 0), AV.d (D.int IntKind.i64 0), AV.d (D.int IntKind.i64 0), AV.d (D.int IntKind.i64 0)], [(0, 1, false), (1, 1, false), (2, 1, false), (3, 1, false), (4, 1, false), (5, 1, false), (6, 1, false)], 0, 0, false⟩),
 (83, ⟨8, true, 64, TK.arr 8 3, [AV.d (D.int IntKind.i64 0), AV.d (D.int IntKind.i64 0), AV.d (D.int IntKind.i64 0), AV.d (D.int IntKind.i64 0), AV.d (D.int IntKind.i64 0), AV.d (D.int IntKind.i64 0), AV.d (D.int IntKind.i64 0), AV.d (D.int IntKind.i64 0)], [], 0, 0, false⟩),
 (85, ⟨11, true, 96, TK.struct, [AV.d (D.bool false), AV.d (D.str ByteArray.empty), AV.d (D.int IntKind.i64 0), AV.d (D.int IntKind.i64 0), AV.d (D.int IntKind.i64 0), AV.d (D.int IntKind.i64 0), AV.d (D.int IntKind.i64 0), AV.d (D.int IntKind.i64 0), AV.d (D.int IntKind.i64 0), AV.d (D.int IntKind.i64 0), AV.d (D.int IntKind.i64 0)], [(0, 1, false), (1, 1, false), (2, 1, false), (3, 8, true)], 0, 0, false⟩),
 (96, ⟨1, false, 8, TK.map 5 3, [AV.d D.nilmap], [], 0, 0, false⟩),
 (104, ⟨1, false, 8, TK.func, [AV.d D.nilfunc], [], 0, 0, false⟩),
 (106, ⟨1, false, 24, TK.slice 44, [AV.nil 1], [], 1, 24, false⟩),
 (111, ⟨1, false, 8, TK.func, [AV.d D.nilfunc], [], 0, 0, false⟩)]
set_option maxRecDepth 100000 in
theorem T_ok : T.okB Try.prog = true := by kernel_rfl
theorem mixed : Try.prog.follows .mixedOrders = true := Try.checked.mixed
def hash_keyType_pl2 : Plan := (.first 0 (.first 1 (.first 2 (.first 3 (.last 4 .done)))))
def hx_addTypes_o_io_pl12 : Plan := (.first 0 (.first 1 (.first 2 (.first 3 (.first 4 (.last 5 (.last 6 (.first 7 (.first 8 (.first 9 (.first 10 (.first 11 .done))))))))))))
def hx_addTypes_o_io_pl15 : Plan := (.first 0 (.first 1 (.first 2 (.first 3 (.first 4 (.first 6 (.last 5 (.last 7 .done))))))))
def types_Twin_pl8 : Plan := (.first 0 (.first 1 (.first 2 (.first 3 (.last 4 (.first 5 (.last 6 .done)))))))
def hash_fine_pl10 : Plan := (.first 0 (.first 1 (.two 2 (.two 3 (.first 4 (.first 5 (.first 6 (.last 7 (.last 8 (.first 9 .done)))))) 7 (.last 3 (.first 4 (.first 5 (.first 6 (.last 8 (.first 9 .done))))))) 7 (.last 2 (.last 3 (.first 4 (.first 5 (.first 6 (.last 8 (.first 9 .done))))))))))
def hash_open_o_io_pl11 : Plan := (.first 0 (.first 1 (.first 2 (.first 3 (.first 4 (.last 5 (.last 6 (.first 7 (.first 8 (.first 9 (.first 10 (.first 11 .done))))))))))))
def hash_open_o_io_pl14 : Plan := (.first 0 (.first 1 (.first 2 (.first 3 (.first 4 (.first 6 (.last 5 (.last 7 .done))))))))
def types_Compare_pl1 : Plan := (.first 0 (.first 2 (.first 5 (.first 6 (.first 7 (.first 8 (.first 10 (.first 11 (.first 12 (.first 13 (.first 14 (.first 15 (.last 1 (.last 3 (.last 4 (.last 9 (.last 16 (.first 17 (.last 18 (.first 19 .done))))))))))))))))))))
def terms_formed_pl4 : Plan := (.first 0 (.first 1 (.firstL 2 [4] (.last 3 (.first 4 (.first 5 (.firstL 6 [4] (.last 7 (.first 8 (.first 9 (.first 10 (.firstL 11 [4] (.first 12 (.first 13 (.first 14 (.first 15 (.first 16 (.firstL 17 [4] (.last 18 (.first 19 (.first 20 (.last 21 (.first 22 .done)))))))))))))))))))))))
def terms_formed_pl14 : Plan := (.first 0 (.first 1 (.first 2 (.first 3 (.first 4 (.first 5 (.first 6 (.first 7 (.first 8 (.first 9 (.first 10 (.first 11 (.first 12 (.first 13 (.first 14 (.first 15 (.first 16 (.first 17 (.first 18 (.first 19 (.first 20 (.first 21 (.first 22 (.first 23 (.first 24 (.first 25 (.first 26 (.last 27 (.first 28 (.first 29 .done))))))))))))))))))))))))))))))
def terms_formed_pl20 : Plan := (.first 0 (.first 1 (.first 2 (.first 3 (.first 4 (.first 5 (.first 6 (.first 7 (.first 8 (.first 9 (.first 10 (.first 11 (.first 12 (.two 13 (.two 14 (.first 15 (.first 16 (.first 17 (.last 18 (.last 19 (.first 20 .done)))))) 18 (.last 14 (.first 15 (.first 16 (.first 17 (.last 19 (.first 20 .done))))))) 18 (.last 13 (.last 14 (.first 15 (.first 16 (.first 17 (.last 19 (.first 20 .done)))))))))))))))))))))
def terms_formed_pl24 : Plan := (.first 0 (.first 1 (.last 2 (.first 3 (.last 4 (.first 5 .done))))))
def hx_addType_o_io_pl5 : Plan := (.first 0 (.first 1 (.first 2 (.first 3 (.last 4 (.first 5 (.last 6 (.first 7 (.last 8 .done)))))))))
def hx_addType_o_io_pl8 : Plan := (.first 0 (.first 1 (.first 2 (.first 3 (.first 4 (.last 5 (.first 6 (.first 7 (.first 8 (.first 9 (.first 10 .done)))))))))))
def hx_addType_o_io_pl11 : Plan := (.first 0 (.first 1 (.first 2 (.first 3 (.first 4 (.first 5 (.last 6 .done)))))))
def hx_addType_o_io_pl12 : Plan := (.first 0 (.first 1 (.first 2 (.first 3 (.first 4 (.first 5 (.first 6 (.first 7 (.last 8 (.first 9 (.first 10 (.first 11 (.last 12 .done)))))))))))))
def hx_add_o_io_pl7 : Plan := (.first 0 (.first 1 (.first 2 (.first 3 (.last 4 (.first 5 (.last 6 (.first 7 (.last 8 .done)))))))))
def hx_add_o_io_pl10 : Plan := (.first 0 (.first 1 (.first 2 (.first 3 (.first 4 (.last 5 (.first 6 (.first 7 (.first 8 (.first 9 (.first 10 .done)))))))))))
def hx_add_o_io_pl13 : Plan := (.first 0 (.first 1 (.first 2 (.first 3 (.first 4 (.first 5 (.last 6 .done)))))))
def hx_add_o_io_pl14 : Plan := (.first 0 (.first 1 (.first 2 (.first 3 (.first 4 (.first 5 (.first 6 (.first 7 (.last 8 (.first 9 (.first 10 (.first 11 (.last 12 .done)))))))))))))
def z01_shape_pl1 : Plan := (.first 0 (.first 1 (.last 2 (.first 3 (.first 4 (.first 5 (.first 6 (.first 7 (.first 8 (.first 9 (.first 10 (.first 11 (.first 12 (.first 13 (.first 14 (.first 15 (.first 16 (.first 17 (.first 18 (.first 19 (.first 20 (.first 21 (.first 22 (.first 23 (.first 24 (.first 25 (.first 26 (.first 27 (.first 28 .done)))))))))))))))))))))))))))))
def z31_ints_pl6 : Plan := (.first 0 (.first 1 (.first 2 (.first 3 (.first 4 (.first 5 (.first 6 (.first 7 (.first 8 .done)))))))))
def z31_typesValid_pl5 : Plan := (.first 0 (.first 1 (.first 2 (.first 3 (.first 4 (.first 5 (.first 6 (.first 7 (.first 8 (.first 9 (.first 10 (.first 11 (.first 12 (.first 13 (.first 14 (.first 15 (.first 16 (.first 17 (.first 18 (.first 19 (.first 20 (.first 21 (.first 22 (.first 23 (.first 24 (.first 25 (.first 26 (.first 27 (.first 28 (.first 29 (.first 30 (.first 31 (.first 32 (.first 33 (.first 34 (.last 35 (.first 36 (.first 37 (.first 38 (.first 39 (.first 40 (.first 41 (.first 42 (.first 43 (.first 44 (.last 45 (.first 46 (.first 47 .done))))))))))))))))))))))))))))))))))))))))))))))))
def z31_typesValid_pl10 : Plan := (.first 0 (.first 1 (.first 2 (.first 3 (.first 4 (.first 5 (.first 6 (.first 7 (.last 8 .done)))))))))
def z31_Valid_pl6 : Plan := (.first 0 (.first 1 (.first 2 (.first 3 (.first 4 (.first 5 (.first 6 (.first 7 (.first 8 (.last 9 (.first 10 .done)))))))))))
def z31_Valid_pl11 : Plan := (.first 0 (.first 1 (.first 2 (.first 3 (.first 4 (.first 5 (.first 6 (.first 7 (.first 8 (.first 9 (.last 10 .done)))))))))))
def z31_PutType_pl5 : Plan := (.first 0 (.first 1 (.first 2 (.first 3 (.first 4 (.first 5 (.two 6 (.first 7 (.first 8 (.first 9 (.last 10 (.last 11 (.first 12 .done)))))) 10 (.last 6 (.first 7 (.first 8 (.first 9 (.last 11 (.first 12 .done)))))))))))))
def z31_PutType_pl11 : Plan := (.first 0 (.first 1 (.first 2 (.first 3 (.first 4 (.first 5 (.last 6 .done)))))))
def z31_PutType_pl13 : Plan := (.first 0 (.first 1 (.first 2 (.first 4 (.first 5 (.last 3 (.last 6 (.first 7 (.last 8 .done)))))))))
def z31_PutType_pl14 : Plan := (.first 0 (.first 1 (.firstL 2 [4] (.first 3 (.first 4 (.last 5 (.first 6 .done)))))))
def z01_Compare_pl16 : Plan := (.first 0 (.first 1 (.first 2 (.first 3 (.first 4 (.first 5 (.first 6 (.first 7 (.first 8 (.first 9 (.last 10 (.first 11 .done))))))))))))
def z01_Twin_pl5 : Plan := (.first 0 (.first 1 (.first 2 (.first 3 (.first 4 (.first 5 (.first 6 (.last 7 (.first 8 (.last 9 (.first 10 (.last 11 .done))))))))))))
def z01_Fun_pl1 : Plan := (.first 0 (.first 2 (.last 1 (.last 3 (.first 4 (.first 5 (.last 6 .done)))))))
def z02_Formed_pl4 : Plan := (.first 0 (.first 1 (.first 2 (.firstL 3 [4] (.last 4 (.first 5 (.first 6 (.firstL 7 [4] (.last 8 (.first 9 (.first 10 (.first 11 (.firstL 12 [4] (.first 13 (.first 14 (.first 15 (.first 16 (.firstL 17 [4] (.first 18 (.first 19 (.first 20 (.last 21 (.first 22 .done)))))))))))))))))))))))
def z02_Formed_pl14 : Plan := (.first 0 (.first 1 (.first 2 (.first 3 (.first 4 (.first 5 (.first 6 (.first 7 (.first 8 (.first 9 (.first 10 (.first 11 (.first 12 (.first 13 (.first 14 (.first 15 (.first 16 (.first 17 (.first 18 (.first 19 (.first 20 (.first 21 (.first 22 (.first 23 (.first 24 (.first 25 (.first 26 (.last 27 (.first 28 (.first 29 .done))))))))))))))))))))))))))))))
def z02_Formed_pl20 : Plan := (.first 0 (.first 1 (.first 2 (.first 3 (.first 4 (.first 5 (.first 6 (.first 7 (.two 8 (.two 9 (.first 10 (.first 11 (.first 12 (.last 13 (.last 14 (.first 15 .done)))))) 13 (.last 9 (.first 10 (.first 11 (.first 12 (.last 14 (.first 15 .done))))))) 13 (.last 8 (.last 9 (.first 10 (.first 11 (.first 12 (.last 14 (.first 15 .done))))))))))))))))
def z02_Formed_pl22 : Plan := (.first 0 (.first 1 (.first 2 (.firstL 3 [4] (.last 4 (.first 5 (.last 6 (.first 7 .done))))))))
def z31_Put_pl9 : Plan := (.first 0 (.first 1 (.first 2 (.first 3 (.first 4 (.first 5 (.two 6 (.first 7 (.first 8 (.first 9 (.last 10 (.last 11 (.first 12 .done)))))) 10 (.last 6 (.first 7 (.first 8 (.first 9 (.last 11 (.first 12 .done)))))))))))))
def z31_Put_pl15 : Plan := (.first 0 (.first 1 (.first 2 (.first 3 (.first 4 (.first 5 (.last 6 .done)))))))
def z31_Put_pl17 : Plan := (.first 0 (.first 1 (.first 2 (.first 4 (.first 5 (.last 3 (.last 6 (.first 7 (.last 8 .done)))))))))
def z31_Put_pl18 : Plan := (.first 0 (.first 1 (.firstL 2 [4] (.first 3 (.first 4 (.last 5 (.first 6 .done)))))))
def z31_Same_pl6 : Plan := (.first 0 (.first 1 (.first 2 (.first 3 (.first 4 (.first 5 (.first 6 (.first 7 (.first 8 (.first 9 (.last 10 (.first 11 .done))))))))))))
def z31_Same_pl11 : Plan := (.first 0 (.first 1 (.first 2 (.first 3 (.first 4 (.first 5 (.first 6 (.first 7 (.first 8 (.first 9 (.last 10 (.first 11 (.first 12 (.first 13 (.first 14 (.first 15 (.first 16 (.first 17 (.first 18 (.first 19 (.first 20 (.first 21 (.first 22 (.first 23 (.first 24 (.first 25 (.first 26 .done)))))))))))))))))))))))))))
set_option maxRecDepth 100000 in
theorem KF_5 : KeyF Try.prog 5 (D.int .u8) := keyF_of (m := 5) (by decide) (fun a b e => by injection e) fun a => by kernel_rfl
set_option maxRecDepth 100000 in
theorem KF_79 : KeyF Try.prog 79 HMK.D := keyF_of (m := 5) (by decide) (fun a b e => by rcases a with ⟨_, _, _, _, _, _, _⟩; rcases b with ⟨_, _, _, _, _, _, _⟩; simp [HMK.D] at e; simp [e]) fun a => by kernel_rfl
set_option maxRecDepth 100000 in
theorem KF_85 : KeyF Try.prog 85 HTK.D := keyF_of (m := 5) (by decide) (fun a b e => by rcases a with ⟨_, _, _, ⟨_, _, _, _, _, _, _, _⟩⟩; rcases b with ⟨_, _, _, ⟨_, _, _, _, _, _, _, _⟩⟩; simp [HTK.D] at e; simp [e]) fun a => by kernel_rfl
def Y_hash_open_o_io (r : (Unit ⊕ (Unit ⊕ ((List YN) × (List XN) × (List (HTK × Int)) × (List (HMK × Int)))))) : AV := match r with | .inl r => .tuple [.d .nilptr, .d (.int .i64 4)] | .inr (.inl r) => .tuple [.d .nilptr, .d (.int .i64 8)] | .inr (.inr (r)) => .tuple [.ptr 0 0 0, .d (.int .i64 0)]
def L_hash_open_o_io (r : (Unit ⊕ (Unit ⊕ ((List YN) × (List XN) × (List (HTK × Int)) × (List (HMK × Int)))))) : List Blk := match r with | .inl r => [] | .inr (.inl r) => [] | .inr (.inr (r)) => [.cells [.own 0 1 3 (YN.Ds r.1), .own 0 2 5 (XN.Ds r.2.1), .map 0 3, .map 0 4], .grow 3 (YN.Ds r.1).length, .grow 5 (XN.Ds r.2.1).length, .map (mapD HTK.D (D.int .i64) r.2.2.1), .map (mapD HMK.D (D.int .i64) r.2.2.2)]
def Y_hx_done_io (r : ((AStore × Int × Int × (List YN) × (List XN) × (List (HTK × Int)) × (List (HMK × Int))) ⊕ ((List YN) × (List XN) × Int × Int × (List YN) × (List XN) × (List (HTK × Int)) × (List (HMK × Int))))) : AV := match r with | .inl r => .tuple [.d (AStore.D r.1), .d (.int .i64 r.2.1), .d (.int .i64 r.2.2.1)] | .inr (r) => .tuple [.agg [.own 0 1 3 (YN.Ds r.1), .own 0 2 5 (XN.Ds r.2.1)], .d (.int .i64 r.2.2.1), .d (.int .i64 r.2.2.2.1)]
def L_hx_done_io (r : ((AStore × Int × Int × (List YN) × (List XN) × (List (HTK × Int)) × (List (HMK × Int))) ⊕ ((List YN) × (List XN) × Int × Int × (List YN) × (List XN) × (List (HTK × Int)) × (List (HMK × Int))))) : List Blk := match r with | .inl r => [.cells [.own 0 1 3 (YN.Ds r.2.2.2.1), .own 0 2 5 (XN.Ds r.2.2.2.2.1), .map 0 3, .map 0 4], .grow 3 (YN.Ds r.2.2.2.1).length, .grow 5 (XN.Ds r.2.2.2.2.1).length, .map (mapD HTK.D (D.int .i64) r.2.2.2.2.2.1), .map (mapD HMK.D (D.int .i64) r.2.2.2.2.2.2)] | .inr (r) => [.cells [.own 0 1 3 (YN.Ds r.2.2.2.2.1), .own 0 2 5 (XN.Ds r.2.2.2.2.2.1), .map 0 3, .map 0 4], .grow 3 (YN.Ds r.2.2.2.2.1).length, .grow 5 (XN.Ds r.2.2.2.2.2.1).length, .map (mapD HTK.D (D.int .i64) r.2.2.2.2.2.2.1), .map (mapD HMK.D (D.int .i64) r.2.2.2.2.2.2.2)]
end Go.Proofs.Ytemfpemejagndaa.Fw

