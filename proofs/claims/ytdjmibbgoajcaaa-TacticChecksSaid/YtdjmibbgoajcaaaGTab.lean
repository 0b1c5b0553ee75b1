/- Types. -/
import Derived.Test.YtdjmibbgoajcaaaGFun
import Derived.Test.YtdjmibbgoajcaaaChecked
set_option autoImplicit false
set_option linter.unusedVariables false
set_option linter.unusedSimpArgs false
namespace Go.Proofs.Ytdjmibbgoajcaaa.Fw
open Go Go.Proofs
def T : TT := [
  (3, ⟨1, false, 8, TK.int IntKind.i64, [AV.d (D.int IntKind.i64 0)], [], 0, 0, false⟩),
  (4, ⟨1, false, 1, TK.bool, [AV.d (D.bool false)], [], 0, 0, false⟩),
  (5, ⟨1, false, 1, TK.int IntKind.u8, [AV.d (D.int IntKind.u8 0)], [], 0, 0, false⟩),
  (9, ⟨1, false, 16, TK.str, [AV.d (D.str ByteArray.empty)], [], 0, 0, false⟩),
  (25, ⟨1, false, 8, TK.int IntKind.i64, [AV.d (D.int IntKind.i64 0)], [], 0, 0, false⟩),
  (31, ⟨1, false, 24, TK.slice 33, [AV.nil 3], [], 3, 48, false⟩),
  (33, ⟨3, true, 48, TK.struct, [AV.d (D.bool false), AV.d (D.str ByteArray.empty), AV.nil 3], [(0, 1, false), (1, 1, false), (2, 1, false)], 0, 0, false⟩),
  (34, ⟨1, false, 24, TK.slice 36, [AV.nil 7], [], 7, 104, false⟩),
  (36, ⟨7, true, 104, TK.struct, [AV.d (D.int IntKind.u8 0), AV.d (D.str ByteArray.empty), AV.d (D.bool false), AV.d (D.str ByteArray.empty), AV.nil 3, AV.d (D.int IntKind.i64 0), AV.nil 7], [(0, 1, false), (1, 1, false), (2, 3, true), (5, 1, false), (6, 1, false)], 0, 0, false⟩),
  (37, ⟨1, false, 24, TK.slice 39, [AV.nil 11], [], 11, 152, false⟩),
  (39, ⟨11, true, 152, TK.struct, [AV.d (D.int IntKind.u8 0), AV.d (D.int IntKind.i64 0), AV.d (D.int IntKind.i64 0), AV.d (D.int IntKind.u8 0), AV.d (D.str ByteArray.empty), AV.d (D.bool false), AV.d (D.str ByteArray.empty), AV.nil 3, AV.d (D.int IntKind.i64 0), AV.nil 7, AV.nil 11], [(0, 1, false), (1, 1, false), (2, 1, false), (3, 7, true), (10, 1, false)], 0, 0, false⟩),
  (72, ⟨1, false, 8, TK.func, [AV.d D.nilfunc], [], 0, 0, false⟩),
  (83, ⟨1, false, 8, TK.func, [AV.d D.nilfunc], [], 0, 0, false⟩),
  (101, ⟨1, false, 8, TK.map 5 122, [AV.d D.nilmap], [], 0, 0, false⟩),
  (106, ⟨1, false, 8, TK.func, [AV.d D.nilfunc], [], 0, 0, false⟩),
  (114, ⟨1, false, 8, TK.func, [AV.d D.nilfunc], [], 0, 0, false⟩),
  (122, ⟨5, true, 24, TK.struct, [AV.d (D.bool false), AV.d (D.bool false), AV.d (D.bool false), AV.d (D.int IntKind.i64 0), AV.d (D.int IntKind.i64 0)], [(0, 1, false), (1, 1, false), (2, 1, false), (3, 1, false), (4, 1, false)], 0, 0, false⟩),
  (123, ⟨1, false, 24, TK.slice 5, [AV.nil 1], [], 1, 1, false⟩),
  (138, ⟨1, false, 24, TK.slice 3, [AV.nil 1], [], 1, 8, false⟩)]
def TA : TT := [
  (3, ⟨1, false, 8, TK.int IntKind.i64, [AV.d (D.int IntKind.i64 0)], [], 0, 0, false⟩),
  (4, ⟨1, false, 1, TK.bool, [AV.d (D.bool false)], [], 0, 0, false⟩),
  (5, ⟨1, false, 1, TK.int IntKind.u8, [AV.d (D.int IntKind.u8 0)], [], 0, 0, false⟩),
  (9, ⟨1, false, 16, TK.str, [AV.d (D.str ByteArray.empty)], [], 0, 0, false⟩),
  (25, ⟨1, false, 8, TK.int IntKind.i64, [AV.d (D.int IntKind.i64 0)], [], 0, 0, false⟩),
  (31, ⟨1, false, 24, TK.slice 33, [AV.nil 3], [], 3, 48, true⟩),
  (33, ⟨3, true, 48, TK.struct, [AV.d (D.bool false), AV.d (D.str ByteArray.empty), AV.nil 3], [(0, 1, false), (1, 1, false), (2, 1, false)], 0, 0, false⟩),
  (34, ⟨1, false, 24, TK.slice 36, [AV.nil 7], [], 7, 104, true⟩),
  (36, ⟨7, true, 104, TK.struct, [AV.d (D.int IntKind.u8 0), AV.d (D.str ByteArray.empty), AV.d (D.bool false), AV.d (D.str ByteArray.empty), AV.nil 3, AV.d (D.int IntKind.i64 0), AV.nil 7], [(0, 1, false), (1, 1, false), (2, 3, true), (5, 1, false), (6, 1, false)], 0, 0, false⟩),
  (37, ⟨1, false, 24, TK.slice 39, [AV.nil 11], [], 11, 152, true⟩),
  (39, ⟨11, true, 152, TK.struct, [AV.d (D.int IntKind.u8 0), AV.d (D.int IntKind.i64 0), AV.d (D.int IntKind.i64 0), AV.d (D.int IntKind.u8 0), AV.d (D.str ByteArray.empty), AV.d (D.bool false), AV.d (D.str ByteArray.empty), AV.nil 3, AV.d (D.int IntKind.i64 0), AV.nil 7, AV.nil 11], [(0, 1, false), (1, 1, false), (2, 1, false), (3, 7, true), (10, 1, false)], 0, 0, false⟩),
  (72, ⟨1, false, 8, TK.func, [AV.d D.nilfunc], [], 0, 0, false⟩),
  (83, ⟨1, false, 8, TK.func, [AV.d D.nilfunc], [], 0, 0, false⟩),
  (101, ⟨1, false, 8, TK.map 5 122, [AV.d D.nilmap], [], 0, 0, false⟩),
  (106, ⟨1, false, 8, TK.func, [AV.d D.nilfunc], [], 0, 0, false⟩),
  (114, ⟨1, false, 8, TK.func, [AV.d D.nilfunc], [], 0, 0, false⟩),
  (122, ⟨5, true, 24, TK.struct, [AV.d (D.bool false), AV.d (D.bool false), AV.d (D.bool false), AV.d (D.int IntKind.i64 0), AV.d (D.int IntKind.i64 0)], [(0, 1, false), (1, 1, false), (2, 1, false), (3, 1, false), (4, 1, false)], 0, 0, false⟩),
  (123, ⟨1, false, 24, TK.slice 5, [AV.nil 1], [], 1, 1, true⟩),
  (138, ⟨1, false, 24, TK.slice 3, [AV.nil 1], [], 1, 8, true⟩)]
set_option maxRecDepth 100000 in
theorem TA_ok : TA.okB Try.prog = true := by kernel_rfl
set_option maxRecDepth 100000 in
theorem T_ok : T.okB Try.prog = true := by kernel_rfl
theorem mixed : Try.prog.follows .mixedOrders = true := Try.checked.mixed
def sequentref01_Twin_pl5 : Plan := (.first 0 (.first 1 (.first 2 (.first 3 (.first 4 (.first 5 (.first 6 (.last 7 (.first 8 (.last 9 (.first 10 (.last 11 .done))))))))))))
def sequentref02_Twin_pl1 : Plan := (.first 0 (.first 1 (.first 2 (.first 3 (.first 4 (.first 5 (.first 7 (.first 8 (.two 6 (.first 9 (.last 10 (.last 11 .done))) 10 (.last 6 (.first 9 (.last 11 .done))))))))))))
def sequentref02_Twin_pl5 : Plan := (.first 0 (.first 1 (.first 2 (.first 3 (.first 4 (.first 5 (.first 6 (.last 7 (.first 8 (.last 9 (.first 10 (.last 11 .done))))))))))))
def sequentref29_Twin_pl1 : Plan := (.first 0 (.first 1 (.first 2 (.first 3 (.first 4 (.first 5 (.first 6 (.first 7 (.two 8 (.first 9 (.last 10 (.last 11 .done))) 10 (.last 8 (.first 9 (.last 11 .done))))))))))))
def sequentref29_Twin_pl5 : Plan := (.first 0 (.first 1 (.first 2 (.first 3 (.first 4 (.first 5 (.first 6 (.last 7 (.first 8 (.last 9 (.first 10 (.last 11 .done))))))))))))
def types_Compare_pl1 : Plan := (.first 0 (.first 2 (.first 5 (.first 6 (.first 7 (.first 8 (.first 10 (.first 11 (.first 12 (.first 13 (.first 14 (.first 15 (.last 1 (.last 3 (.last 4 (.last 9 (.last 16 (.first 17 (.last 18 (.first 19 .done))))))))))))))))))))
def terms_Compare_pl7 : Plan := (.first 0 (.first 1 (.first 2 (.first 3 (.first 5 (.first 6 (.first 7 (.first 8 (.first 10 (.first 11 (.first 12 (.first 13 (.first 14 (.first 15 (.last 4 (.last 9 (.last 16 (.first 17 (.last 18 (.first 19 .done))))))))))))))))))))
def terms_formed_pl4 : Plan := (.first 0 (.first 1 (.firstL 2 [4] (.last 3 (.first 4 (.first 5 (.firstL 6 [4] (.last 7 (.first 8 (.first 9 (.first 10 (.firstL 11 [4] (.first 12 (.first 13 (.first 14 (.first 15 (.first 16 (.firstL 17 [4] (.last 18 (.first 19 (.first 20 (.last 21 (.first 22 .done)))))))))))))))))))))))
def terms_formed_pl14 : Plan := (.first 0 (.first 1 (.first 2 (.first 3 (.first 4 (.first 5 (.first 6 (.first 7 (.first 8 (.first 9 (.first 10 (.first 11 (.first 12 (.first 13 (.first 14 (.first 15 (.first 16 (.first 17 (.first 18 (.first 19 (.first 20 (.first 21 (.first 22 (.first 23 (.first 24 (.first 25 (.first 26 (.last 27 (.first 28 (.first 29 .done))))))))))))))))))))))))))))))
def terms_formed_pl20 : Plan := (.first 0 (.first 1 (.first 2 (.first 3 (.first 4 (.first 5 (.first 6 (.first 7 (.first 8 (.first 9 (.first 10 (.first 11 (.first 12 (.two 13 (.two 14 (.first 15 (.first 16 (.first 17 (.last 18 (.last 19 (.first 20 .done)))))) 18 (.last 14 (.first 15 (.first 16 (.first 17 (.last 19 (.first 20 .done))))))) 18 (.last 13 (.last 14 (.first 15 (.first 16 (.first 17 (.last 19 (.first 20 .done)))))))))))))))))))))
def terms_formed_pl24 : Plan := (.first 0 (.first 1 (.last 2 (.first 3 (.last 4 (.first 5 .done))))))
def types_Twin_pl8 : Plan := (.first 0 (.first 1 (.first 2 (.first 3 (.last 4 (.first 5 (.last 6 .done)))))))
def types_DestFun_pl2 : Plan := (.first 0 (.firstL 1 [2] (.last 2 (.last 3 (.first 4 .done)))))
def types_DestFun_pl3 : Plan := (.first 0 (.first 1 (.first 2 (.first 3 (.first 5 (.firstL 6 [2] (.first 7 (.firstL 8 [2] (.last 4 (.last 9 (.last 10 (.last 11 (.first 12 .done)))))))))))))
def types_Fun_pl1 : Plan := (.first 0 (.first 2 (.last 1 (.last 3 (.first 4 (.first 5 (.last 6 .done)))))))
def equality_thin_pl18 : Plan := (.first 0 (.firstL 1 [4] (.last 2 (.first 3 (.last 4 (.first 5 .done))))))
def equality_thin_pl14 : Plan := (.first 0 (.first 1 (.first 2 (.first 3 (.first 4 (.first 5 (.first 6 (.first 7 (.first 8 (.first 9 (.first 10 (.first 11 (.first 12 (.two 13 (.two 14 (.first 15 (.first 16 (.first 17 (.last 18 (.last 19 (.first 20 .done)))))) 18 (.last 14 (.first 15 (.first 16 (.first 17 (.last 19 (.first 20 .done))))))) 18 (.last 13 (.last 14 (.first 15 (.first 16 (.first 17 (.last 19 (.first 20 .done)))))))))))))))))))))
def terms_Twin_pl8 : Plan := (.first 0 (.first 1 (.first 2 (.first 3 (.last 4 (.first 5 (.last 6 .done)))))))
def terms_Twin_ar_pl8 : Plan := (.first 0 (.first 1 (.first 2 (.first 3 (.last 4 (.first 5 (.last 6 .done)))))))
def tactic_Twin_pl7 : Plan := (.first 0 (.first 1 (.first 2 (.last 3 (.first 4 (.last 5 (.first 6 (.last 7 .done))))))))
def tactic_Twin_ar_pl7 : Plan := (.first 0 (.first 1 (.first 2 (.last 3 (.first 4 (.last 5 (.first 6 (.last 7 .done))))))))
def sequentref01_shape_pl1 : Plan := (.first 0 (.first 1 (.last 2 (.first 3 (.first 4 (.first 5 (.first 6 (.first 7 (.first 8 (.first 9 (.first 10 (.first 11 (.first 12 (.first 13 (.first 14 (.first 15 (.first 16 (.first 17 (.first 18 (.first 19 (.first 20 (.first 21 (.first 22 (.first 23 (.first 24 (.first 25 (.first 26 (.first 27 (.first 28 .done)))))))))))))))))))))))))))))
def sequentref01_Compare_pl16 : Plan := (.first 0 (.first 1 (.first 2 (.first 3 (.first 4 (.first 5 (.first 6 (.first 7 (.first 8 (.first 9 (.last 10 (.first 11 .done))))))))))))
def sequentref01_Fun_pl1 : Plan := (.first 0 (.first 2 (.last 1 (.last 3 (.first 4 (.first 5 (.last 6 .done)))))))
def sequentref02_Formed_pl4 : Plan := (.first 0 (.first 1 (.first 2 (.firstL 3 [4] (.last 4 (.first 5 (.first 6 (.firstL 7 [4] (.last 8 (.first 9 (.first 10 (.first 11 (.firstL 12 [4] (.first 13 (.first 14 (.first 15 (.first 16 (.firstL 17 [4] (.first 18 (.first 19 (.first 20 (.last 21 (.first 22 .done)))))))))))))))))))))))
def sequentref02_Formed_pl14 : Plan := (.first 0 (.first 1 (.first 2 (.first 3 (.first 4 (.first 5 (.first 6 (.first 7 (.first 8 (.first 9 (.first 10 (.first 11 (.first 12 (.first 13 (.first 14 (.first 15 (.first 16 (.first 17 (.first 18 (.first 19 (.first 20 (.first 21 (.first 22 (.first 23 (.first 24 (.first 25 (.first 26 (.last 27 (.first 28 (.first 29 .done))))))))))))))))))))))))))))))
def sequentref02_Formed_pl20 : Plan := (.first 0 (.first 1 (.first 2 (.first 3 (.first 4 (.first 5 (.first 6 (.first 7 (.two 8 (.two 9 (.first 10 (.first 11 (.first 12 (.last 13 (.last 14 (.first 15 .done)))))) 13 (.last 9 (.first 10 (.first 11 (.first 12 (.last 14 (.first 15 .done))))))) 13 (.last 8 (.last 9 (.first 10 (.first 11 (.first 12 (.last 14 (.first 15 .done))))))))))))))))
def sequentref02_Formed_pl22 : Plan := (.first 0 (.first 1 (.first 2 (.firstL 3 [4] (.last 4 (.first 5 (.last 6 (.first 7 .done))))))))
def sequentref08_thin_pl16 : Plan := (.first 0 (.firstL 1 [4] (.last 2 (.first 3 (.last 4 (.first 5 .done))))))
def sequentref08_thin_pl12 : Plan := (.first 0 (.first 1 (.first 2 (.first 3 (.first 4 (.first 5 (.first 6 (.first 7 (.two 8 (.two 9 (.first 10 (.first 11 (.first 12 (.last 13 (.last 14 (.first 15 .done)))))) 13 (.last 9 (.first 10 (.first 11 (.first 12 (.last 14 (.first 15 .done))))))) 13 (.last 8 (.last 9 (.first 10 (.first 11 (.first 12 (.last 14 (.first 15 .done))))))))))))))))
def sequentref02_Compare_pl13 : Plan := (.first 0 (.first 1 (.first 2 (.first 3 (.first 4 (.first 5 (.first 6 (.first 7 (.first 8 (.first 9 (.last 10 (.first 11 .done))))))))))))
def sequentref29_Same_pl6 : Plan := (.first 0 (.first 1 (.first 2 (.first 3 (.first 4 (.first 5 (.first 6 (.first 7 (.first 8 (.first 9 (.last 10 (.first 11 .done))))))))))))
def sequentlaw29_TacticChecks_pl6 : Plan := (.first 0 (.first 1 (.last 2 (.first 3 (.first 4 (.first 5 (.first 6 (.last 7 (.first 8 (.first 9 (.first 10 (.first 11 (.first 13 (.first 14 (.last 12 (.last 15 (.first 16 (.first 17 (.first 18 (.first 19 (.first 20 (.last 21 (.first 22 (.first 23 .done))))))))))))))))))))))))
set_option maxRecDepth 100000 in
theorem KF_5 : KeyF Try.prog 5 (D.int .u8) := keyF_of (m := 5) (by decide) (fun a b e => by injection e) fun a => by kernel_rfl
end Go.Proofs.Ytdjmibbgoajcaaa.Fw

