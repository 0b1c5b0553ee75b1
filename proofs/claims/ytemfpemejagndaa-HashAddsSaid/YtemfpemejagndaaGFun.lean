/- Functions. -/
import Derived.Test.YtemfpemejagndaaGData
set_option autoImplicit false
set_option linter.unusedVariables false
set_option linter.unusedSimpArgs false
namespace Go.Proofs.Ytemfpemejagndaa.Fw
open Go Go.Proofs
def slices_Clone_int_int_o (a0 : (List Int)) : Option (List Int) :=
  bind (
  bind (app ([] : List Int) a0) fun v4 =>
  some v4
  ) fun v2 =>
  if a0 = [] then bind (
  some ([] : List Int)
  ) fun v3 => if v3 = v2 then some v2 else none
  else some v2
def hash_Twin_o_io_l1' (p : ((List XN) × (List XN) × (List YN))) : Option ((List YN) × (List XN)) := match p with
  | (rest1, c2_1_1, c2_0_0) =>
  match rest1 with
  | [] =>
   some (c2_0_0, c2_1_1)
  | v30 :: rest1 =>
   bind (slices_Clone_int_int_o v30.sub) fun v31 =>
   bind (app c2_1_1 ([(XN.mk v30.kind v30.name v30.type_ v30.index v31)])) fun v32 =>
   hash_Twin_o_io_l1' (rest1, v32, c2_0_0)
  partial_fixpoint
def hash_Twin_o_io_l1 (rest1 : (List XN)) (c2_1_1 : (List XN)) (c2_0_0 : (List YN)) : Option ((List YN) × (List XN)) := hash_Twin_o_io_l1' (rest1, c2_1_1, c2_0_0)
theorem hash_Twin_o_io_l1_eq (rest1 : (List XN)) (c2_1_1 : (List XN)) (c2_0_0 : (List YN)) : hash_Twin_o_io_l1 rest1 c2_1_1 c2_0_0 =
  match rest1 with
  | [] =>
   some (c2_0_0, c2_1_1)
  | v30 :: rest1 =>
   bind (slices_Clone_int_int_o v30.sub) fun v31 =>
   bind (app c2_1_1 ([(XN.mk v30.kind v30.name v30.type_ v30.index v31)])) fun v32 =>
   hash_Twin_o_io_l1 rest1 v32 c2_0_0 := hash_Twin_o_io_l1'.eq_def (rest1, c2_1_1, c2_0_0)
def hash_Twin_o_io_j0 (a0 : AStore) (c2_0_0 : (List YN)) : Option ((List YN) × (List XN)) :=
  hash_Twin_o_io_l1 a0.terms ([] : List XN) c2_0_0
def hash_Twin_o_io_l0' (p : ((List YN) × (List YN) × AStore)) : Option ((List YN) × (List XN)) := match p with
  | (rest0, c2_0_0, a0) =>
  match rest0 with
  | [] =>
   hash_Twin_o_io_j0 a0 c2_0_0
  | v12 :: rest0 =>
   bind (slices_Clone_int_int_o v12.args) fun v13 =>
   bind (app c2_0_0 ([(YN.mk v12.var v12.name v13)])) fun v14 =>
   hash_Twin_o_io_l0' (rest0, v14, a0)
  partial_fixpoint
def hash_Twin_o_io_l0 (rest0 : (List YN)) (c2_0_0 : (List YN)) (a0 : AStore) : Option ((List YN) × (List XN)) := hash_Twin_o_io_l0' (rest0, c2_0_0, a0)
theorem hash_Twin_o_io_l0_eq (rest0 : (List YN)) (c2_0_0 : (List YN)) (a0 : AStore) : hash_Twin_o_io_l0 rest0 c2_0_0 a0 =
  match rest0 with
  | [] =>
   hash_Twin_o_io_j0 a0 c2_0_0
  | v12 :: rest0 =>
   bind (slices_Clone_int_int_o v12.args) fun v13 =>
   bind (app c2_0_0 ([(YN.mk v12.var v12.name v13)])) fun v14 =>
   hash_Twin_o_io_l0 rest0 v14 a0 := hash_Twin_o_io_l0'.eq_def (rest0, c2_0_0, a0)
def hash_Twin_o_io (a0 : AStore) : Option ((List YN) × (List XN)) :=
  hash_Twin_o_io_l0 a0.types ([] : List YN) a0
def types_name_l0' (p : (Int × ByteArray)) : Option Bool := match p with
  | (t7_0, a0) =>
  if t7_0 < (a0.size : Int) then
   bind (getb a0 t7_0) fun v9 =>
   if v9 = 40 then
    some false
   else
   if v9 = 41 then
    some false
   else
   if v9 = 44 then
    some false
   else
   if v9 = 58 then
    some false
   else
   if v9 = 92 then
    some false
   else
   if v9 = 46 then
    some false
   else
   if v9 = 34 then
    some false
   else
   if v9 < 33 then
    some false
   else
   if 126 < v9 then
    some false
   else
   bind (some (IntKind.wrap .i64 (t7_0 + 1))) fun v19 =>
   types_name_l0' (v19, a0)
  else
  if ¬ a0 = ByteArray.empty then
   some (decide ((a0.size : Int) ≤ 30))
  else
  some false
  partial_fixpoint
def types_name_l0 (t7_0 : Int) (a0 : ByteArray) : Option Bool := types_name_l0' (t7_0, a0)
theorem types_name_l0_eq (t7_0 : Int) (a0 : ByteArray) : types_name_l0 t7_0 a0 =
  if t7_0 < (a0.size : Int) then
   bind (getb a0 t7_0) fun v9 =>
   if v9 = 40 then
    some false
   else
   if v9 = 41 then
    some false
   else
   if v9 = 44 then
    some false
   else
   if v9 = 58 then
    some false
   else
   if v9 = 92 then
    some false
   else
   if v9 = 46 then
    some false
   else
   if v9 = 34 then
    some false
   else
   if v9 < 33 then
    some false
   else
   if 126 < v9 then
    some false
   else
   bind (some (IntKind.wrap .i64 (t7_0 + 1))) fun v19 =>
   types_name_l0 v19 a0
  else
  if ¬ a0 = ByteArray.empty then
   some (decide ((a0.size : Int) ≤ 30))
  else
  some false := types_name_l0'.eq_def (t7_0, a0)
def types_name (a0 : ByteArray) : Option Bool :=
  types_name_l0 0 a0
def types_variable (a0 : ByteArray) : Option Bool :=
  bind (types_name a0) fun v1 =>
  if v1 = true then
  bind (getb a0 0) fun v3 =>
  some (decide (v3 = 39))
  else
  some false
mutual
def types_measure' (a0 : Ty) : Option (Int × Int × Bool) :=
  if a0.v = true then
  bind (types_variable a0.name) fun v2 =>
  if v2 = true then
   if ((Ty.Ds a0.args).length : Int) = 0 then
    types_measure_j0' (true, a0)
   else
   types_measure_j0' (false, a0)
  else
  types_measure_j0' (false, a0)
  else
  bind (types_name a0.name) fun v2 =>
  if v2 = true then
  bind (getb a0.name 0) fun v4 =>
  if ¬ v4 = 39 then
   if ((Ty.Ds a0.args).length : Int) ≤ 8 then
    types_measure_j0' (true, a0)
   else
   types_measure_j0' (false, a0)
  else
  types_measure_j0' (false, a0)
  else
  types_measure_j0' (false, a0)
  partial_fixpoint
def types_measure_j0' (p : (Bool × Ty)) : Option (Int × Int × Bool) := match p with
  | (t4_1, a0) =>
  types_measure_l0' (a0.args, 1, 0, t4_1)
  partial_fixpoint
def types_measure_l0' (p : ((List Ty) × Int × Int × Bool)) : Option (Int × Int × Bool) := match p with
  | (rest0, t2_0, t3_0, t4_0) =>
  match rest0 with
  | [] =>
   bind (some (IntKind.wrap .i64 (t3_0 + 1))) fun v41 =>
   some (t2_0, v41, t4_0)
  | v40 :: rest0 =>
   bind (types_measure' v40) fun v41 =>
   bind (some (IntKind.wrap .i64 (t2_0 + v41.1))) fun v42 =>
   if t4_0 = true then
    types_measure_l0' (rest0, v42, (max t3_0 v41.2.1), v41.2.2)
   else
   types_measure_l0' (rest0, v42, (max t3_0 v41.2.1), false)
  partial_fixpoint
end
def types_measure (a0 : Ty) : Option (Int × Int × Bool) := types_measure' a0
def types_measure_j0 (t4_1 : Bool) (a0 : Ty) : Option (Int × Int × Bool) := types_measure_j0' (t4_1, a0)
def types_measure_l0 (rest0 : (List Ty)) (t2_0 : Int) (t3_0 : Int) (t4_0 : Bool) : Option (Int × Int × Bool) := types_measure_l0' (rest0, t2_0, t3_0, t4_0)
theorem types_measure_eq (a0 : Ty) : types_measure a0 =
  if a0.v = true then
   bind (types_variable a0.name) fun v2 =>
   if v2 = true then
    if ((Ty.Ds a0.args).length : Int) = 0 then
     types_measure_j0 true a0
    else
    types_measure_j0 false a0
   else
   types_measure_j0 false a0
  else
  bind (types_name a0.name) fun v2 =>
  if v2 = true then
   bind (getb a0.name 0) fun v4 =>
   if ¬ v4 = 39 then
    if ((Ty.Ds a0.args).length : Int) ≤ 8 then
     types_measure_j0 true a0
    else
    types_measure_j0 false a0
   else
   types_measure_j0 false a0
  else
  types_measure_j0 false a0 := types_measure'.eq_def a0
theorem types_measure_j0_eq (t4_1 : Bool) (a0 : Ty) : types_measure_j0 t4_1 a0 =
  types_measure_l0 a0.args 1 0 t4_1 := types_measure_j0'.eq_def (t4_1, a0)
theorem types_measure_l0_eq (rest0 : (List Ty)) (t2_0 : Int) (t3_0 : Int) (t4_0 : Bool) : types_measure_l0 rest0 t2_0 t3_0 t4_0 =
  match rest0 with
  | [] =>
   bind (some (IntKind.wrap .i64 (t3_0 + 1))) fun v41 =>
   some (t2_0, v41, t4_0)
  | v40 :: rest0 =>
   bind (types_measure v40) fun v41 =>
   bind (some (IntKind.wrap .i64 (t2_0 + v41.1))) fun v42 =>
   if t4_0 = true then
    types_measure_l0 rest0 v42 (max t3_0 v41.2.1) v41.2.2
   else
   types_measure_l0 rest0 v42 (max t3_0 v41.2.1) false := types_measure_l0'.eq_def (rest0, t2_0, t3_0, t4_0)
def types_Check (a0 : Ty) : Option Int :=
  bind (types_measure a0) fun v1 =>
  if v1.2.2 = true then
  if 500 < v1.1 then
   some 10
  else
  if 200 < v1.2.1 then
   some 10
  else
  some 0
  else
  some 10
def hash_below_1 (a0 : Int) (a1 : Int) : Option Bool :=
  if a0 < 0 then
  some true
  else
  some (decide (a1 ≤ a0))
def slIF_l0' (p : ((List Int) × Nat × Int)) : Option Int := match p with
  | (rest0, k0, a1) =>
  match rest0 with
  | [] =>
   some (-1)
  | v9 :: rest0 =>
   bind (hash_below_1 v9 a1) fun v10 =>
   if v10 = true then
    some (k0 : Int)
   else
   slIF_l0' (rest0, k0 + 1, a1)
  partial_fixpoint
def slIF_l0 (rest0 : (List Int)) (k0 : Nat) (a1 : Int) : Option Int := slIF_l0' (rest0, k0, a1)
theorem slIF_l0_eq (rest0 : (List Int)) (k0 : Nat) (a1 : Int) : slIF_l0 rest0 k0 a1 =
  match rest0 with
  | [] =>
   some (-1)
  | v9 :: rest0 =>
   bind (hash_below_1 v9 a1) fun v10 =>
   if v10 = true then
    some (k0 : Int)
   else
   slIF_l0 rest0 (k0 + 1) a1 := slIF_l0'.eq_def (rest0, k0, a1)
def slIF (a0 : (List Int)) (a1 : Int) : Option Int :=
  slIF_l0 a0 0 a1
def slices_ContainsFunc_int_int__hash_below_1 (a0 : (List Int)) (a1 : Int) : Option Bool :=
  bind (slIF a0 a1) fun v1 =>
  some (decide (0 ≤ v1))
def hash_below (a0 : (List Int)) (a1 : Int) : Option Bool :=
  bind (slices_ContainsFunc_int_int__hash_below_1 a0 a1) fun v1 =>
  some (!v1)
def hash_measure_l0' (p : ((List Int) × Int × Int × (List Int) × (List Int))) : Option (Int × Int) := match p with
  | (rest0, t6_0, t7_0, a0, a1) =>
  match rest0 with
  | [] =>
   bind (some (IntKind.wrap .i64 (t6_0 + 1))) fun v14 =>
   bind (some (IntKind.wrap .i64 (t7_0 + 1))) fun v15 =>
   some ((min v14 32001), (min v15 301))
  | v13 :: rest0 =>
   bind (geti a0 v13) fun v14 =>
   bind (some (IntKind.wrap .i64 (t6_0 + v14))) fun v15 =>
   bind (geti a1 v13) fun v16 =>
   hash_measure_l0' (rest0, v15, (max t7_0 v16), a0, a1)
  partial_fixpoint
def hash_measure_l0 (rest0 : (List Int)) (t6_0 : Int) (t7_0 : Int) (a0 : (List Int)) (a1 : (List Int)) : Option (Int × Int) := hash_measure_l0' (rest0, t6_0, t7_0, a0, a1)
theorem hash_measure_l0_eq (rest0 : (List Int)) (t6_0 : Int) (t7_0 : Int) (a0 : (List Int)) (a1 : (List Int)) : hash_measure_l0 rest0 t6_0 t7_0 a0 a1 =
  match rest0 with
  | [] =>
   bind (some (IntKind.wrap .i64 (t6_0 + 1))) fun v14 =>
   bind (some (IntKind.wrap .i64 (t7_0 + 1))) fun v15 =>
   some ((min v14 32001), (min v15 301))
  | v13 :: rest0 =>
   bind (geti a0 v13) fun v14 =>
   bind (some (IntKind.wrap .i64 (t6_0 + v14))) fun v15 =>
   bind (geti a1 v13) fun v16 =>
   hash_measure_l0 rest0 v15 (max t7_0 v16) a0 a1 := hash_measure_l0'.eq_def (rest0, t6_0, t7_0, a0, a1)
def hash_measure (a0 : (List Int)) (a1 : (List Int)) (a2 : (List Int)) : Option (Int × Int) :=
  hash_measure_l0 a2 0 0 a0 a1
def hash_keyType (a0 : YN) : Option HTK :=
  some (HTK.mk a0.var a0.name ((intDs_i64 a0.args).length : Int) (Arr8_i64.mk (a0.args.getD 0 0) (a0.args.getD 1 0) (a0.args.getD 2 0) (a0.args.getD 3 0) (a0.args.getD 4 0) (a0.args.getD 5 0) (a0.args.getD 6 0) (a0.args.getD 7 0)))
mutual
def hx_addTypes_o_io_l0' (p : ((List YN) × Nat × (List Int) × (List Int) × (List (HTK × Int)) × (List YN) × (List XN) × (List (HMK × Int)))) : Option (Bool × (List YN) × (List XN) × (List (HTK × Int)) × (List (HMK × Int))) := match p with
  | (rest0, k0, t5_0, t6_0, m3_0, b0_0, b0_1, b4) =>
  match rest0 with
  | [] =>
   some (true, b0_0, b0_1, m3_0, b4)
  | v24 :: rest0 =>
   if 8 < ((intDs_i64 v24.args).length : Int) then
    some (false, b0_0, b0_1, m3_0, b4)
   else
   if v24.var = true then
    if 0 < ((intDs_i64 v24.args).length : Int) then
     some (false, b0_0, b0_1, m3_0, b4)
    else
    bind (types_Check (Ty.mk v24.var v24.name ([] : List Ty))) fun v28 =>
    if ¬ v28 = 0 then
     some (false, b0_0, b0_1, m3_0, b4)
    else
    bind (hash_below v24.args (k0 : Int)) fun v30 =>
    if v30 = true then
     hx_addTypes_o_io_j0' (b0_0, b0_1, b4, k0, m3_0, rest0, t5_0, t6_0, v24)
    else
    some (false, b0_0, b0_1, m3_0, b4)
   else
   bind (types_Check (Ty.mk v24.var v24.name ([] : List Ty))) fun v27 =>
   if ¬ v27 = 0 then
    some (false, b0_0, b0_1, m3_0, b4)
   else
   bind (hash_below v24.args (k0 : Int)) fun v29 =>
   if v29 = true then
    hx_addTypes_o_io_j0' (b0_0, b0_1, b4, k0, m3_0, rest0, t5_0, t6_0, v24)
   else
   some (false, b0_0, b0_1, m3_0, b4)
  partial_fixpoint
def hx_addTypes_o_io_j0' (p : ((List YN) × (List XN) × (List (HMK × Int)) × Nat × (List (HTK × Int)) × (List YN) × (List Int) × (List Int) × YN)) : Option (Bool × (List YN) × (List XN) × (List (HTK × Int)) × (List (HMK × Int))) := match p with
  | (b0_0, b0_1, b4, k0, m3_0, rest0, t5_0, t6_0, v24) =>
  bind (hash_measure t5_0 t6_0 v24.args) fun v32 =>
  if 500 < v32.1 then
   some (false, b0_0, b0_1, m3_0, b4)
  else
  if 200 < v32.2 then
   some (false, b0_0, b0_1, m3_0, b4)
  else
  bind (app t5_0 ([v32.1])) fun v35 =>
  bind (app t6_0 ([v32.2])) fun v36 =>
  bind (hash_keyType v24) fun v37 =>
  match mget m3_0 v37 with
  | some v38 =>
   some (false, b0_0, b0_1, m3_0, b4)
  | none =>
   bind (hash_keyType v24) fun v39 =>
   bind (some (mput m3_0 v39 (k0 : Int))) fun v40 =>
   hx_addTypes_o_io_l0' (rest0, k0 + 1, v35, v36, v40, b0_0, b0_1, b4)
  partial_fixpoint
end
def hx_addTypes_o_io_l0 (rest0 : (List YN)) (k0 : Nat) (t5_0 : (List Int)) (t6_0 : (List Int)) (m3_0 : (List (HTK × Int))) (b0_0 : (List YN)) (b0_1 : (List XN)) (b4 : (List (HMK × Int))) : Option (Bool × (List YN) × (List XN) × (List (HTK × Int)) × (List (HMK × Int))) := hx_addTypes_o_io_l0' (rest0, k0, t5_0, t6_0, m3_0, b0_0, b0_1, b4)
def hx_addTypes_o_io_j0 (b0_0 : (List YN)) (b0_1 : (List XN)) (b4 : (List (HMK × Int))) (k0 : Nat) (m3_0 : (List (HTK × Int))) (rest0 : (List YN)) (t5_0 : (List Int)) (t6_0 : (List Int)) (v24 : YN) : Option (Bool × (List YN) × (List XN) × (List (HTK × Int)) × (List (HMK × Int))) := hx_addTypes_o_io_j0' (b0_0, b0_1, b4, k0, m3_0, rest0, t5_0, t6_0, v24)
theorem hx_addTypes_o_io_l0_eq (rest0 : (List YN)) (k0 : Nat) (t5_0 : (List Int)) (t6_0 : (List Int)) (m3_0 : (List (HTK × Int))) (b0_0 : (List YN)) (b0_1 : (List XN)) (b4 : (List (HMK × Int))) : hx_addTypes_o_io_l0 rest0 k0 t5_0 t6_0 m3_0 b0_0 b0_1 b4 =
  match rest0 with
  | [] =>
   some (true, b0_0, b0_1, m3_0, b4)
  | v24 :: rest0 =>
   if 8 < ((intDs_i64 v24.args).length : Int) then
    some (false, b0_0, b0_1, m3_0, b4)
   else
   if v24.var = true then
    if 0 < ((intDs_i64 v24.args).length : Int) then
     some (false, b0_0, b0_1, m3_0, b4)
    else
    bind (types_Check (Ty.mk v24.var v24.name ([] : List Ty))) fun v28 =>
    if ¬ v28 = 0 then
     some (false, b0_0, b0_1, m3_0, b4)
    else
    bind (hash_below v24.args (k0 : Int)) fun v30 =>
    if v30 = true then
     hx_addTypes_o_io_j0 b0_0 b0_1 b4 k0 m3_0 rest0 t5_0 t6_0 v24
    else
    some (false, b0_0, b0_1, m3_0, b4)
   else
   bind (types_Check (Ty.mk v24.var v24.name ([] : List Ty))) fun v27 =>
   if ¬ v27 = 0 then
    some (false, b0_0, b0_1, m3_0, b4)
   else
   bind (hash_below v24.args (k0 : Int)) fun v29 =>
   if v29 = true then
    hx_addTypes_o_io_j0 b0_0 b0_1 b4 k0 m3_0 rest0 t5_0 t6_0 v24
   else
   some (false, b0_0, b0_1, m3_0, b4) := hx_addTypes_o_io_l0'.eq_def (rest0, k0, t5_0, t6_0, m3_0, b0_0, b0_1, b4)
theorem hx_addTypes_o_io_j0_eq (b0_0 : (List YN)) (b0_1 : (List XN)) (b4 : (List (HMK × Int))) (k0 : Nat) (m3_0 : (List (HTK × Int))) (rest0 : (List YN)) (t5_0 : (List Int)) (t6_0 : (List Int)) (v24 : YN) : hx_addTypes_o_io_j0 b0_0 b0_1 b4 k0 m3_0 rest0 t5_0 t6_0 v24 =
  bind (hash_measure t5_0 t6_0 v24.args) fun v32 =>
  if 500 < v32.1 then
   some (false, b0_0, b0_1, m3_0, b4)
  else
  if 200 < v32.2 then
   some (false, b0_0, b0_1, m3_0, b4)
  else
  bind (app t5_0 ([v32.1])) fun v35 =>
  bind (app t6_0 ([v32.2])) fun v36 =>
  bind (hash_keyType v24) fun v37 =>
  match mget m3_0 v37 with
  | some v38 =>
   some (false, b0_0, b0_1, m3_0, b4)
  | none =>
   bind (hash_keyType v24) fun v39 =>
   bind (some (mput m3_0 v39 (k0 : Int))) fun v40 =>
   hx_addTypes_o_io_l0 rest0 (k0 + 1) v35 v36 v40 b0_0 b0_1 b4 := hx_addTypes_o_io_j0'.eq_def (b0_0, b0_1, b4, k0, m3_0, rest0, t5_0, t6_0, v24)
def hx_addTypes_o_io (a1 : (List YN)) (b0_0 : (List YN)) (b0_1 : (List XN)) (b3 : (List (HTK × Int))) (b4 : (List (HMK × Int))) : Option (Bool × (List YN) × (List XN) × (List (HTK × Int)) × (List (HMK × Int))) :=
  hx_addTypes_o_io_l0 a1 0 ([] : List Int) ([] : List Int) b3 b0_0 b0_1 b4
def types_Bool : Option Ty :=
  some (Ty.mk false (ByteArray.mk #[98, 111, 111, 108]) ([] : List Ty))
def terms_named (a0 : ByteArray) : Option Bool :=
  bind (types_Check (Ty.mk false a0 ([] : List Ty))) fun v1 =>
  some (decide (v1 = 0))
mutual
def types_Twin' (a0 : Ty) : Option Ty :=
  if 0 < ((Ty.Ds a0.args).length : Int) then
  bind (mkn (Ty.mk false ByteArray.empty []) ((Ty.Ds a0.args).length : Int)) fun v2 =>
  types_Twin_j0' (a0, v2)
  else
  types_Twin_j0b' a0
  partial_fixpoint
def types_Twin_j0' (p : (Ty × (List Ty))) : Option Ty := match p with
  | (a0, v2) =>
  types_Twin_l0' (0, v2, a0)
  partial_fixpoint
def types_Twin_l0' (p : (Int × (List Ty) × Ty)) : Option Ty := match p with
  | (t18_0, a2_0, a0) =>
  if t18_0 < ((Ty.Ds a0.args).length : Int) then
   bind (geti a0.args t18_0) fun v20 =>
   bind (types_Twin' v20) fun v21 =>
   bind (wantb (0 ≤ t18_0 ∧ t18_0 < (a2_0.length : Int))) fun g23 =>
   bind (seti a2_0 t18_0 v21) fun v24 =>
   bind (some (IntKind.wrap .i64 (t18_0 + 1))) fun v25 =>
   types_Twin_l0' (v25, v24, a0)
  else
  some (Ty.mk a0.v a0.name a2_0)
  partial_fixpoint
def types_Twin_j0b' (a0 : Ty) : Option Ty :=
  types_Twin_l0b' a0
  partial_fixpoint
def types_Twin_l0b' (a0 : Ty) : Option Ty :=
  if 0 < ((Ty.Ds a0.args).length : Int) then
  bind (geti a0.args 0) fun v20 =>
  bind (types_Twin' v20) fun v21 =>
  none
  else
  some (Ty.mk a0.v a0.name ([] : List Ty))
  partial_fixpoint
end
def types_Twin (a0 : Ty) : Option Ty := types_Twin' a0
def types_Twin_j0 (a0 : Ty) (v2 : (List Ty)) : Option Ty := types_Twin_j0' (a0, v2)
def types_Twin_l0 (t18_0 : Int) (a2_0 : (List Ty)) (a0 : Ty) : Option Ty := types_Twin_l0' (t18_0, a2_0, a0)
def types_Twin_j0b (a0 : Ty) : Option Ty := types_Twin_j0b' a0
def types_Twin_l0b (a0 : Ty) : Option Ty := types_Twin_l0b' a0
theorem types_Twin_eq (a0 : Ty) : types_Twin a0 =
  if 0 < ((Ty.Ds a0.args).length : Int) then
   bind (mkn (Ty.mk false ByteArray.empty []) ((Ty.Ds a0.args).length : Int)) fun v2 =>
   types_Twin_j0 a0 v2
  else
  types_Twin_j0b a0 := types_Twin'.eq_def a0
theorem types_Twin_j0_eq (a0 : Ty) (v2 : (List Ty)) : types_Twin_j0 a0 v2 =
  types_Twin_l0 0 v2 a0 := types_Twin_j0'.eq_def (a0, v2)
theorem types_Twin_l0_eq (t18_0 : Int) (a2_0 : (List Ty)) (a0 : Ty) : types_Twin_l0 t18_0 a2_0 a0 =
  if t18_0 < ((Ty.Ds a0.args).length : Int) then
   bind (geti a0.args t18_0) fun v20 =>
   bind (types_Twin v20) fun v21 =>
   bind (wantb (0 ≤ t18_0 ∧ t18_0 < (a2_0.length : Int))) fun g23 =>
   bind (seti a2_0 t18_0 v21) fun v24 =>
   bind (some (IntKind.wrap .i64 (t18_0 + 1))) fun v25 =>
   types_Twin_l0 v25 v24 a0
  else
  some (Ty.mk a0.v a0.name a2_0) := types_Twin_l0'.eq_def (t18_0, a2_0, a0)
theorem types_Twin_j0b_eq (a0 : Ty) : types_Twin_j0b a0 =
  types_Twin_l0b a0 := types_Twin_j0b'.eq_def a0
theorem types_Twin_l0b_eq (a0 : Ty) : types_Twin_l0b a0 =
  if 0 < ((Ty.Ds a0.args).length : Int) then
   bind (geti a0.args 0) fun v20 =>
   bind (types_Twin v20) fun v21 =>
   none
  else
  some (Ty.mk a0.v a0.name ([] : List Ty)) := types_Twin_l0b'.eq_def a0
def terms_leaf (a0 : Int) (a1 : ByteArray) (a2 : Ty) : Option (Tm × Int) :=
  bind (types_Check a2) fun v1 =>
  if ¬ v1 = 0 then
  some ((Tm.mk 0 ByteArray.empty (Ty.mk false ByteArray.empty ([] : List Ty)) 0 ([] : List Tm)), v1)
  else
  bind (terms_named a1) fun v3 =>
  if v3 = true then
  bind (types_Twin a2) fun v5 =>
  some ((Tm.mk a0 a1 v5 0 ([] : List Tm)), 0)
  else
  some ((Tm.mk 0 ByteArray.empty (Ty.mk false ByteArray.empty ([] : List Ty)) 0 ([] : List Tm)), 20)
def terms_Var (a0 : ByteArray) (a1 : Ty) : Option (Tm × Int) :=
  bind (terms_leaf 1 a0 a1) fun v1 =>
  some (v1.1, v1.2)
def hash_fine_j2 (a0 : XN) (a2 : Int) (v21 : (Tm × Int)) : Option Bool :=
  if a0.index = 0 then
  if 0 ≤ a0.type_ then
   if a0.type_ < a2 then
    some (decide (v21.2 = 0))
   else
   some false
  else
  some false
  else
  some false
def hash_fine_j1 (t9_1 : Int) (t10_1 : Bool) (a0 : XN) (a1 : Int) (a2 : Int) (t7_0 : Bool) : Option Bool :=
  if t10_1 = true then
  if ¬ ((intDs_i64 a0.sub).length : Int) = t9_1 then
   some false
  else
  bind (hash_below a0.sub a1) fun v16 =>
  if v16 = true then
   if a0.kind = 3 then
    if a0.type_ = (-1) then
     if a0.name = ByteArray.empty then
      if 0 ≤ a0.index then
       some (decide (a0.index < 300))
      else
      some false
     else
     some false
    else
    some false
   else
   if t7_0 = true then
    bind (types_Bool) fun v20 =>
    bind (terms_Var a0.name v20) fun v21 =>
    hash_fine_j2 a0 a2 v21
   else
   if a0.type_ = (-1) then
    if a0.name = ByteArray.empty then
     some (decide (a0.index = 0))
    else
    some false
   else
   some false
  else
  some false
  else
  some false
def hash_fine_j0 (t7_0 : Bool) (a0 : XN) (a1 : Int) (a2 : Int) : Option Bool :=
  bind (some (mput ([] : List (Int × Int)) 1 0)) fun v8 =>
  bind (some (mput v8 2 0)) fun v9 =>
  bind (some (mput v9 3 0)) fun v10 =>
  bind (some (mput v10 4 2)) fun v11 =>
  bind (some (mput v11 5 1)) fun v12 =>
  match mget v12 a0.kind with
  | some v13 =>
  hash_fine_j1 v13 true a0 a1 a2 t7_0
  | none =>
  hash_fine_j1 0 false a0 a1 a2 t7_0
def hash_fine (a0 : XN) (a1 : Int) (a2 : Int) : Option Bool :=
  if ¬ a0.kind = 3 then
  if ¬ a0.kind = 4 then
   hash_fine_j0 true a0 a1 a2
  else
  hash_fine_j0 false a0 a1 a2
  else
  hash_fine_j0 false a0 a1 a2
def hash_keyTerm_j1 (c2_5_1 : Int) (a0 : XN) (c2_1_0 : ByteArray) : Option HMK :=
  if 1 < ((intDs_i64 a0.sub).length : Int) then
  bind (geti a0.sub 1) fun v7 =>
  some (HMK.mk a0.kind c2_1_0 a0.type_ a0.index ((intDs_i64 a0.sub).length : Int) c2_5_1 v7)
  else
  some (HMK.mk a0.kind c2_1_0 a0.type_ a0.index ((intDs_i64 a0.sub).length : Int) c2_5_1 0)
def hash_keyTerm_j0 (c2_1_0 : ByteArray) (a0 : XN) : Option HMK :=
  if 0 < ((intDs_i64 a0.sub).length : Int) then
  bind (geti a0.sub 0) fun v4 =>
  hash_keyTerm_j1 v4 a0 c2_1_0
  else
  hash_keyTerm_j1 0 a0 c2_1_0
def hash_keyTerm (a0 : XN) : Option HMK :=
  if a0.kind = 5 then
  hash_keyTerm_j0 ByteArray.empty a0
  else
  hash_keyTerm_j0 a0.name a0
def hash_open_o_io_l0' (p : ((List XN) × Nat × (List (HMK × Int)) × AStore × (Bool × (List YN) × (List XN) × (List (HTK × Int)) × (List (HMK × Int))))) : Option (Unit ⊕ (Unit ⊕ ((List YN) × (List XN) × (List (HTK × Int)) × (List (HMK × Int))))) := match p with
  | (rest0, k0, m4_0, a0, v4) =>
  match rest0 with
  | [] =>
   some (.inr (.inr ((v4.2.1, v4.2.2.1, v4.2.2.2.1, m4_0))))
  | v34 :: rest0 =>
   bind (hash_fine v34 (k0 : Int) ((YN.Ds a0.types).length : Int)) fun v35 =>
   if v35 = true then
    bind (hash_keyTerm v34) fun v37 =>
    match mget m4_0 v37 with
    | some v38 =>
     some (.inr (.inl (())))
    | none =>
     bind (hash_keyTerm v34) fun v39 =>
     bind (some (mput m4_0 v39 (k0 : Int))) fun v40 =>
     hash_open_o_io_l0' (rest0, k0 + 1, v40, a0, v4)
   else
   some (.inr (.inl (())))
  partial_fixpoint
def hash_open_o_io_l0 (rest0 : (List XN)) (k0 : Nat) (m4_0 : (List (HMK × Int))) (a0 : AStore) (v4 : (Bool × (List YN) × (List XN) × (List (HTK × Int)) × (List (HMK × Int)))) : Option (Unit ⊕ (Unit ⊕ ((List YN) × (List XN) × (List (HTK × Int)) × (List (HMK × Int))))) := hash_open_o_io_l0' (rest0, k0, m4_0, a0, v4)
theorem hash_open_o_io_l0_eq (rest0 : (List XN)) (k0 : Nat) (m4_0 : (List (HMK × Int))) (a0 : AStore) (v4 : (Bool × (List YN) × (List XN) × (List (HTK × Int)) × (List (HMK × Int)))) : hash_open_o_io_l0 rest0 k0 m4_0 a0 v4 =
  match rest0 with
  | [] =>
   some (.inr (.inr ((v4.2.1, v4.2.2.1, v4.2.2.2.1, m4_0))))
  | v34 :: rest0 =>
   bind (hash_fine v34 (k0 : Int) ((YN.Ds a0.types).length : Int)) fun v35 =>
   if v35 = true then
    bind (hash_keyTerm v34) fun v37 =>
    match mget m4_0 v37 with
    | some v38 =>
     some (.inr (.inl (())))
    | none =>
     bind (hash_keyTerm v34) fun v39 =>
     bind (some (mput m4_0 v39 (k0 : Int))) fun v40 =>
     hash_open_o_io_l0 rest0 (k0 + 1) v40 a0 v4
   else
   some (.inr (.inl (()))) := hash_open_o_io_l0'.eq_def (rest0, k0, m4_0, a0, v4)
def hash_open_o_io (a0 : AStore) : Option (Unit ⊕ (Unit ⊕ ((List YN) × (List XN) × (List (HTK × Int)) × (List (HMK × Int))))) :=
  if 4096 < ((YN.Ds a0.types).length : Int) then
  some (.inl (()))
  else
  if 4096 < ((XN.Ds a0.terms).length : Int) then
  some (.inl (()))
  else
  bind (hash_Twin_o_io a0) fun v3 =>
  bind (hx_addTypes_o_io a0.types v3.1 v3.2 ([] : List (HTK × Int)) ([] : List (HMK × Int))) fun v4 =>
  if v4.1 = true then
  hash_open_o_io_l0 a0.terms 0 v4.2.2.2.2 a0 v4
  else
  some (.inr (.inl (())))
mutual
def terms_extent' (a0 : Tm) : Option (Int × Int) :=
  terms_extent_l0' (a0.sub, 1, 0)
  partial_fixpoint
def terms_extent_l0' (p : ((List Tm) × Int × Int)) : Option (Int × Int) := match p with
  | (rest0, t2_0, t3_0) =>
  match rest0 with
  | [] =>
   bind (some (IntKind.wrap .i64 (t3_0 + 1))) fun v13 =>
   some (t2_0, v13)
  | v12 :: rest0 =>
   bind (terms_extent' v12) fun v13 =>
   bind (some (IntKind.wrap .i64 (t2_0 + v13.1))) fun v14 =>
   terms_extent_l0' (rest0, v14, (max t3_0 v13.2))
  partial_fixpoint
end
def terms_extent (a0 : Tm) : Option (Int × Int) := terms_extent' a0
def terms_extent_l0 (rest0 : (List Tm)) (t2_0 : Int) (t3_0 : Int) : Option (Int × Int) := terms_extent_l0' (rest0, t2_0, t3_0)
theorem terms_extent_eq (a0 : Tm) : terms_extent a0 =
  terms_extent_l0 a0.sub 1 0 := terms_extent'.eq_def a0
theorem terms_extent_l0_eq (rest0 : (List Tm)) (t2_0 : Int) (t3_0 : Int) : terms_extent_l0 rest0 t2_0 t3_0 =
  match rest0 with
  | [] =>
   bind (some (IntKind.wrap .i64 (t3_0 + 1))) fun v13 =>
   some (t2_0, v13)
  | v12 :: rest0 =>
   bind (terms_extent v12) fun v13 =>
   bind (some (IntKind.wrap .i64 (t2_0 + v13.1))) fun v14 =>
   terms_extent_l0 rest0 v14 (max t3_0 v13.2) := terms_extent_l0'.eq_def (rest0, t2_0, t3_0)
def terms_great (a0 : Tm) : Option Bool :=
  bind (terms_extent a0) fun v1 =>
  if 32000 < v1.1 then
  some true
  else
  some (decide (300 < v1.2))
def terms_plain (a0 : Tm) (a1 : Bool) (a2 : Bool) (a3 : Bool) : Option Bool :=
  if a1 = true then
  if a2 = true then
   if a3 = true then
    some true
   else
   some (decide (a0.index = 0))
  else
  if a0.ty.v = true then
   some false
  else
  if a0.ty.name = ByteArray.empty then
   if ((Ty.Ds a0.ty.args).length : Int) = 0 then
    if a3 = true then
     some true
    else
    some (decide (a0.index = 0))
   else
   some false
  else
  some false
  else
  if a0.name = ByteArray.empty then
  if a2 = true then
   if a3 = true then
    some true
   else
   some (decide (a0.index = 0))
  else
  if a0.ty.v = true then
   some false
  else
  if a0.ty.name = ByteArray.empty then
   if ((Ty.Ds a0.ty.args).length : Int) = 0 then
    if a3 = true then
     some true
    else
    some (decide (a0.index = 0))
   else
   some false
  else
  some false
  else
  some false
def types_rank (a0 : Ty) : Option Int :=
  if a0.v = true then
  some 0
  else
  some 1
def cmp_isNaN_int (a0 : Int) : Option Bool :=
  some (decide (¬ a0 = a0))
def cmp_Compare_int (a0 : Int) (a1 : Int) : Option Int :=
  bind (cmp_isNaN_int a0) fun v1 =>
  bind (cmp_isNaN_int a1) fun v2 =>
  if v1 = true then
  if v2 = true then
   some 0
  else
  some (-1)
  else
  if v2 = true then
  some 1
  else
  if a0 < a1 then
  some (-1)
  else
  if a1 < a0 then
  some 1
  else
  some 0
def bytealg_CompareString (a0 : ByteArray) (a1 : ByteArray) : Option Int :=
  bind (cmpstr a0 a1) fun v1 =>
  some v1
def strings_Compare (a0 : ByteArray) (a1 : ByteArray) : Option Int :=
  bind (bytealg_CompareString a0 a1) fun v1 =>
  some v1
def cmp_Or_int_l0' (rest0 : (List Int)) : Option Int :=
  match rest0 with
  | [] =>
  some 0
  | v9 :: rest0 =>
  if ¬ v9 = 0 then
   some v9
  else
  cmp_Or_int_l0' rest0
  partial_fixpoint
def cmp_Or_int_l0 (rest0 : (List Int)) : Option Int := cmp_Or_int_l0' rest0
theorem cmp_Or_int_l0_eq (rest0 : (List Int)) : cmp_Or_int_l0 rest0 =
  match rest0 with
  | [] =>
   some 0
  | v9 :: rest0 =>
   if ¬ v9 = 0 then
    some v9
   else
   cmp_Or_int_l0 rest0 := cmp_Or_int_l0'.eq_def rest0
def cmp_Or_int (a0 : (List Int)) : Option Int :=
  cmp_Or_int_l0 a0
mutual
def slCF' (p : ((List Ty) × (List Ty))) : Option Int := match p with
  | (a0, a1) =>
  slCF_l0' (a0, 0, a0, a1)
  partial_fixpoint
def slCF_l0' (p : ((List Ty) × Nat × (List Ty) × (List Ty))) : Option Int := match p with
  | (rest0, k0, a0, a1) =>
  match rest0 with
  | [] =>
   if ((Ty.Ds a0).length : Int) < ((Ty.Ds a1).length : Int) then
    some (-1)
   else
   some 0
  | v14 :: rest0 =>
   if ((Ty.Ds a1).length : Int) ≤ (k0 : Int) then
    some 1
   else
   bind (geti a1 (k0 : Int)) fun v16 =>
   bind (types_Compare' (v14, v16)) fun v17 =>
   if ¬ v17 = 0 then
    some v17
   else
   slCF_l0' (rest0, k0 + 1, a0, a1)
  partial_fixpoint
def types_Compare' (p : (Ty × Ty)) : Option Int := match p with
  | (a0, a1) =>
  bind (types_rank a0) fun v1 =>
  bind (types_rank a1) fun v2 =>
  bind (cmp_Compare_int v1 v2) fun v3 =>
  bind (strings_Compare a0.name a1.name) fun v4 =>
  bind (cmp_Compare_int ((Ty.Ds a0.args).length : Int) ((Ty.Ds a1.args).length : Int)) fun v5 =>
  bind (cmp_Or_int ([v3, v4, v5])) fun v6 =>
  if ¬ v6 = 0 then
   some v6
  else
  bind (slCF' (a0.args, a1.args)) fun v8 =>
  some v8
  partial_fixpoint
end
def slCF (a0 : (List Ty)) (a1 : (List Ty)) : Option Int := slCF' (a0, a1)
def slCF_l0 (rest0 : (List Ty)) (k0 : Nat) (a0 : (List Ty)) (a1 : (List Ty)) : Option Int := slCF_l0' (rest0, k0, a0, a1)
def types_Compare (a0 : Ty) (a1 : Ty) : Option Int := types_Compare' (a0, a1)
theorem slCF_eq (a0 : (List Ty)) (a1 : (List Ty)) : slCF a0 a1 =
  slCF_l0 a0 0 a0 a1 := slCF'.eq_def (a0, a1)
theorem slCF_l0_eq (rest0 : (List Ty)) (k0 : Nat) (a0 : (List Ty)) (a1 : (List Ty)) : slCF_l0 rest0 k0 a0 a1 =
  match rest0 with
  | [] =>
   if ((Ty.Ds a0).length : Int) < ((Ty.Ds a1).length : Int) then
    some (-1)
   else
   some 0
  | v14 :: rest0 =>
   if ((Ty.Ds a1).length : Int) ≤ (k0 : Int) then
    some 1
   else
   bind (geti a1 (k0 : Int)) fun v16 =>
   bind (types_Compare v14 v16) fun v17 =>
   if ¬ v17 = 0 then
    some v17
   else
   slCF_l0 rest0 (k0 + 1) a0 a1 := slCF_l0'.eq_def (rest0, k0, a0, a1)
theorem types_Compare_eq (a0 : Ty) (a1 : Ty) : types_Compare a0 a1 =
  bind (types_rank a0) fun v1 =>
  bind (types_rank a1) fun v2 =>
  bind (cmp_Compare_int v1 v2) fun v3 =>
  bind (strings_Compare a0.name a1.name) fun v4 =>
  bind (cmp_Compare_int ((Ty.Ds a0.args).length : Int) ((Ty.Ds a1.args).length : Int)) fun v5 =>
  bind (cmp_Or_int ([v3, v4, v5])) fun v6 =>
  if ¬ v6 = 0 then
   some v6
  else
  bind (slCF a0.args a1.args) fun v8 =>
  some v8 := types_Compare'.eq_def (a0, a1)
def types_Same (a0 : Ty) (a1 : Ty) : Option Bool :=
  bind (types_Compare a0 a1) fun v1 =>
  some (decide (v1 = 0))
def terms_formed_j0 (a0 : Tm) (v16 : (Ty × Bool)) : Option (Ty × Bool) :=
  if v16.2 = true then
  bind (types_Check (Ty.mk false (ByteArray.mk #[102, 117, 110]) ([a0.ty, v16.1]))) fun v18 =>
  some ((Ty.mk false (ByteArray.mk #[102, 117, 110]) ([a0.ty, v16.1])), (decide (v18 = 0)))
  else
  some ((Ty.mk false ByteArray.empty ([] : List Ty)), false)
def terms_formed' (p : (Tm × (List Ty))) : Option (Ty × Bool) := match p with
  | (a0, a1) =>
  if a0.kind = 1 then
   bind (terms_plain a0 true true false) fun v2 =>
   if v2 = true then
    bind (terms_named a0.name) fun v4 =>
    if v4 = true then
     if ((Tm.Ds a0.sub).length : Int) = 0 then
      bind (types_Check a0.ty) fun v7 =>
      some (a0.ty, (decide (v7 = 0)))
     else
     some (a0.ty, false)
    else
    some (a0.ty, false)
   else
   some (a0.ty, false)
  else
  if a0.kind = 2 then
   bind (terms_plain a0 true true false) fun v3 =>
   if v3 = true then
    bind (terms_named a0.name) fun v5 =>
    if v5 = true then
     if ((Tm.Ds a0.sub).length : Int) = 0 then
      bind (types_Check a0.ty) fun v8 =>
      some (a0.ty, (decide (v8 = 0)))
     else
     some (a0.ty, false)
    else
    some (a0.ty, false)
   else
   some (a0.ty, false)
  else
  if a0.kind = 3 then
   bind (terms_plain a0 false false true) fun v4 =>
   if v4 = true then
    if 0 < ((Tm.Ds a0.sub).length : Int) then
     some ((Ty.mk false ByteArray.empty ([] : List Ty)), false)
    else
    if a0.index < 0 then
     some ((Ty.mk false ByteArray.empty ([] : List Ty)), false)
    else
    if ((Ty.Ds a1).length : Int) ≤ a0.index then
     some ((Ty.mk false ByteArray.empty ([] : List Ty)), false)
    else
    bind (some (IntKind.wrap .i64 (((Ty.Ds a1).length : Int) - 1))) fun v9 =>
    bind (some (IntKind.wrap .i64 (v9 - a0.index))) fun v10 =>
    bind (geti a1 v10) fun v11 =>
    some (v11, true)
   else
   some ((Ty.mk false ByteArray.empty ([] : List Ty)), false)
  else
  if a0.kind = 4 then
   bind (terms_plain a0 false false false) fun v5 =>
   if v5 = true then
    if ¬ ((Tm.Ds a0.sub).length : Int) = 2 then
     some ((Ty.mk false ByteArray.empty ([] : List Ty)), false)
    else
    bind (geti a0.sub 0) fun v8 =>
    bind (terms_formed' (v8, a1)) fun v9 =>
    bind (geti a0.sub 1) fun v10 =>
    bind (terms_formed' (v10, a1)) fun v11 =>
    if v9.2 = true then
     if v11.2 = true then
      if v9.1.v = true then
       some ((Ty.mk false ByteArray.empty ([] : List Ty)), false)
      else
      if ¬ v9.1.name = (ByteArray.mk #[102, 117, 110]) then
       some ((Ty.mk false ByteArray.empty ([] : List Ty)), false)
      else
      if ¬ ((Ty.Ds v9.1.args).length : Int) = 2 then
       some ((Ty.mk false ByteArray.empty ([] : List Ty)), false)
      else
      bind (geti v9.1.args 0) fun v17 =>
      bind (types_Same v17 v11.1) fun v18 =>
      if v18 = true then
       bind (geti v9.1.args 1) fun v20 =>
       some (v20, true)
      else
      some ((Ty.mk false ByteArray.empty ([] : List Ty)), false)
     else
     some ((Ty.mk false ByteArray.empty ([] : List Ty)), false)
    else
    some ((Ty.mk false ByteArray.empty ([] : List Ty)), false)
   else
   some ((Ty.mk false ByteArray.empty ([] : List Ty)), false)
  else
  if a0.kind = 5 then
   bind (terms_plain a0 true true false) fun v6 =>
   if v6 = true then
    if ¬ ((Tm.Ds a0.sub).length : Int) = 1 then
     some ((Ty.mk false ByteArray.empty ([] : List Ty)), false)
    else
    bind (terms_named a0.name) fun v9 =>
    if v9 = true then
     bind (types_Check a0.ty) fun v11 =>
     if ¬ v11 = 0 then
      some ((Ty.mk false ByteArray.empty ([] : List Ty)), false)
     else
     bind (geti a0.sub 0) fun v13 =>
     bind (cut a1 0 ((Ty.Ds a1).length : Int)) fun v14 =>
     bind (app v14 ([a0.ty])) fun v15 =>
     bind (terms_formed' (v13, v15)) fun v16 =>
     terms_formed_j0 a0 v16
    else
    some ((Ty.mk false ByteArray.empty ([] : List Ty)), false)
   else
   some ((Ty.mk false ByteArray.empty ([] : List Ty)), false)
  else
  some ((Ty.mk false ByteArray.empty ([] : List Ty)), false)
  partial_fixpoint
def terms_formed (a0 : Tm) (a1 : (List Ty)) : Option (Ty × Bool) := terms_formed' (a0, a1)
theorem terms_formed_eq (a0 : Tm) (a1 : (List Ty)) : terms_formed a0 a1 =
  if a0.kind = 1 then
   bind (terms_plain a0 true true false) fun v2 =>
   if v2 = true then
    bind (terms_named a0.name) fun v4 =>
    if v4 = true then
     if ((Tm.Ds a0.sub).length : Int) = 0 then
      bind (types_Check a0.ty) fun v7 =>
      some (a0.ty, (decide (v7 = 0)))
     else
     some (a0.ty, false)
    else
    some (a0.ty, false)
   else
   some (a0.ty, false)
  else
  if a0.kind = 2 then
   bind (terms_plain a0 true true false) fun v3 =>
   if v3 = true then
    bind (terms_named a0.name) fun v5 =>
    if v5 = true then
     if ((Tm.Ds a0.sub).length : Int) = 0 then
      bind (types_Check a0.ty) fun v8 =>
      some (a0.ty, (decide (v8 = 0)))
     else
     some (a0.ty, false)
    else
    some (a0.ty, false)
   else
   some (a0.ty, false)
  else
  if a0.kind = 3 then
   bind (terms_plain a0 false false true) fun v4 =>
   if v4 = true then
    if 0 < ((Tm.Ds a0.sub).length : Int) then
     some ((Ty.mk false ByteArray.empty ([] : List Ty)), false)
    else
    if a0.index < 0 then
     some ((Ty.mk false ByteArray.empty ([] : List Ty)), false)
    else
    if ((Ty.Ds a1).length : Int) ≤ a0.index then
     some ((Ty.mk false ByteArray.empty ([] : List Ty)), false)
    else
    bind (some (IntKind.wrap .i64 (((Ty.Ds a1).length : Int) - 1))) fun v9 =>
    bind (some (IntKind.wrap .i64 (v9 - a0.index))) fun v10 =>
    bind (geti a1 v10) fun v11 =>
    some (v11, true)
   else
   some ((Ty.mk false ByteArray.empty ([] : List Ty)), false)
  else
  if a0.kind = 4 then
   bind (terms_plain a0 false false false) fun v5 =>
   if v5 = true then
    if ¬ ((Tm.Ds a0.sub).length : Int) = 2 then
     some ((Ty.mk false ByteArray.empty ([] : List Ty)), false)
    else
    bind (geti a0.sub 0) fun v8 =>
    bind (terms_formed v8 a1) fun v9 =>
    bind (geti a0.sub 1) fun v10 =>
    bind (terms_formed v10 a1) fun v11 =>
    if v9.2 = true then
     if v11.2 = true then
      if v9.1.v = true then
       some ((Ty.mk false ByteArray.empty ([] : List Ty)), false)
      else
      if ¬ v9.1.name = (ByteArray.mk #[102, 117, 110]) then
       some ((Ty.mk false ByteArray.empty ([] : List Ty)), false)
      else
      if ¬ ((Ty.Ds v9.1.args).length : Int) = 2 then
       some ((Ty.mk false ByteArray.empty ([] : List Ty)), false)
      else
      bind (geti v9.1.args 0) fun v17 =>
      bind (types_Same v17 v11.1) fun v18 =>
      if v18 = true then
       bind (geti v9.1.args 1) fun v20 =>
       some (v20, true)
      else
      some ((Ty.mk false ByteArray.empty ([] : List Ty)), false)
     else
     some ((Ty.mk false ByteArray.empty ([] : List Ty)), false)
    else
    some ((Ty.mk false ByteArray.empty ([] : List Ty)), false)
   else
   some ((Ty.mk false ByteArray.empty ([] : List Ty)), false)
  else
  if a0.kind = 5 then
   bind (terms_plain a0 true true false) fun v6 =>
   if v6 = true then
    if ¬ ((Tm.Ds a0.sub).length : Int) = 1 then
     some ((Ty.mk false ByteArray.empty ([] : List Ty)), false)
    else
    bind (terms_named a0.name) fun v9 =>
    if v9 = true then
     bind (types_Check a0.ty) fun v11 =>
     if ¬ v11 = 0 then
      some ((Ty.mk false ByteArray.empty ([] : List Ty)), false)
     else
     bind (geti a0.sub 0) fun v13 =>
     bind (cut a1 0 ((Ty.Ds a1).length : Int)) fun v14 =>
     bind (app v14 ([a0.ty])) fun v15 =>
     bind (terms_formed v13 v15) fun v16 =>
     terms_formed_j0 a0 v16
    else
    some ((Ty.mk false ByteArray.empty ([] : List Ty)), false)
   else
   some ((Ty.mk false ByteArray.empty ([] : List Ty)), false)
  else
  some ((Ty.mk false ByteArray.empty ([] : List Ty)), false) := terms_formed'.eq_def (a0, a1)
def terms_typed (a0 : Tm) : Option (Ty × Int) :=
  bind (terms_great a0) fun v1 =>
  if v1 = true then
  some ((Ty.mk false ByteArray.empty ([] : List Ty)), 21)
  else
  bind (terms_formed a0 ([] : List Ty)) fun v3 =>
  if v3.2 = true then
  some (v3.1, 0)
  else
  some ((Ty.mk false ByteArray.empty ([] : List Ty)), 20)
def terms_Check (a0 : Tm) : Option Int :=
  bind (terms_typed a0) fun v1 =>
  some v1.2
def hx_addType_o_io_j1 (t9_2 : Int) (t10_2 : Bool) (a1 : Ty) (c0_0_0 : (List YN)) (c0_1_0 : (List XN)) (c6_2_0 : (List Int)) (m3_0 : (List (HTK × Int))) (m4_0 : (List (HMK × Int))) (v20 : HTK) : Option (Int × (List YN) × (List XN) × (List (HTK × Int)) × (List (HMK × Int))) :=
  if t10_2 = true then
  some (t9_2, c0_0_0, c0_1_0, m3_0, m4_0)
  else
  bind (some (mput m3_0 v20 ((YN.Ds c0_0_0).length : Int))) fun v23 =>
  bind (app c0_0_0 ([(YN.mk a1.v a1.name c6_2_0)])) fun v24 =>
  some (((YN.Ds c0_0_0).length : Int), v24, c0_1_0, v23, m4_0)
def hx_addType_o_io_j0 (a1 : Ty) (c0_0_0 : (List YN)) (c0_1_0 : (List XN)) (c6_2_0 : (List Int)) (m3_0 : (List (HTK × Int))) (m4_0 : (List (HMK × Int))) : Option (Int × (List YN) × (List XN) × (List (HTK × Int)) × (List (HMK × Int))) :=
  bind (hash_keyType (YN.mk a1.v a1.name c6_2_0)) fun v20 =>
  match mget m3_0 v20 with
  | some v21 =>
  hx_addType_o_io_j1 v21 true a1 c0_0_0 c0_1_0 c6_2_0 m3_0 m4_0 v20
  | none =>
  hx_addType_o_io_j1 0 false a1 c0_0_0 c0_1_0 c6_2_0 m3_0 m4_0 v20
mutual
def hx_addType_o_io' (p : (Ty × (List YN) × (List XN) × (List (HTK × Int)) × (List (HMK × Int)))) : Option (Int × (List YN) × (List XN) × (List (HTK × Int)) × (List (HMK × Int))) := match p with
  | (a1, b0_0, b0_1, b3, b4) =>
  hx_addType_o_io_l0' (a1.args, b0_0, b0_1, b3, b4, ([] : List Int), a1)
  partial_fixpoint
def hx_addType_o_io_l0' (p : ((List Ty) × (List YN) × (List XN) × (List (HTK × Int)) × (List (HMK × Int)) × (List Int) × Ty)) : Option (Int × (List YN) × (List XN) × (List (HTK × Int)) × (List (HMK × Int))) := match p with
  | (rest0, c0_0_0, c0_1_0, m3_0, m4_0, c6_2_0, a1) =>
  match rest0 with
  | [] =>
   hx_addType_o_io_j0 a1 c0_0_0 c0_1_0 c6_2_0 m3_0 m4_0
  | v20 :: rest0 =>
   bind (hx_addType_o_io' (v20, c0_0_0, c0_1_0, m3_0, m4_0)) fun v21 =>
   bind (app c6_2_0 ([v21.1])) fun v22 =>
   hx_addType_o_io_l0' (rest0, v21.2.1, v21.2.2.1, v21.2.2.2.1, v21.2.2.2.2, v22, a1)
  partial_fixpoint
end
def hx_addType_o_io (a1 : Ty) (b0_0 : (List YN)) (b0_1 : (List XN)) (b3 : (List (HTK × Int))) (b4 : (List (HMK × Int))) : Option (Int × (List YN) × (List XN) × (List (HTK × Int)) × (List (HMK × Int))) := hx_addType_o_io' (a1, b0_0, b0_1, b3, b4)
def hx_addType_o_io_l0 (rest0 : (List Ty)) (c0_0_0 : (List YN)) (c0_1_0 : (List XN)) (m3_0 : (List (HTK × Int))) (m4_0 : (List (HMK × Int))) (c6_2_0 : (List Int)) (a1 : Ty) : Option (Int × (List YN) × (List XN) × (List (HTK × Int)) × (List (HMK × Int))) := hx_addType_o_io_l0' (rest0, c0_0_0, c0_1_0, m3_0, m4_0, c6_2_0, a1)
theorem hx_addType_o_io_eq (a1 : Ty) (b0_0 : (List YN)) (b0_1 : (List XN)) (b3 : (List (HTK × Int))) (b4 : (List (HMK × Int))) : hx_addType_o_io a1 b0_0 b0_1 b3 b4 =
  hx_addType_o_io_l0 a1.args b0_0 b0_1 b3 b4 ([] : List Int) a1 := hx_addType_o_io'.eq_def (a1, b0_0, b0_1, b3, b4)
theorem hx_addType_o_io_l0_eq (rest0 : (List Ty)) (c0_0_0 : (List YN)) (c0_1_0 : (List XN)) (m3_0 : (List (HTK × Int))) (m4_0 : (List (HMK × Int))) (c6_2_0 : (List Int)) (a1 : Ty) : hx_addType_o_io_l0 rest0 c0_0_0 c0_1_0 m3_0 m4_0 c6_2_0 a1 =
  match rest0 with
  | [] =>
   hx_addType_o_io_j0 a1 c0_0_0 c0_1_0 c6_2_0 m3_0 m4_0
  | v20 :: rest0 =>
   bind (hx_addType_o_io v20 c0_0_0 c0_1_0 m3_0 m4_0) fun v21 =>
   bind (app c6_2_0 ([v21.1])) fun v22 =>
   hx_addType_o_io_l0 rest0 v21.2.1 v21.2.2.1 v21.2.2.2.1 v21.2.2.2.2 v22 a1 := hx_addType_o_io_l0'.eq_def (rest0, c0_0_0, c0_1_0, m3_0, m4_0, c6_2_0, a1)
def hx_add_o_io_j2 (t9_3 : Int) (t10_3 : Bool) (a1 : Tm) (c0_0_0 : (List YN)) (c0_1_0 : (List XN)) (c6_2_1 : Int) (c6_4_0 : (List Int)) (m3_0 : (List (HTK × Int))) (m4_0 : (List (HMK × Int))) (v35 : HMK) : Option (Int × (List YN) × (List XN) × (List (HTK × Int)) × (List (HMK × Int))) :=
  if t10_3 = true then
  some (t9_3, c0_0_0, c0_1_0, m3_0, m4_0)
  else
  bind (some (mput m4_0 v35 ((XN.Ds c0_1_0).length : Int))) fun v38 =>
  bind (app c0_1_0 ([(XN.mk a1.kind a1.name c6_2_1 a1.index c6_4_0)])) fun v39 =>
  some (((XN.Ds c0_1_0).length : Int), c0_0_0, v39, m3_0, v38)
def hx_add_o_io_j1 (a1 : Tm) (c0_0_0 : (List YN)) (c0_1_0 : (List XN)) (c6_2_1 : Int) (c6_4_0 : (List Int)) (m3_0 : (List (HTK × Int))) (m4_0 : (List (HMK × Int))) : Option (Int × (List YN) × (List XN) × (List (HTK × Int)) × (List (HMK × Int))) :=
  bind (hash_keyTerm (XN.mk a1.kind a1.name c6_2_1 a1.index c6_4_0)) fun v35 =>
  match mget m4_0 v35 with
  | some v36 =>
  hx_add_o_io_j2 v36 true a1 c0_0_0 c0_1_0 c6_2_1 c6_4_0 m3_0 m4_0 v35
  | none =>
  hx_add_o_io_j2 0 false a1 c0_0_0 c0_1_0 c6_2_1 c6_4_0 m3_0 m4_0 v35
mutual
def hx_add_o_io' (p : (Tm × (List YN) × (List XN) × (List (HTK × Int)) × (List (HMK × Int)))) : Option (Int × (List YN) × (List XN) × (List (HTK × Int)) × (List (HMK × Int))) := match p with
  | (a1, b0_0, b0_1, b3, b4) =>
  if ¬ a1.kind = 3 then
   if ¬ a1.kind = 4 then
    bind (hx_addType_o_io a1.ty b0_0 b0_1 b3 b4) fun v3 =>
    hx_add_o_io_j0' (v3.2.1, v3.2.2.1, v3.2.2.2.1, v3.2.2.2.2, v3.1, a1)
   else
   hx_add_o_io_j0' (b0_0, b0_1, b3, b4, (-1), a1)
  else
  hx_add_o_io_j0' (b0_0, b0_1, b3, b4, (-1), a1)
  partial_fixpoint
def hx_add_o_io_j0' (p : ((List YN) × (List XN) × (List (HTK × Int)) × (List (HMK × Int)) × Int × Tm)) : Option (Int × (List YN) × (List XN) × (List (HTK × Int)) × (List (HMK × Int))) := match p with
  | (c0_0_1, c0_1_1, m3_1, m4_1, c6_2_1, a1) =>
  hx_add_o_io_l0' (a1.sub, c0_0_1, c0_1_1, m3_1, m4_1, ([] : List Int), a1, c6_2_1)
  partial_fixpoint
def hx_add_o_io_l0' (p : ((List Tm) × (List YN) × (List XN) × (List (HTK × Int)) × (List (HMK × Int)) × (List Int) × Tm × Int)) : Option (Int × (List YN) × (List XN) × (List (HTK × Int)) × (List (HMK × Int))) := match p with
  | (rest0, c0_0_0, c0_1_0, m3_0, m4_0, c6_4_0, a1, c6_2_1) =>
  match rest0 with
  | [] =>
   hx_add_o_io_j1 a1 c0_0_0 c0_1_0 c6_2_1 c6_4_0 m3_0 m4_0
  | v35 :: rest0 =>
   bind (hx_add_o_io' (v35, c0_0_0, c0_1_0, m3_0, m4_0)) fun v36 =>
   bind (app c6_4_0 ([v36.1])) fun v37 =>
   hx_add_o_io_l0' (rest0, v36.2.1, v36.2.2.1, v36.2.2.2.1, v36.2.2.2.2, v37, a1, c6_2_1)
  partial_fixpoint
end
def hx_add_o_io (a1 : Tm) (b0_0 : (List YN)) (b0_1 : (List XN)) (b3 : (List (HTK × Int))) (b4 : (List (HMK × Int))) : Option (Int × (List YN) × (List XN) × (List (HTK × Int)) × (List (HMK × Int))) := hx_add_o_io' (a1, b0_0, b0_1, b3, b4)
def hx_add_o_io_j0 (c0_0_1 : (List YN)) (c0_1_1 : (List XN)) (m3_1 : (List (HTK × Int))) (m4_1 : (List (HMK × Int))) (c6_2_1 : Int) (a1 : Tm) : Option (Int × (List YN) × (List XN) × (List (HTK × Int)) × (List (HMK × Int))) := hx_add_o_io_j0' (c0_0_1, c0_1_1, m3_1, m4_1, c6_2_1, a1)
def hx_add_o_io_l0 (rest0 : (List Tm)) (c0_0_0 : (List YN)) (c0_1_0 : (List XN)) (m3_0 : (List (HTK × Int))) (m4_0 : (List (HMK × Int))) (c6_4_0 : (List Int)) (a1 : Tm) (c6_2_1 : Int) : Option (Int × (List YN) × (List XN) × (List (HTK × Int)) × (List (HMK × Int))) := hx_add_o_io_l0' (rest0, c0_0_0, c0_1_0, m3_0, m4_0, c6_4_0, a1, c6_2_1)
theorem hx_add_o_io_eq (a1 : Tm) (b0_0 : (List YN)) (b0_1 : (List XN)) (b3 : (List (HTK × Int))) (b4 : (List (HMK × Int))) : hx_add_o_io a1 b0_0 b0_1 b3 b4 =
  if ¬ a1.kind = 3 then
   if ¬ a1.kind = 4 then
    bind (hx_addType_o_io a1.ty b0_0 b0_1 b3 b4) fun v3 =>
    hx_add_o_io_j0 v3.2.1 v3.2.2.1 v3.2.2.2.1 v3.2.2.2.2 v3.1 a1
   else
   hx_add_o_io_j0 b0_0 b0_1 b3 b4 (-1) a1
  else
  hx_add_o_io_j0 b0_0 b0_1 b3 b4 (-1) a1 := hx_add_o_io'.eq_def (a1, b0_0, b0_1, b3, b4)
theorem hx_add_o_io_j0_eq (c0_0_1 : (List YN)) (c0_1_1 : (List XN)) (m3_1 : (List (HTK × Int))) (m4_1 : (List (HMK × Int))) (c6_2_1 : Int) (a1 : Tm) : hx_add_o_io_j0 c0_0_1 c0_1_1 m3_1 m4_1 c6_2_1 a1 =
  hx_add_o_io_l0 a1.sub c0_0_1 c0_1_1 m3_1 m4_1 ([] : List Int) a1 c6_2_1 := hx_add_o_io_j0'.eq_def (c0_0_1, c0_1_1, m3_1, m4_1, c6_2_1, a1)
theorem hx_add_o_io_l0_eq (rest0 : (List Tm)) (c0_0_0 : (List YN)) (c0_1_0 : (List XN)) (m3_0 : (List (HTK × Int))) (m4_0 : (List (HMK × Int))) (c6_4_0 : (List Int)) (a1 : Tm) (c6_2_1 : Int) : hx_add_o_io_l0 rest0 c0_0_0 c0_1_0 m3_0 m4_0 c6_4_0 a1 c6_2_1 =
  match rest0 with
  | [] =>
   hx_add_o_io_j1 a1 c0_0_0 c0_1_0 c6_2_1 c6_4_0 m3_0 m4_0
  | v35 :: rest0 =>
   bind (hx_add_o_io v35 c0_0_0 c0_1_0 m3_0 m4_0) fun v36 =>
   bind (app c6_4_0 ([v36.1])) fun v37 =>
   hx_add_o_io_l0 rest0 v36.2.1 v36.2.2.1 v36.2.2.2.1 v36.2.2.2.2 v37 a1 c6_2_1 := hx_add_o_io_l0'.eq_def (rest0, c0_0_0, c0_1_0, m3_0, m4_0, c6_4_0, a1, c6_2_1)
def hx_done_io (a1 : Int) (b0_0 : (List YN)) (b0_1 : (List XN)) (b3 : (List (HTK × Int))) (b4 : (List (HMK × Int))) : Option ((AStore × Int × Int × (List YN) × (List XN) × (List (HTK × Int)) × (List (HMK × Int))) ⊕ ((List YN) × (List XN) × Int × Int × (List YN) × (List XN) × (List (HTK × Int)) × (List (HMK × Int)))) :=
  if 4096 < ((YN.Ds b0_0).length : Int) then
  some (.inl (((AStore.mk ([] : List YN) ([] : List XN)), 0, 4, b0_0, b0_1, b3, b4)))
  else
  if 4096 < ((XN.Ds b0_1).length : Int) then
  some (.inl (((AStore.mk ([] : List YN) ([] : List XN)), 0, 4, b0_0, b0_1, b3, b4)))
  else
  some (.inr ((b0_0, b0_1, a1, 0, b0_0, b0_1, b3, b4)))
def hash_Add_o_j0 : Option (AStore × Int × Int) :=
  some ((AStore.mk ([] : List YN) ([] : List XN)), 0, 4)
def hash_Add_o_j0b : Option (AStore × Int × Int) :=
  some ((AStore.mk ([] : List YN) ([] : List XN)), 0, 8)
def hash_Add_o_j0c (a1 : Tm) (v4 : ((List YN) × (List XN) × (List (HTK × Int)) × (List (HMK × Int)))) : Option (AStore × Int × Int) :=
  bind (terms_Check a1) fun v5 =>
  if ¬ v5 = 0 then
  some ((AStore.mk ([] : List YN) ([] : List XN)), 0, v5)
  else
  bind (hx_add_o_io a1 v4.1 v4.2.1 v4.2.2.1 v4.2.2.2) fun v7 =>
  bind (hx_done_io v7.1 v7.2.1 v7.2.2.1 v7.2.2.2.1 v7.2.2.2.2) fun v8 =>
  match v8 with
  | .inl v9 =>
  some (v9.1, v9.2.1, v9.2.2.1)
  | .inr v10 =>
  some ((AStore.mk v10.1 v10.2.1), v10.2.2.1, v10.2.2.2.1)
def hash_Add_o (a0 : AStore) (a1 : Tm) : Option (AStore × Int × Int) :=
  bind (hash_open_o_io a0) fun v1 =>
  match v1 with
  | .inl v2 =>
  hash_Add_o_j0
  | .inr (.inl v3) =>
  hash_Add_o_j0b
  | .inr (.inr v4) =>
  hash_Add_o_j0c a1 v4
def hash_AddType_o_j0 : Option (AStore × Int × Int) :=
  some ((AStore.mk ([] : List YN) ([] : List XN)), 0, 4)
def hash_AddType_o_j0b : Option (AStore × Int × Int) :=
  some ((AStore.mk ([] : List YN) ([] : List XN)), 0, 8)
def hash_AddType_o_j0c (a1 : Ty) (v4 : ((List YN) × (List XN) × (List (HTK × Int)) × (List (HMK × Int)))) : Option (AStore × Int × Int) :=
  bind (types_Check a1) fun v5 =>
  if ¬ v5 = 0 then
  some ((AStore.mk ([] : List YN) ([] : List XN)), 0, v5)
  else
  bind (hx_addType_o_io a1 v4.1 v4.2.1 v4.2.2.1 v4.2.2.2) fun v7 =>
  bind (hx_done_io v7.1 v7.2.1 v7.2.2.1 v7.2.2.2.1 v7.2.2.2.2) fun v8 =>
  match v8 with
  | .inl v9 =>
  some (v9.1, v9.2.1, v9.2.2.1)
  | .inr v10 =>
  some ((AStore.mk v10.1 v10.2.1), v10.2.2.1, v10.2.2.2.1)
def hash_AddType_o (a0 : AStore) (a1 : Ty) : Option (AStore × Int × Int) :=
  bind (hash_open_o_io a0) fun v1 =>
  match v1 with
  | .inl v2 =>
  hash_AddType_o_j0
  | .inr (.inl v3) =>
  hash_AddType_o_j0b
  | .inr (.inr v4) =>
  hash_AddType_o_j0c a1 v4
def hash_Find_o_j0 : Option (Int × Bool × Int) :=
  some (0, false, 4)
def hash_Find_o_j0b : Option (Int × Bool × Int) :=
  some (0, false, 8)
def hash_Find_o_j0c (a1 : Tm) (v4 : ((List YN) × (List XN) × (List (HTK × Int)) × (List (HMK × Int)))) : Option (Int × Bool × Int) :=
  bind (terms_Check a1) fun v5 =>
  if ¬ v5 = 0 then
  some (0, false, v5)
  else
  bind (hx_add_o_io a1 v4.1 v4.2.1 v4.2.2.1 v4.2.2.2) fun v7 =>
  if v7.1 < ((XN.Ds v4.2.1).length : Int) then
  some (v7.1, true, 0)
  else
  some (0, false, 0)
def hash_Find_o (a0 : AStore) (a1 : Tm) : Option (Int × Bool × Int) :=
  bind (hash_open_o_io a0) fun v1 =>
  match v1 with
  | .inl v2 =>
  hash_Find_o_j0
  | .inr (.inl v3) =>
  hash_Find_o_j0b
  | .inr (.inr v4) =>
  hash_Find_o_j0c a1 v4
def z31_Great_l1' (p : ((List XN) × Int)) : Option Bool := match p with
  | (rest1, t4_1) =>
  match rest1 with
  | [] =>
   some false
  | v7 :: rest1 =>
   bind (some (IntKind.wrap .i64 (t4_1 + (v7.name.size : Int)))) fun v8 =>
   if 20 < ((intDs_i64 v7.sub).length : Int) then
    some true
   else
   if 5000 < v8 then
    some true
   else
   z31_Great_l1' (rest1, v8)
  partial_fixpoint
def z31_Great_l1 (rest1 : (List XN)) (t4_1 : Int) : Option Bool := z31_Great_l1' (rest1, t4_1)
theorem z31_Great_l1_eq (rest1 : (List XN)) (t4_1 : Int) : z31_Great_l1 rest1 t4_1 =
  match rest1 with
  | [] =>
   some false
  | v7 :: rest1 =>
   bind (some (IntKind.wrap .i64 (t4_1 + (v7.name.size : Int)))) fun v8 =>
   if 20 < ((intDs_i64 v7.sub).length : Int) then
    some true
   else
   if 5000 < v8 then
    some true
   else
   z31_Great_l1 rest1 v8 := z31_Great_l1'.eq_def (rest1, t4_1)
def z31_Great_l0' (p : ((List YN) × Int × AStore)) : Option Bool := match p with
  | (rest0, t4_0, a0) =>
  match rest0 with
  | [] =>
   z31_Great_l1 a0.terms t4_0
  | v6 :: rest0 =>
   bind (some (IntKind.wrap .i64 (t4_0 + (v6.name.size : Int)))) fun v7 =>
   if 20 < ((intDs_i64 v6.args).length : Int) then
    some true
   else
   if 5000 < v7 then
    some true
   else
   z31_Great_l0' (rest0, v7, a0)
  partial_fixpoint
def z31_Great_l0 (rest0 : (List YN)) (t4_0 : Int) (a0 : AStore) : Option Bool := z31_Great_l0' (rest0, t4_0, a0)
theorem z31_Great_l0_eq (rest0 : (List YN)) (t4_0 : Int) (a0 : AStore) : z31_Great_l0 rest0 t4_0 a0 =
  match rest0 with
  | [] =>
   z31_Great_l1 a0.terms t4_0
  | v6 :: rest0 =>
   bind (some (IntKind.wrap .i64 (t4_0 + (v6.name.size : Int)))) fun v7 =>
   if 20 < ((intDs_i64 v6.args).length : Int) then
    some true
   else
   if 5000 < v7 then
    some true
   else
   z31_Great_l0 rest0 v7 a0 := z31_Great_l0'.eq_def (rest0, t4_0, a0)
def z31_Great_j1 (a0 : AStore) : Option Bool :=
  z31_Great_l0 a0.types 0 a0
def z31_Great_j0 (t3_2 : Bool) (a0 : AStore) : Option Bool :=
  if 4200 < ((YN.Ds a0.types).length : Int) then
  some true
  else
  if 4200 < ((XN.Ds a0.terms).length : Int) then
  some true
  else
  if t3_2 = true then
  z31_Great_j1 a0
  else
  if 150 < ((YN.Ds a0.types).length : Int) then
  some true
  else
  if 150 < ((XN.Ds a0.terms).length : Int) then
  some true
  else
  z31_Great_j1 a0
def z31_Great (a0 : AStore) : Option Bool :=
  if 4096 < ((YN.Ds a0.types).length : Int) then
  z31_Great_j0 true a0
  else
  if 4096 < ((XN.Ds a0.terms).length : Int) then
  z31_Great_j0 true a0
  else
  z31_Great_j0 false a0
def z31_Twin_l1' (p : ((List XN) × (List XN) × (List YN))) : Option AStore := match p with
  | (rest1, c2_1_1, c2_0_0) =>
  match rest1 with
  | [] =>
   some (AStore.mk c2_0_0 c2_1_1)
  | v7 :: rest1 =>
   bind (app ([] : List Int) v7.sub) fun v8 =>
   bind (app c2_1_1 ([(XN.mk v7.kind v7.name v7.type_ v7.index v8)])) fun v9 =>
   z31_Twin_l1' (rest1, v9, c2_0_0)
  partial_fixpoint
def z31_Twin_l1 (rest1 : (List XN)) (c2_1_1 : (List XN)) (c2_0_0 : (List YN)) : Option AStore := z31_Twin_l1' (rest1, c2_1_1, c2_0_0)
theorem z31_Twin_l1_eq (rest1 : (List XN)) (c2_1_1 : (List XN)) (c2_0_0 : (List YN)) : z31_Twin_l1 rest1 c2_1_1 c2_0_0 =
  match rest1 with
  | [] =>
   some (AStore.mk c2_0_0 c2_1_1)
  | v7 :: rest1 =>
   bind (app ([] : List Int) v7.sub) fun v8 =>
   bind (app c2_1_1 ([(XN.mk v7.kind v7.name v7.type_ v7.index v8)])) fun v9 =>
   z31_Twin_l1 rest1 v9 c2_0_0 := z31_Twin_l1'.eq_def (rest1, c2_1_1, c2_0_0)
def z31_Twin_j0 (a0 : AStore) (c2_0_0 : (List YN)) : Option AStore :=
  z31_Twin_l1 a0.terms ([] : List XN) c2_0_0
def z31_Twin_l0' (p : ((List YN) × (List YN) × AStore)) : Option AStore := match p with
  | (rest0, c2_0_0, a0) =>
  match rest0 with
  | [] =>
   z31_Twin_j0 a0 c2_0_0
  | v6 :: rest0 =>
   bind (app ([] : List Int) v6.args) fun v7 =>
   bind (app c2_0_0 ([(YN.mk v6.var v6.name v7)])) fun v8 =>
   z31_Twin_l0' (rest0, v8, a0)
  partial_fixpoint
def z31_Twin_l0 (rest0 : (List YN)) (c2_0_0 : (List YN)) (a0 : AStore) : Option AStore := z31_Twin_l0' (rest0, c2_0_0, a0)
theorem z31_Twin_l0_eq (rest0 : (List YN)) (c2_0_0 : (List YN)) (a0 : AStore) : z31_Twin_l0 rest0 c2_0_0 a0 =
  match rest0 with
  | [] =>
   z31_Twin_j0 a0 c2_0_0
  | v6 :: rest0 =>
   bind (app ([] : List Int) v6.args) fun v7 =>
   bind (app c2_0_0 ([(YN.mk v6.var v6.name v7)])) fun v8 =>
   z31_Twin_l0 rest0 v8 a0 := z31_Twin_l0'.eq_def (rest0, c2_0_0, a0)
def z31_Twin (a0 : AStore) : Option AStore :=
  z31_Twin_l0 a0.types ([] : List YN) a0
mutual
def z01_Size' (a0 : Ty) : Option Int :=
  z01_Size_l0' (a0.args, 1)
  partial_fixpoint
def z01_Size_l0' (p : ((List Ty) × Int)) : Option Int := match p with
  | (rest0, t3_0) =>
  match rest0 with
  | [] =>
   some t3_0
  | v5 :: rest0 =>
   bind (z01_Size' v5) fun v6 =>
   bind (some (IntKind.wrap .i64 (t3_0 + v6))) fun v7 =>
   z01_Size_l0' (rest0, v7)
  partial_fixpoint
end
def z01_Size (a0 : Ty) : Option Int := z01_Size' a0
def z01_Size_l0 (rest0 : (List Ty)) (t3_0 : Int) : Option Int := z01_Size_l0' (rest0, t3_0)
theorem z01_Size_eq (a0 : Ty) : z01_Size a0 =
  z01_Size_l0 a0.args 1 := z01_Size'.eq_def a0
theorem z01_Size_l0_eq (rest0 : (List Ty)) (t3_0 : Int) : z01_Size_l0 rest0 t3_0 =
  match rest0 with
  | [] =>
   some t3_0
  | v5 :: rest0 =>
   bind (z01_Size v5) fun v6 =>
   bind (some (IntKind.wrap .i64 (t3_0 + v6))) fun v7 =>
   z01_Size_l0 rest0 v7 := z01_Size_l0'.eq_def (rest0, t3_0)
mutual
def z01_Depth' (a0 : Ty) : Option Int :=
  z01_Depth_l0' (a0.args, 0)
  partial_fixpoint
def z01_Depth_l0' (p : ((List Ty) × Int)) : Option Int := match p with
  | (rest0, t3_0) =>
  match rest0 with
  | [] =>
   bind (some (IntKind.wrap .i64 (1 + t3_0))) fun v6 =>
   some v6
  | v5 :: rest0 =>
   bind (z01_Depth' v5) fun v6 =>
   z01_Depth_l0' (rest0, (max t3_0 v6))
  partial_fixpoint
end
def z01_Depth (a0 : Ty) : Option Int := z01_Depth' a0
def z01_Depth_l0 (rest0 : (List Ty)) (t3_0 : Int) : Option Int := z01_Depth_l0' (rest0, t3_0)
theorem z01_Depth_eq (a0 : Ty) : z01_Depth a0 =
  z01_Depth_l0 a0.args 0 := z01_Depth'.eq_def a0
theorem z01_Depth_l0_eq (rest0 : (List Ty)) (t3_0 : Int) : z01_Depth_l0 rest0 t3_0 =
  match rest0 with
  | [] =>
   bind (some (IntKind.wrap .i64 (1 + t3_0))) fun v6 =>
   some v6
  | v5 :: rest0 =>
   bind (z01_Depth v5) fun v6 =>
   z01_Depth_l0 rest0 (max t3_0 v6) := z01_Depth_l0'.eq_def (rest0, t3_0)
def z01_Small (a0 : Ty) : Option Bool :=
  bind (z01_Size a0) fun v1 =>
  if v1 ≤ 500 then
  bind (z01_Depth a0) fun v3 =>
  some (decide (v3 ≤ 200))
  else
  some false
def z01_Name_l0' (p : (Int × ByteArray)) : Option Bool := match p with
  | (t3_0, a0) =>
  if t3_0 < (a0.size : Int) then
   bind (getb a0 t3_0) fun v5 =>
   if v5 < 33 then
    some false
   else
   if 126 < v5 then
    some false
   else
   if v5 = 40 then
    some false
   else
   if v5 = 41 then
    some false
   else
   if v5 = 44 then
    some false
   else
   if v5 = 58 then
    some false
   else
   if v5 = 92 then
    some false
   else
   if v5 = 46 then
    some false
   else
   if v5 = 34 then
    some false
   else
   bind (some (IntKind.wrap .i64 (t3_0 + 1))) fun v15 =>
   z01_Name_l0' (v15, a0)
  else
  some true
  partial_fixpoint
def z01_Name_l0 (t3_0 : Int) (a0 : ByteArray) : Option Bool := z01_Name_l0' (t3_0, a0)
theorem z01_Name_l0_eq (t3_0 : Int) (a0 : ByteArray) : z01_Name_l0 t3_0 a0 =
  if t3_0 < (a0.size : Int) then
   bind (getb a0 t3_0) fun v5 =>
   if v5 < 33 then
    some false
   else
   if 126 < v5 then
    some false
   else
   if v5 = 40 then
    some false
   else
   if v5 = 41 then
    some false
   else
   if v5 = 44 then
    some false
   else
   if v5 = 58 then
    some false
   else
   if v5 = 92 then
    some false
   else
   if v5 = 46 then
    some false
   else
   if v5 = 34 then
    some false
   else
   bind (some (IntKind.wrap .i64 (t3_0 + 1))) fun v15 =>
   z01_Name_l0 v15 a0
  else
  some true := z01_Name_l0'.eq_def (t3_0, a0)
def z01_Name (a0 : ByteArray) : Option Bool :=
  if (a0.size : Int) < 1 then
  some false
  else
  if 30 < (a0.size : Int) then
  some false
  else
  z01_Name_l0 0 a0
mutual
def z01_shape' (a0 : Ty) : Option Bool :=
  bind (z01_Name a0.name) fun v1 =>
  if v1 = true then
  bind (getb a0.name 0) fun v3 =>
  if ¬ a0.v = (decide (v3 = 39)) then
   some false
  else
  if a0.v = true then
   if 0 < ((Ty.Ds a0.args).length : Int) then
    some false
   else
   if 8 < ((Ty.Ds a0.args).length : Int) then
    some false
   else
   z01_shape_j0' a0
  else
  if 8 < ((Ty.Ds a0.args).length : Int) then
   some false
  else
  z01_shape_j0' a0
  else
  some false
  partial_fixpoint
def z01_shape_j0' (a0 : Ty) : Option Bool :=
  z01_shape_l0' a0.args
  partial_fixpoint
def z01_shape_l0' (rest0 : (List Ty)) : Option Bool :=
  match rest0 with
  | [] =>
  some true
  | v4 :: rest0 =>
  bind (z01_shape' v4) fun v5 =>
  if v5 = true then
   z01_shape_l0' rest0
  else
  some false
  partial_fixpoint
end
def z01_shape (a0 : Ty) : Option Bool := z01_shape' a0
def z01_shape_j0 (a0 : Ty) : Option Bool := z01_shape_j0' a0
def z01_shape_l0 (rest0 : (List Ty)) : Option Bool := z01_shape_l0' rest0
theorem z01_shape_eq (a0 : Ty) : z01_shape a0 =
  bind (z01_Name a0.name) fun v1 =>
  if v1 = true then
   bind (getb a0.name 0) fun v3 =>
   if ¬ a0.v = (decide (v3 = 39)) then
    some false
   else
   if a0.v = true then
    if 0 < ((Ty.Ds a0.args).length : Int) then
     some false
    else
    if 8 < ((Ty.Ds a0.args).length : Int) then
     some false
    else
    z01_shape_j0 a0
   else
   if 8 < ((Ty.Ds a0.args).length : Int) then
    some false
   else
   z01_shape_j0 a0
  else
  some false := z01_shape'.eq_def a0
theorem z01_shape_j0_eq (a0 : Ty) : z01_shape_j0 a0 =
  z01_shape_l0 a0.args := z01_shape_j0'.eq_def a0
theorem z01_shape_l0_eq (rest0 : (List Ty)) : z01_shape_l0 rest0 =
  match rest0 with
  | [] =>
   some true
  | v4 :: rest0 =>
   bind (z01_shape v4) fun v5 =>
   if v5 = true then
    z01_shape_l0 rest0
   else
   some false := z01_shape_l0'.eq_def rest0
def z01_Valid (a0 : Ty) : Option Bool :=
  bind (z01_Small a0) fun v1 =>
  if v1 = true then
  bind (z01_shape a0) fun v3 =>
  some v3
  else
  some false
def z31_below_l0' (p : ((List Int) × Int)) : Option Bool := match p with
  | (rest0, a1) =>
  match rest0 with
  | [] =>
   some true
  | v6 :: rest0 =>
   if v6 < 0 then
    some false
   else
   if a1 ≤ v6 then
    some false
   else
   z31_below_l0' (rest0, a1)
  partial_fixpoint
def z31_below_l0 (rest0 : (List Int)) (a1 : Int) : Option Bool := z31_below_l0' (rest0, a1)
theorem z31_below_l0_eq (rest0 : (List Int)) (a1 : Int) : z31_below_l0 rest0 a1 =
  match rest0 with
  | [] =>
   some true
  | v6 :: rest0 =>
   if v6 < 0 then
    some false
   else
   if a1 ≤ v6 then
    some false
   else
   z31_below_l0 rest0 a1 := z31_below_l0'.eq_def (rest0, a1)
def z31_below (a0 : (List Int)) (a1 : Int) : Option Bool :=
  z31_below_l0 a0 a1
mutual
def z31_Sized_l0' (p : ((List Int) × (List Int) × Int × (List (List Int)))) : Option ((List Int) × (List Int)) := match p with
  | (t4_0, t5_0, t6_0, a0) =>
  if t6_0 < ((intDs_i64s a0).length : Int) then
   z31_Sized_l1' (t4_0, t5_0, t6_0, 1, 0, 0, a0)
  else
  some (t4_0, t5_0)
  partial_fixpoint
def z31_Sized_l1' (p : ((List Int) × (List Int) × Int × Int × Int × Int × (List (List Int)))) : Option ((List Int) × (List Int)) := match p with
  | (t4_1, t5_1, t6_1, t7_1, t8_1, t9_1, a0) =>
  bind (geti a0 t6_1) fun v10 =>
  if t9_1 < ((intDs_i64 v10).length : Int) then
   bind (geti a0 t6_1) fun v12 =>
   bind (geti v12 t9_1) fun v13 =>
   bind (geti t4_1 v13) fun v14 =>
   bind (some (IntKind.wrap .i64 (t7_1 + v14))) fun v15 =>
   bind (geti a0 t6_1) fun v16 =>
   bind (geti v16 t9_1) fun v17 =>
   bind (geti t5_1 v17) fun v18 =>
   bind (some (IntKind.wrap .i64 (t9_1 + 1))) fun v19 =>
   z31_Sized_l1' (t4_1, t5_1, t6_1, v15, (max t8_1 v18), v19, a0)
  else
  bind (app t4_1 ([(min t7_1 40000)])) fun v12 =>
  bind (some (IntKind.wrap .i64 (t8_1 + 1))) fun v13 =>
  bind (app t5_1 ([(min v13 40000)])) fun v14 =>
  bind (some (IntKind.wrap .i64 (t6_1 + 1))) fun v15 =>
  z31_Sized_l0' (v12, v14, v15, a0)
  partial_fixpoint
end
def z31_Sized_l0 (t4_0 : (List Int)) (t5_0 : (List Int)) (t6_0 : Int) (a0 : (List (List Int))) : Option ((List Int) × (List Int)) := z31_Sized_l0' (t4_0, t5_0, t6_0, a0)
def z31_Sized_l1 (t4_1 : (List Int)) (t5_1 : (List Int)) (t6_1 : Int) (t7_1 : Int) (t8_1 : Int) (t9_1 : Int) (a0 : (List (List Int))) : Option ((List Int) × (List Int)) := z31_Sized_l1' (t4_1, t5_1, t6_1, t7_1, t8_1, t9_1, a0)
theorem z31_Sized_l0_eq (t4_0 : (List Int)) (t5_0 : (List Int)) (t6_0 : Int) (a0 : (List (List Int))) : z31_Sized_l0 t4_0 t5_0 t6_0 a0 =
  if t6_0 < ((intDs_i64s a0).length : Int) then
   z31_Sized_l1 t4_0 t5_0 t6_0 1 0 0 a0
  else
  some (t4_0, t5_0) := z31_Sized_l0'.eq_def (t4_0, t5_0, t6_0, a0)
theorem z31_Sized_l1_eq (t4_1 : (List Int)) (t5_1 : (List Int)) (t6_1 : Int) (t7_1 : Int) (t8_1 : Int) (t9_1 : Int) (a0 : (List (List Int))) : z31_Sized_l1 t4_1 t5_1 t6_1 t7_1 t8_1 t9_1 a0 =
  bind (geti a0 t6_1) fun v10 =>
  if t9_1 < ((intDs_i64 v10).length : Int) then
   bind (geti a0 t6_1) fun v12 =>
   bind (geti v12 t9_1) fun v13 =>
   bind (geti t4_1 v13) fun v14 =>
   bind (some (IntKind.wrap .i64 (t7_1 + v14))) fun v15 =>
   bind (geti a0 t6_1) fun v16 =>
   bind (geti v16 t9_1) fun v17 =>
   bind (geti t5_1 v17) fun v18 =>
   bind (some (IntKind.wrap .i64 (t9_1 + 1))) fun v19 =>
   z31_Sized_l1 t4_1 t5_1 t6_1 v15 (max t8_1 v18) v19 a0
  else
  bind (app t4_1 ([(min t7_1 40000)])) fun v12 =>
  bind (some (IntKind.wrap .i64 (t8_1 + 1))) fun v13 =>
  bind (app t5_1 ([(min v13 40000)])) fun v14 =>
  bind (some (IntKind.wrap .i64 (t6_1 + 1))) fun v15 =>
  z31_Sized_l0 v12 v14 v15 a0 := z31_Sized_l1'.eq_def (t4_1, t5_1, t6_1, t7_1, t8_1, t9_1, a0)
def z31_Sized (a0 : (List (List Int))) : Option ((List Int) × (List Int)) :=
  z31_Sized_l0 ([] : List Int) ([] : List Int) 0 a0
def z31_ints_l0' (p : ((List Int) × Nat × (List Int))) : Option Bool := match p with
  | (rest0, k0, a1) =>
  match rest0 with
  | [] =>
   some true
  | v6 :: rest0 =>
   bind (geti a1 (k0 : Int)) fun v7 =>
   if ¬ v6 = v7 then
    some false
   else
   z31_ints_l0' (rest0, k0 + 1, a1)
  partial_fixpoint
def z31_ints_l0 (rest0 : (List Int)) (k0 : Nat) (a1 : (List Int)) : Option Bool := z31_ints_l0' (rest0, k0, a1)
theorem z31_ints_l0_eq (rest0 : (List Int)) (k0 : Nat) (a1 : (List Int)) : z31_ints_l0 rest0 k0 a1 =
  match rest0 with
  | [] =>
   some true
  | v6 :: rest0 =>
   bind (geti a1 (k0 : Int)) fun v7 =>
   if ¬ v6 = v7 then
    some false
   else
   z31_ints_l0 rest0 (k0 + 1) a1 := z31_ints_l0'.eq_def (rest0, k0, a1)
def z31_ints (a0 : (List Int)) (a1 : (List Int)) : Option Bool :=
  if ¬ ((intDs_i64 a0).length : Int) = ((intDs_i64 a1).length : Int) then
  some false
  else
  z31_ints_l0 a0 0 a1
def z31_sameType (a0 : YN) (a1 : YN) : Option Bool :=
  if a0.var = a1.var then
  if a0.name = a1.name then
   bind (z31_ints a0.args a1.args) fun v3 =>
   some v3
  else
  some false
  else
  some false
def z31_typesValid_l2' (p : ((List YN) × Nat × ((List Int) × (List Int)))) : Option Bool := match p with
  | (rest2, k2, v5) =>
  match rest2 with
  | [] =>
   some true
  | v9 :: rest2 =>
   bind (geti v5.1 (k2 : Int)) fun v10 =>
   if 500 < v10 then
    some false
   else
   bind (geti v5.2 (k2 : Int)) fun v12 =>
   if 200 < v12 then
    some false
   else
   z31_typesValid_l2' (rest2, k2 + 1, v5)
  partial_fixpoint
def z31_typesValid_l2 (rest2 : (List YN)) (k2 : Nat) (v5 : ((List Int) × (List Int))) : Option Bool := z31_typesValid_l2' (rest2, k2, v5)
theorem z31_typesValid_l2_eq (rest2 : (List YN)) (k2 : Nat) (v5 : ((List Int) × (List Int))) : z31_typesValid_l2 rest2 k2 v5 =
  match rest2 with
  | [] =>
   some true
  | v9 :: rest2 =>
   bind (geti v5.1 (k2 : Int)) fun v10 =>
   if 500 < v10 then
    some false
   else
   bind (geti v5.2 (k2 : Int)) fun v12 =>
   if 200 < v12 then
    some false
   else
   z31_typesValid_l2 rest2 (k2 + 1) v5 := z31_typesValid_l2'.eq_def (rest2, k2, v5)
def z31_typesValid_j1 (a0 : (List YN)) (t3_0 : (List (List Int))) : Option Bool :=
  bind (z31_Sized t3_0) fun v5 =>
  z31_typesValid_l2 a0 0 v5
mutual
def z31_typesValid_l0' (p : ((List (List Int)) × Int × (List YN))) : Option Bool := match p with
  | (t3_0, t4_0, a0) =>
  if t4_0 < ((YN.Ds a0).length : Int) then
   bind (geti a0 t4_0) fun v18 =>
   if v18.var = true then
    bind (geti a0 t4_0) fun v20 =>
    if 0 < ((intDs_i64 v20.args).length : Int) then
     some false
    else
    bind (geti a0 t4_0) fun v22 =>
    if 8 < ((intDs_i64 v22.args).length : Int) then
     some false
    else
    bind (geti a0 t4_0) fun v24 =>
    bind (geti a0 t4_0) fun v25 =>
    bind (z01_Valid (Ty.mk v24.var v25.name ([] : List Ty))) fun v26 =>
    if v26 = true then
     bind (geti a0 t4_0) fun v28 =>
     bind (z31_below v28.args t4_0) fun v29 =>
     if v29 = true then
      z31_typesValid_j0' (a0, t3_0, t4_0)
     else
     some false
    else
    some false
   else
   bind (geti a0 t4_0) fun v20 =>
   if 8 < ((intDs_i64 v20.args).length : Int) then
    some false
   else
   bind (geti a0 t4_0) fun v22 =>
   bind (geti a0 t4_0) fun v23 =>
   bind (z01_Valid (Ty.mk v22.var v23.name ([] : List Ty))) fun v24 =>
   if v24 = true then
    bind (geti a0 t4_0) fun v26 =>
    bind (z31_below v26.args t4_0) fun v27 =>
    if v27 = true then
     z31_typesValid_j0' (a0, t3_0, t4_0)
    else
    some false
   else
   some false
  else
  z31_typesValid_j1 a0 t3_0
  partial_fixpoint
def z31_typesValid_j0' (p : ((List YN) × (List (List Int)) × Int)) : Option Bool := match p with
  | (a0, t3_0, t4_0) =>
  z31_typesValid_l1' (t3_0, t4_0, 0, a0)
  partial_fixpoint
def z31_typesValid_l1' (p : ((List (List Int)) × Int × Int × (List YN))) : Option Bool := match p with
  | (t3_1, t4_1, t5_1, a0) =>
  if t5_1 < t4_1 then
   bind (geti a0 t5_1) fun v31 =>
   bind (geti a0 t4_1) fun v32 =>
   bind (z31_sameType v31 v32) fun v33 =>
   if v33 = true then
    some false
   else
   bind (some (IntKind.wrap .i64 (t5_1 + 1))) fun v35 =>
   z31_typesValid_l1' (t3_1, t4_1, v35, a0)
  else
  bind (geti a0 t4_1) fun v31 =>
  bind (app t3_1 ([v31.args])) fun v32 =>
  bind (some (IntKind.wrap .i64 (t4_1 + 1))) fun v33 =>
  z31_typesValid_l0' (v32, v33, a0)
  partial_fixpoint
end
def z31_typesValid_l0 (t3_0 : (List (List Int))) (t4_0 : Int) (a0 : (List YN)) : Option Bool := z31_typesValid_l0' (t3_0, t4_0, a0)
def z31_typesValid_j0 (a0 : (List YN)) (t3_0 : (List (List Int))) (t4_0 : Int) : Option Bool := z31_typesValid_j0' (a0, t3_0, t4_0)
def z31_typesValid_l1 (t3_1 : (List (List Int))) (t4_1 : Int) (t5_1 : Int) (a0 : (List YN)) : Option Bool := z31_typesValid_l1' (t3_1, t4_1, t5_1, a0)
theorem z31_typesValid_l0_eq (t3_0 : (List (List Int))) (t4_0 : Int) (a0 : (List YN)) : z31_typesValid_l0 t3_0 t4_0 a0 =
  if t4_0 < ((YN.Ds a0).length : Int) then
   bind (geti a0 t4_0) fun v18 =>
   if v18.var = true then
    bind (geti a0 t4_0) fun v20 =>
    if 0 < ((intDs_i64 v20.args).length : Int) then
     some false
    else
    bind (geti a0 t4_0) fun v22 =>
    if 8 < ((intDs_i64 v22.args).length : Int) then
     some false
    else
    bind (geti a0 t4_0) fun v24 =>
    bind (geti a0 t4_0) fun v25 =>
    bind (z01_Valid (Ty.mk v24.var v25.name ([] : List Ty))) fun v26 =>
    if v26 = true then
     bind (geti a0 t4_0) fun v28 =>
     bind (z31_below v28.args t4_0) fun v29 =>
     if v29 = true then
      z31_typesValid_j0 a0 t3_0 t4_0
     else
     some false
    else
    some false
   else
   bind (geti a0 t4_0) fun v20 =>
   if 8 < ((intDs_i64 v20.args).length : Int) then
    some false
   else
   bind (geti a0 t4_0) fun v22 =>
   bind (geti a0 t4_0) fun v23 =>
   bind (z01_Valid (Ty.mk v22.var v23.name ([] : List Ty))) fun v24 =>
   if v24 = true then
    bind (geti a0 t4_0) fun v26 =>
    bind (z31_below v26.args t4_0) fun v27 =>
    if v27 = true then
     z31_typesValid_j0 a0 t3_0 t4_0
    else
    some false
   else
   some false
  else
  z31_typesValid_j1 a0 t3_0 := z31_typesValid_l0'.eq_def (t3_0, t4_0, a0)
theorem z31_typesValid_j0_eq (a0 : (List YN)) (t3_0 : (List (List Int))) (t4_0 : Int) : z31_typesValid_j0 a0 t3_0 t4_0 =
  z31_typesValid_l1 t3_0 t4_0 0 a0 := z31_typesValid_j0'.eq_def (a0, t3_0, t4_0)
theorem z31_typesValid_l1_eq (t3_1 : (List (List Int))) (t4_1 : Int) (t5_1 : Int) (a0 : (List YN)) : z31_typesValid_l1 t3_1 t4_1 t5_1 a0 =
  if t5_1 < t4_1 then
   bind (geti a0 t5_1) fun v31 =>
   bind (geti a0 t4_1) fun v32 =>
   bind (z31_sameType v31 v32) fun v33 =>
   if v33 = true then
    some false
   else
   bind (some (IntKind.wrap .i64 (t5_1 + 1))) fun v35 =>
   z31_typesValid_l1 t3_1 t4_1 v35 a0
  else
  bind (geti a0 t4_1) fun v31 =>
  bind (app t3_1 ([v31.args])) fun v32 =>
  bind (some (IntKind.wrap .i64 (t4_1 + 1))) fun v33 =>
  z31_typesValid_l0 v32 v33 a0 := z31_typesValid_l1'.eq_def (t3_1, t4_1, t5_1, a0)
def z31_typesValid (a0 : (List YN)) : Option Bool :=
  z31_typesValid_l0 ([] : List (List Int)) 0 a0
def z02_Name (a0 : ByteArray) : Option Bool :=
  bind (z01_Name a0) fun v1 =>
  if v1 = true then
  bind (getb a0 0) fun v3 =>
  some (decide (¬ v3 = 39))
  else
  some false
def z31_fine_j1 (t8_1 : Bool) (a0 : XN) (t7_0 : Bool) : Option Bool :=
  if a0.kind = 1 then
  if t7_0 = true then
   some (decide (((intDs_i64 a0.sub).length : Int) = 0))
  else
  some false
  else
  if a0.kind = 2 then
  if t7_0 = true then
   some (decide (((intDs_i64 a0.sub).length : Int) = 0))
  else
  some false
  else
  if a0.kind = 3 then
  if t8_1 = true then
   if 0 ≤ a0.index then
    if a0.index < 300 then
     some (decide (((intDs_i64 a0.sub).length : Int) = 0))
    else
    some false
   else
   some false
  else
  some false
  else
  if a0.kind = 4 then
  if t8_1 = true then
   if a0.index = 0 then
    some (decide (((intDs_i64 a0.sub).length : Int) = 2))
   else
   some false
  else
  some false
  else
  if a0.kind = 5 then
  if t7_0 = true then
   some (decide (((intDs_i64 a0.sub).length : Int) = 1))
  else
  some false
  else
  some false
def z31_fine_j0 (t7_0 : Bool) (a0 : XN) : Option Bool :=
  if a0.name = ByteArray.empty then
  if a0.type_ = (-1) then
   z31_fine_j1 true a0 t7_0
  else
  z31_fine_j1 false a0 t7_0
  else
  z31_fine_j1 false a0 t7_0
def z31_fine (a0 : XN) (a1 : Int) (a2 : Int) : Option Bool :=
  bind (z31_below a0.sub a1) fun v1 =>
  if v1 = true then
  bind (z02_Name a0.name) fun v3 =>
  if v3 = true then
   if 0 ≤ a0.type_ then
    if a0.type_ < a2 then
     if a0.index = 0 then
      z31_fine_j0 true a0
     else
     z31_fine_j0 false a0
    else
    z31_fine_j0 false a0
   else
   z31_fine_j0 false a0
  else
  z31_fine_j0 false a0
  else
  some false
def z31_sameTerm (a0 : XN) (a1 : XN) : Option Bool :=
  if a0.kind = a1.kind then
  if a0.kind = 5 then
   if a0.type_ = a1.type_ then
    if a0.index = a1.index then
     bind (z31_ints a0.sub a1.sub) fun v5 =>
     some v5
    else
    some false
   else
   some false
  else
  if a0.name = a1.name then
   if a0.type_ = a1.type_ then
    if a0.index = a1.index then
     bind (z31_ints a0.sub a1.sub) fun v6 =>
     some v6
    else
    some false
   else
   some false
  else
  some false
  else
  some false
mutual
def z31_Valid_l0' (p : ((List XN) × Nat × AStore)) : Option Bool := match p with
  | (rest0, k0, a0) =>
  match rest0 with
  | [] =>
   some true
  | v4 :: rest0 =>
   bind (z31_fine v4 (k0 : Int) ((YN.Ds a0.types).length : Int)) fun v5 =>
   if v5 = true then
    z31_Valid_l1' (0, a0, k0, rest0, v4)
   else
   some false
  partial_fixpoint
def z31_Valid_l1' (p : (Int × AStore × Nat × (List XN) × XN)) : Option Bool := match p with
  | (t4_1, a0, k0, rest0, v4) =>
  if t4_1 < (k0 : Int) then
   bind (geti a0.terms t4_1) fun v8 =>
   bind (z31_sameTerm v8 v4) fun v9 =>
   if v9 = true then
    some false
   else
   bind (some (IntKind.wrap .i64 (t4_1 + 1))) fun v11 =>
   z31_Valid_l1' (v11, a0, k0, rest0, v4)
  else
  z31_Valid_l0' (rest0, k0 + 1, a0)
  partial_fixpoint
end
def z31_Valid_l0 (rest0 : (List XN)) (k0 : Nat) (a0 : AStore) : Option Bool := z31_Valid_l0' (rest0, k0, a0)
def z31_Valid_l1 (t4_1 : Int) (a0 : AStore) (k0 : Nat) (rest0 : (List XN)) (v4 : XN) : Option Bool := z31_Valid_l1' (t4_1, a0, k0, rest0, v4)
theorem z31_Valid_l0_eq (rest0 : (List XN)) (k0 : Nat) (a0 : AStore) : z31_Valid_l0 rest0 k0 a0 =
  match rest0 with
  | [] =>
   some true
  | v4 :: rest0 =>
   bind (z31_fine v4 (k0 : Int) ((YN.Ds a0.types).length : Int)) fun v5 =>
   if v5 = true then
    z31_Valid_l1 0 a0 k0 rest0 v4
   else
   some false := z31_Valid_l0'.eq_def (rest0, k0, a0)
theorem z31_Valid_l1_eq (t4_1 : Int) (a0 : AStore) (k0 : Nat) (rest0 : (List XN)) (v4 : XN) : z31_Valid_l1 t4_1 a0 k0 rest0 v4 =
  if t4_1 < (k0 : Int) then
   bind (geti a0.terms t4_1) fun v8 =>
   bind (z31_sameTerm v8 v4) fun v9 =>
   if v9 = true then
    some false
   else
   bind (some (IntKind.wrap .i64 (t4_1 + 1))) fun v11 =>
   z31_Valid_l1 v11 a0 k0 rest0 v4
  else
  z31_Valid_l0 rest0 (k0 + 1) a0 := z31_Valid_l1'.eq_def (t4_1, a0, k0, rest0, v4)
def z31_Valid (a0 : AStore) : Option Bool :=
  bind (z31_typesValid a0.types) fun v1 =>
  if v1 = true then
  z31_Valid_l0 a0.terms 0 a0
  else
  some false
def z31_Check (a0 : AStore) : Option Int :=
  if 4096 < ((YN.Ds a0.types).length : Int) then
  some 4
  else
  if 4096 < ((XN.Ds a0.terms).length : Int) then
  some 4
  else
  bind (z31_Valid a0) fun v3 =>
  if v3 = true then
  some 0
  else
  some 8
def z01_Check (a0 : Ty) : Option Int :=
  bind (z01_Valid a0) fun v1 =>
  if v1 = true then
  some 0
  else
  some 10
def z31_PutType_l1' (p : ((List YN) × Nat × Ty × (List YN) × (List XN) × (List Int))) : Option (AStore × Int) := match p with
  | (rest1, k1, a1, c0_0_0, c0_1_0, c3_2_0) =>
  match rest1 with
  | [] =>
   bind (app ([] : List YN) c0_0_0) fun v12 =>
   bind (app v12 ([(YN.mk a1.v a1.name c3_2_0)])) fun v13 =>
   bind (some (IntKind.wrap .i64 (((YN.Ds v13).length : Int) - 1))) fun v14 =>
   some ((AStore.mk v13 c0_1_0), v14)
  | v11 :: rest1 =>
   bind (z31_sameType v11 (YN.mk a1.v a1.name c3_2_0)) fun v12 =>
   if v12 = true then
    some ((AStore.mk c0_0_0 c0_1_0), (k1 : Int))
   else
   z31_PutType_l1' (rest1, k1 + 1, a1, c0_0_0, c0_1_0, c3_2_0)
  partial_fixpoint
def z31_PutType_l1 (rest1 : (List YN)) (k1 : Nat) (a1 : Ty) (c0_0_0 : (List YN)) (c0_1_0 : (List XN)) (c3_2_0 : (List Int)) : Option (AStore × Int) := z31_PutType_l1' (rest1, k1, a1, c0_0_0, c0_1_0, c3_2_0)
theorem z31_PutType_l1_eq (rest1 : (List YN)) (k1 : Nat) (a1 : Ty) (c0_0_0 : (List YN)) (c0_1_0 : (List XN)) (c3_2_0 : (List Int)) : z31_PutType_l1 rest1 k1 a1 c0_0_0 c0_1_0 c3_2_0 =
  match rest1 with
  | [] =>
   bind (app ([] : List YN) c0_0_0) fun v12 =>
   bind (app v12 ([(YN.mk a1.v a1.name c3_2_0)])) fun v13 =>
   bind (some (IntKind.wrap .i64 (((YN.Ds v13).length : Int) - 1))) fun v14 =>
   some ((AStore.mk v13 c0_1_0), v14)
  | v11 :: rest1 =>
   bind (z31_sameType v11 (YN.mk a1.v a1.name c3_2_0)) fun v12 =>
   if v12 = true then
    some ((AStore.mk c0_0_0 c0_1_0), (k1 : Int))
   else
   z31_PutType_l1 rest1 (k1 + 1) a1 c0_0_0 c0_1_0 c3_2_0 := z31_PutType_l1'.eq_def (rest1, k1, a1, c0_0_0, c0_1_0, c3_2_0)
def z31_PutType_j0 (a1 : Ty) (c0_0_0 : (List YN)) (c0_1_0 : (List XN)) (c3_2_0 : (List Int)) : Option (AStore × Int) :=
  z31_PutType_l1 c0_0_0 0 a1 c0_0_0 c0_1_0 c3_2_0
mutual
def z31_PutType' (p : (AStore × Ty)) : Option (AStore × Int) := match p with
  | (a0, a1) =>
  z31_PutType_l0' (a1.args, a0.types, a0.terms, ([] : List Int), a1)
  partial_fixpoint
def z31_PutType_l0' (p : ((List Ty) × (List YN) × (List XN) × (List Int) × Ty)) : Option (AStore × Int) := match p with
  | (rest0, c0_0_0, c0_1_0, c3_2_0, a1) =>
  match rest0 with
  | [] =>
   z31_PutType_j0 a1 c0_0_0 c0_1_0 c3_2_0
  | v8 :: rest0 =>
   bind (z31_PutType' ((AStore.mk c0_0_0 c0_1_0), v8)) fun v9 =>
   bind (app c3_2_0 ([v9.2])) fun v10 =>
   z31_PutType_l0' (rest0, v9.1.types, v9.1.terms, v10, a1)
  partial_fixpoint
end
def z31_PutType (a0 : AStore) (a1 : Ty) : Option (AStore × Int) := z31_PutType' (a0, a1)
def z31_PutType_l0 (rest0 : (List Ty)) (c0_0_0 : (List YN)) (c0_1_0 : (List XN)) (c3_2_0 : (List Int)) (a1 : Ty) : Option (AStore × Int) := z31_PutType_l0' (rest0, c0_0_0, c0_1_0, c3_2_0, a1)
theorem z31_PutType_eq (a0 : AStore) (a1 : Ty) : z31_PutType a0 a1 =
  z31_PutType_l0 a1.args a0.types a0.terms ([] : List Int) a1 := z31_PutType'.eq_def (a0, a1)
theorem z31_PutType_l0_eq (rest0 : (List Ty)) (c0_0_0 : (List YN)) (c0_1_0 : (List XN)) (c3_2_0 : (List Int)) (a1 : Ty) : z31_PutType_l0 rest0 c0_0_0 c0_1_0 c3_2_0 a1 =
  match rest0 with
  | [] =>
   z31_PutType_j0 a1 c0_0_0 c0_1_0 c3_2_0
  | v8 :: rest0 =>
   bind (z31_PutType (AStore.mk c0_0_0 c0_1_0) v8) fun v9 =>
   bind (app c3_2_0 ([v9.2])) fun v10 =>
   z31_PutType_l0 rest0 v9.1.types v9.1.terms v10 a1 := z31_PutType_l0'.eq_def (rest0, c0_0_0, c0_1_0, c3_2_0, a1)
def z31_full (a0 : AStore) (a1 : Int) : Option (AStore × Int × Int) :=
  if 4096 < ((YN.Ds a0.types).length : Int) then
  some ((AStore.mk ([] : List YN) ([] : List XN)), 0, 4)
  else
  if 4096 < ((XN.Ds a0.terms).length : Int) then
  some ((AStore.mk ([] : List YN) ([] : List XN)), 0, 4)
  else
  some (a0, a1, 0)
def z31_AddType_j0 (t7_0 : Int) (a0 : AStore) (a1 : Ty) : Option (AStore × Int × Int) :=
  if ¬ t7_0 = 0 then
  some ((AStore.mk ([] : List YN) ([] : List XN)), 0, t7_0)
  else
  bind (z31_PutType a0 a1) fun v9 =>
  bind (z31_full v9.1 v9.2) fun v10 =>
  some (v10.1, v10.2.1, v10.2.2)
def z31_AddType (a0 : AStore) (a1 : Ty) : Option (AStore × Int × Int) :=
  bind (z31_Check a0) fun v1 =>
  if v1 = 0 then
  bind (z01_Check a1) fun v3 =>
  z31_AddType_j0 v3 a0 a1
  else
  z31_AddType_j0 v1 a0 a1
mutual
def z02_Size' (a0 : Tm) : Option Int :=
  z02_Size_l0' (a0.sub, 1)
  partial_fixpoint
def z02_Size_l0' (p : ((List Tm) × Int)) : Option Int := match p with
  | (rest0, t3_0) =>
  match rest0 with
  | [] =>
   some t3_0
  | v5 :: rest0 =>
   bind (z02_Size' v5) fun v6 =>
   bind (some (IntKind.wrap .i64 (t3_0 + v6))) fun v7 =>
   z02_Size_l0' (rest0, v7)
  partial_fixpoint
end
def z02_Size (a0 : Tm) : Option Int := z02_Size' a0
def z02_Size_l0 (rest0 : (List Tm)) (t3_0 : Int) : Option Int := z02_Size_l0' (rest0, t3_0)
theorem z02_Size_eq (a0 : Tm) : z02_Size a0 =
  z02_Size_l0 a0.sub 1 := z02_Size'.eq_def a0
theorem z02_Size_l0_eq (rest0 : (List Tm)) (t3_0 : Int) : z02_Size_l0 rest0 t3_0 =
  match rest0 with
  | [] =>
   some t3_0
  | v5 :: rest0 =>
   bind (z02_Size v5) fun v6 =>
   bind (some (IntKind.wrap .i64 (t3_0 + v6))) fun v7 =>
   z02_Size_l0 rest0 v7 := z02_Size_l0'.eq_def (rest0, t3_0)
mutual
def z02_Depth' (a0 : Tm) : Option Int :=
  z02_Depth_l0' (a0.sub, 0)
  partial_fixpoint
def z02_Depth_l0' (p : ((List Tm) × Int)) : Option Int := match p with
  | (rest0, t3_0) =>
  match rest0 with
  | [] =>
   bind (some (IntKind.wrap .i64 (1 + t3_0))) fun v6 =>
   some v6
  | v5 :: rest0 =>
   bind (z02_Depth' v5) fun v6 =>
   z02_Depth_l0' (rest0, (max t3_0 v6))
  partial_fixpoint
end
def z02_Depth (a0 : Tm) : Option Int := z02_Depth' a0
def z02_Depth_l0 (rest0 : (List Tm)) (t3_0 : Int) : Option Int := z02_Depth_l0' (rest0, t3_0)
theorem z02_Depth_eq (a0 : Tm) : z02_Depth a0 =
  z02_Depth_l0 a0.sub 0 := z02_Depth'.eq_def a0
theorem z02_Depth_l0_eq (rest0 : (List Tm)) (t3_0 : Int) : z02_Depth_l0 rest0 t3_0 =
  match rest0 with
  | [] =>
   bind (some (IntKind.wrap .i64 (1 + t3_0))) fun v6 =>
   some v6
  | v5 :: rest0 =>
   bind (z02_Depth v5) fun v6 =>
   z02_Depth_l0 rest0 (max t3_0 v6) := z02_Depth_l0'.eq_def (rest0, t3_0)
def z02_Small (a0 : Tm) : Option Bool :=
  bind (z02_Size a0) fun v1 =>
  if v1 ≤ 32000 then
  bind (z02_Depth a0) fun v3 =>
  some (decide (v3 ≤ 300))
  else
  some false
def z02_none (a0 : Ty) : Option Bool :=
  if a0.v = true then
  some false
  else
  if a0.name = ByteArray.empty then
  some (decide (((Ty.Ds a0.args).length : Int) = 0))
  else
  some false
mutual
def z01_Compare' (p : (Ty × Ty)) : Option Int := match p with
  | (a0, a1) =>
  if ¬ a0.v = a1.v then
   if a0.v = true then
    some (-1)
   else
   some 1
  else
  if ¬ a0.name = a1.name then
   if Op.bytesLess a0.name.toList a1.name.toList = true then
    some (-1)
   else
   some 1
  else
  if ¬ ((Ty.Ds a0.args).length : Int) = ((Ty.Ds a1.args).length : Int) then
   if ((Ty.Ds a0.args).length : Int) < ((Ty.Ds a1.args).length : Int) then
    some (-1)
   else
   some 1
  else
  z01_Compare_l0' (a0.args, 0, a1)
  partial_fixpoint
def z01_Compare_l0' (p : ((List Ty) × Nat × Ty)) : Option Int := match p with
  | (rest0, k0, a1) =>
  match rest0 with
  | [] =>
   some 0
  | v6 :: rest0 =>
   bind (geti a1.args (k0 : Int)) fun v7 =>
   bind (z01_Compare' (v6, v7)) fun v8 =>
   if ¬ v8 = 0 then
    some v8
   else
   z01_Compare_l0' (rest0, k0 + 1, a1)
  partial_fixpoint
end
def z01_Compare (a0 : Ty) (a1 : Ty) : Option Int := z01_Compare' (a0, a1)
def z01_Compare_l0 (rest0 : (List Ty)) (k0 : Nat) (a1 : Ty) : Option Int := z01_Compare_l0' (rest0, k0, a1)
theorem z01_Compare_eq (a0 : Ty) (a1 : Ty) : z01_Compare a0 a1 =
  if ¬ a0.v = a1.v then
   if a0.v = true then
    some (-1)
   else
   some 1
  else
  if ¬ a0.name = a1.name then
   if Op.bytesLess a0.name.toList a1.name.toList = true then
    some (-1)
   else
   some 1
  else
  if ¬ ((Ty.Ds a0.args).length : Int) = ((Ty.Ds a1.args).length : Int) then
   if ((Ty.Ds a0.args).length : Int) < ((Ty.Ds a1.args).length : Int) then
    some (-1)
   else
   some 1
  else
  z01_Compare_l0 a0.args 0 a1 := z01_Compare'.eq_def (a0, a1)
theorem z01_Compare_l0_eq (rest0 : (List Ty)) (k0 : Nat) (a1 : Ty) : z01_Compare_l0 rest0 k0 a1 =
  match rest0 with
  | [] =>
   some 0
  | v6 :: rest0 =>
   bind (geti a1.args (k0 : Int)) fun v7 =>
   bind (z01_Compare v6 v7) fun v8 =>
   if ¬ v8 = 0 then
    some v8
   else
   z01_Compare_l0 rest0 (k0 + 1) a1 := z01_Compare_l0'.eq_def (rest0, k0, a1)
def z01_Same (a0 : Ty) (a1 : Ty) : Option Bool :=
  bind (z01_Compare a0 a1) fun v1 =>
  some (decide (v1 = 0))
mutual
def z01_Twin' (a0 : Ty) : Option Ty :=
  z01_Twin_l0' (a0.args, ([] : List Ty), a0)
  partial_fixpoint
def z01_Twin_l0' (p : ((List Ty) × (List Ty) × Ty)) : Option Ty := match p with
  | (rest0, c2_2_0, a0) =>
  match rest0 with
  | [] =>
   some (Ty.mk a0.v a0.name c2_2_0)
  | v6 :: rest0 =>
   bind (z01_Twin' v6) fun v7 =>
   bind (app c2_2_0 ([v7])) fun v8 =>
   z01_Twin_l0' (rest0, v8, a0)
  partial_fixpoint
end
def z01_Twin (a0 : Ty) : Option Ty := z01_Twin' a0
def z01_Twin_l0 (rest0 : (List Ty)) (c2_2_0 : (List Ty)) (a0 : Ty) : Option Ty := z01_Twin_l0' (rest0, c2_2_0, a0)
theorem z01_Twin_eq (a0 : Ty) : z01_Twin a0 =
  z01_Twin_l0 a0.args ([] : List Ty) a0 := z01_Twin'.eq_def a0
theorem z01_Twin_l0_eq (rest0 : (List Ty)) (c2_2_0 : (List Ty)) (a0 : Ty) : z01_Twin_l0 rest0 c2_2_0 a0 =
  match rest0 with
  | [] =>
   some (Ty.mk a0.v a0.name c2_2_0)
  | v6 :: rest0 =>
   bind (z01_Twin v6) fun v7 =>
   bind (app c2_2_0 ([v7])) fun v8 =>
   z01_Twin_l0 rest0 v8 a0 := z01_Twin_l0'.eq_def (rest0, c2_2_0, a0)
def z01_Fun (a0 : Ty) (a1 : Ty) : Option Ty :=
  bind (z01_Twin a0) fun v1 =>
  bind (z01_Twin a1) fun v2 =>
  some (Ty.mk false (ByteArray.mk #[102, 117, 110]) ([v1, v2]))
def z02_Formed_j0 (a0 : Tm) (v14 : (Ty × Bool)) : Option (Ty × Bool) :=
  bind (z01_Fun a0.ty v14.1) fun v15 =>
  if v14.2 = true then
  bind (z01_Valid v15) fun v17 =>
  some (v15, v17)
  else
  some (v15, false)
def z02_Formed' (p : (Tm × (List Ty))) : Option (Ty × Bool) := match p with
  | (a0, a1) =>
  if a0.kind = 1 then
   bind (z02_Name a0.name) fun v2 =>
   if v2 = true then
    bind (z01_Valid a0.ty) fun v4 =>
    if v4 = true then
     if a0.index = 0 then
      some (a0.ty, (decide (((Tm.Ds a0.sub).length : Int) = 0)))
     else
     some (a0.ty, false)
    else
    some (a0.ty, false)
   else
   some (a0.ty, false)
  else
  if a0.kind = 2 then
   bind (z02_Name a0.name) fun v3 =>
   if v3 = true then
    bind (z01_Valid a0.ty) fun v5 =>
    if v5 = true then
     if a0.index = 0 then
      some (a0.ty, (decide (((Tm.Ds a0.sub).length : Int) = 0)))
     else
     some (a0.ty, false)
    else
    some (a0.ty, false)
   else
   some (a0.ty, false)
  else
  if a0.kind = 3 then
   if ¬ a0.name = ByteArray.empty then
    some ((Ty.mk false ByteArray.empty ([] : List Ty)), false)
   else
   bind (z02_none a0.ty) fun v5 =>
   if v5 = true then
    if ¬ ((Tm.Ds a0.sub).length : Int) = 0 then
     some ((Ty.mk false ByteArray.empty ([] : List Ty)), false)
    else
    if a0.index < 0 then
     some ((Ty.mk false ByteArray.empty ([] : List Ty)), false)
    else
    if ((Ty.Ds a1).length : Int) ≤ a0.index then
     some ((Ty.mk false ByteArray.empty ([] : List Ty)), false)
    else
    bind (geti a1 a0.index) fun v10 =>
    some (v10, true)
   else
   some ((Ty.mk false ByteArray.empty ([] : List Ty)), false)
  else
  if a0.kind = 4 then
   if ¬ a0.name = ByteArray.empty then
    some ((Ty.mk false ByteArray.empty ([] : List Ty)), false)
   else
   bind (z02_none a0.ty) fun v6 =>
   if v6 = true then
    if ¬ a0.index = 0 then
     some ((Ty.mk false ByteArray.empty ([] : List Ty)), false)
    else
    if ¬ ((Tm.Ds a0.sub).length : Int) = 2 then
     some ((Ty.mk false ByteArray.empty ([] : List Ty)), false)
    else
    bind (geti a0.sub 0) fun v10 =>
    bind (z02_Formed' (v10, a1)) fun v11 =>
    bind (geti a0.sub 1) fun v12 =>
    bind (z02_Formed' (v12, a1)) fun v13 =>
    if v11.2 = true then
     if v13.2 = true then
      if v11.1.v = true then
       some ((Ty.mk false ByteArray.empty ([] : List Ty)), false)
      else
      if ¬ v11.1.name = (ByteArray.mk #[102, 117, 110]) then
       some ((Ty.mk false ByteArray.empty ([] : List Ty)), false)
      else
      if ¬ ((Ty.Ds v11.1.args).length : Int) = 2 then
       some ((Ty.mk false ByteArray.empty ([] : List Ty)), false)
      else
      bind (geti v11.1.args 0) fun v19 =>
      bind (z01_Same v19 v13.1) fun v20 =>
      if v20 = true then
       bind (geti v11.1.args 1) fun v22 =>
       some (v22, true)
      else
      some ((Ty.mk false ByteArray.empty ([] : List Ty)), false)
     else
     some ((Ty.mk false ByteArray.empty ([] : List Ty)), false)
    else
    some ((Ty.mk false ByteArray.empty ([] : List Ty)), false)
   else
   some ((Ty.mk false ByteArray.empty ([] : List Ty)), false)
  else
  if a0.kind = 5 then
   bind (z02_Name a0.name) fun v6 =>
   if v6 = true then
    bind (z01_Valid a0.ty) fun v8 =>
    if v8 = true then
     if ¬ a0.index = 0 then
      some ((Ty.mk false ByteArray.empty ([] : List Ty)), false)
     else
     if ¬ ((Tm.Ds a0.sub).length : Int) = 1 then
      some ((Ty.mk false ByteArray.empty ([] : List Ty)), false)
     else
     bind (geti a0.sub 0) fun v12 =>
     bind (app ([a0.ty]) a1) fun v13 =>
     bind (z02_Formed' (v12, v13)) fun v14 =>
     z02_Formed_j0 a0 v14
    else
    some ((Ty.mk false ByteArray.empty ([] : List Ty)), false)
   else
   some ((Ty.mk false ByteArray.empty ([] : List Ty)), false)
  else
  some ((Ty.mk false ByteArray.empty ([] : List Ty)), false)
  partial_fixpoint
def z02_Formed (a0 : Tm) (a1 : (List Ty)) : Option (Ty × Bool) := z02_Formed' (a0, a1)
theorem z02_Formed_eq (a0 : Tm) (a1 : (List Ty)) : z02_Formed a0 a1 =
  if a0.kind = 1 then
   bind (z02_Name a0.name) fun v2 =>
   if v2 = true then
    bind (z01_Valid a0.ty) fun v4 =>
    if v4 = true then
     if a0.index = 0 then
      some (a0.ty, (decide (((Tm.Ds a0.sub).length : Int) = 0)))
     else
     some (a0.ty, false)
    else
    some (a0.ty, false)
   else
   some (a0.ty, false)
  else
  if a0.kind = 2 then
   bind (z02_Name a0.name) fun v3 =>
   if v3 = true then
    bind (z01_Valid a0.ty) fun v5 =>
    if v5 = true then
     if a0.index = 0 then
      some (a0.ty, (decide (((Tm.Ds a0.sub).length : Int) = 0)))
     else
     some (a0.ty, false)
    else
    some (a0.ty, false)
   else
   some (a0.ty, false)
  else
  if a0.kind = 3 then
   if ¬ a0.name = ByteArray.empty then
    some ((Ty.mk false ByteArray.empty ([] : List Ty)), false)
   else
   bind (z02_none a0.ty) fun v5 =>
   if v5 = true then
    if ¬ ((Tm.Ds a0.sub).length : Int) = 0 then
     some ((Ty.mk false ByteArray.empty ([] : List Ty)), false)
    else
    if a0.index < 0 then
     some ((Ty.mk false ByteArray.empty ([] : List Ty)), false)
    else
    if ((Ty.Ds a1).length : Int) ≤ a0.index then
     some ((Ty.mk false ByteArray.empty ([] : List Ty)), false)
    else
    bind (geti a1 a0.index) fun v10 =>
    some (v10, true)
   else
   some ((Ty.mk false ByteArray.empty ([] : List Ty)), false)
  else
  if a0.kind = 4 then
   if ¬ a0.name = ByteArray.empty then
    some ((Ty.mk false ByteArray.empty ([] : List Ty)), false)
   else
   bind (z02_none a0.ty) fun v6 =>
   if v6 = true then
    if ¬ a0.index = 0 then
     some ((Ty.mk false ByteArray.empty ([] : List Ty)), false)
    else
    if ¬ ((Tm.Ds a0.sub).length : Int) = 2 then
     some ((Ty.mk false ByteArray.empty ([] : List Ty)), false)
    else
    bind (geti a0.sub 0) fun v10 =>
    bind (z02_Formed v10 a1) fun v11 =>
    bind (geti a0.sub 1) fun v12 =>
    bind (z02_Formed v12 a1) fun v13 =>
    if v11.2 = true then
     if v13.2 = true then
      if v11.1.v = true then
       some ((Ty.mk false ByteArray.empty ([] : List Ty)), false)
      else
      if ¬ v11.1.name = (ByteArray.mk #[102, 117, 110]) then
       some ((Ty.mk false ByteArray.empty ([] : List Ty)), false)
      else
      if ¬ ((Ty.Ds v11.1.args).length : Int) = 2 then
       some ((Ty.mk false ByteArray.empty ([] : List Ty)), false)
      else
      bind (geti v11.1.args 0) fun v19 =>
      bind (z01_Same v19 v13.1) fun v20 =>
      if v20 = true then
       bind (geti v11.1.args 1) fun v22 =>
       some (v22, true)
      else
      some ((Ty.mk false ByteArray.empty ([] : List Ty)), false)
     else
     some ((Ty.mk false ByteArray.empty ([] : List Ty)), false)
    else
    some ((Ty.mk false ByteArray.empty ([] : List Ty)), false)
   else
   some ((Ty.mk false ByteArray.empty ([] : List Ty)), false)
  else
  if a0.kind = 5 then
   bind (z02_Name a0.name) fun v6 =>
   if v6 = true then
    bind (z01_Valid a0.ty) fun v8 =>
    if v8 = true then
     if ¬ a0.index = 0 then
      some ((Ty.mk false ByteArray.empty ([] : List Ty)), false)
     else
     if ¬ ((Tm.Ds a0.sub).length : Int) = 1 then
      some ((Ty.mk false ByteArray.empty ([] : List Ty)), false)
     else
     bind (geti a0.sub 0) fun v12 =>
     bind (app ([a0.ty]) a1) fun v13 =>
     bind (z02_Formed v12 v13) fun v14 =>
     z02_Formed_j0 a0 v14
    else
    some ((Ty.mk false ByteArray.empty ([] : List Ty)), false)
   else
   some ((Ty.mk false ByteArray.empty ([] : List Ty)), false)
  else
  some ((Ty.mk false ByteArray.empty ([] : List Ty)), false) := z02_Formed'.eq_def (a0, a1)
def z02_Check (a0 : Tm) : Option Int :=
  bind (z02_Small a0) fun v1 =>
  if v1 = true then
  bind (z02_Formed a0 ([] : List Ty)) fun v3 =>
  if v3.2 = true then
   some 0
  else
  some 20
  else
  some 21
def z31_Put_l1' (p : ((List XN) × Nat × Tm × (List YN) × (List XN) × Int × (List Int))) : Option (AStore × Int) := match p with
  | (rest1, k1, a1, c0_0_0, c0_1_0, c3_2_2, c3_4_0) =>
  match rest1 with
  | [] =>
   bind (app ([] : List XN) c0_1_0) fun v14 =>
   bind (app v14 ([(XN.mk a1.kind a1.name c3_2_2 a1.index c3_4_0)])) fun v15 =>
   bind (some (IntKind.wrap .i64 (((XN.Ds v15).length : Int) - 1))) fun v16 =>
   some ((AStore.mk c0_0_0 v15), v16)
  | v13 :: rest1 =>
   bind (z31_sameTerm v13 (XN.mk a1.kind a1.name c3_2_2 a1.index c3_4_0)) fun v14 =>
   if v14 = true then
    some ((AStore.mk c0_0_0 c0_1_0), (k1 : Int))
   else
   z31_Put_l1' (rest1, k1 + 1, a1, c0_0_0, c0_1_0, c3_2_2, c3_4_0)
  partial_fixpoint
def z31_Put_l1 (rest1 : (List XN)) (k1 : Nat) (a1 : Tm) (c0_0_0 : (List YN)) (c0_1_0 : (List XN)) (c3_2_2 : Int) (c3_4_0 : (List Int)) : Option (AStore × Int) := z31_Put_l1' (rest1, k1, a1, c0_0_0, c0_1_0, c3_2_2, c3_4_0)
theorem z31_Put_l1_eq (rest1 : (List XN)) (k1 : Nat) (a1 : Tm) (c0_0_0 : (List YN)) (c0_1_0 : (List XN)) (c3_2_2 : Int) (c3_4_0 : (List Int)) : z31_Put_l1 rest1 k1 a1 c0_0_0 c0_1_0 c3_2_2 c3_4_0 =
  match rest1 with
  | [] =>
   bind (app ([] : List XN) c0_1_0) fun v14 =>
   bind (app v14 ([(XN.mk a1.kind a1.name c3_2_2 a1.index c3_4_0)])) fun v15 =>
   bind (some (IntKind.wrap .i64 (((XN.Ds v15).length : Int) - 1))) fun v16 =>
   some ((AStore.mk c0_0_0 v15), v16)
  | v13 :: rest1 =>
   bind (z31_sameTerm v13 (XN.mk a1.kind a1.name c3_2_2 a1.index c3_4_0)) fun v14 =>
   if v14 = true then
    some ((AStore.mk c0_0_0 c0_1_0), (k1 : Int))
   else
   z31_Put_l1 rest1 (k1 + 1) a1 c0_0_0 c0_1_0 c3_2_2 c3_4_0 := z31_Put_l1'.eq_def (rest1, k1, a1, c0_0_0, c0_1_0, c3_2_2, c3_4_0)
def z31_Put_j1 (a1 : Tm) (c0_0_0 : (List YN)) (c0_1_0 : (List XN)) (c3_2_2 : Int) (c3_4_0 : (List Int)) : Option (AStore × Int) :=
  z31_Put_l1 c0_1_0 0 a1 c0_0_0 c0_1_0 c3_2_2 c3_4_0
mutual
def z31_Put' (p : (AStore × Tm)) : Option (AStore × Int) := match p with
  | (a0, a1) =>
  if a1.kind = 1 then
   bind (z31_PutType a0 a1.ty) fun v2 =>
   z31_Put_j0' (v2.1.types, v2.1.terms, v2.2, a1)
  else
  if a1.kind = 2 then
   bind (z31_PutType a0 a1.ty) fun v3 =>
   z31_Put_j0' (v3.1.types, v3.1.terms, v3.2, a1)
  else
  if a1.kind = 5 then
   bind (z31_PutType a0 a1.ty) fun v4 =>
   z31_Put_j0' (v4.1.types, v4.1.terms, v4.2, a1)
  else
  z31_Put_j0' (a0.types, a0.terms, (-1), a1)
  partial_fixpoint
def z31_Put_j0' (p : ((List YN) × (List XN) × Int × Tm)) : Option (AStore × Int) := match p with
  | (c0_0_2, c0_1_2, c3_2_2, a1) =>
  z31_Put_l0' (a1.sub, c0_0_2, c0_1_2, ([] : List Int), a1, c3_2_2)
  partial_fixpoint
def z31_Put_l0' (p : ((List Tm) × (List YN) × (List XN) × (List Int) × Tm × Int)) : Option (AStore × Int) := match p with
  | (rest0, c0_0_0, c0_1_0, c3_4_0, a1, c3_2_2) =>
  match rest0 with
  | [] =>
   z31_Put_j1 a1 c0_0_0 c0_1_0 c3_2_2 c3_4_0
  | v10 :: rest0 =>
   bind (z31_Put' ((AStore.mk c0_0_0 c0_1_0), v10)) fun v11 =>
   bind (app c3_4_0 ([v11.2])) fun v12 =>
   z31_Put_l0' (rest0, v11.1.types, v11.1.terms, v12, a1, c3_2_2)
  partial_fixpoint
end
def z31_Put (a0 : AStore) (a1 : Tm) : Option (AStore × Int) := z31_Put' (a0, a1)
def z31_Put_j0 (c0_0_2 : (List YN)) (c0_1_2 : (List XN)) (c3_2_2 : Int) (a1 : Tm) : Option (AStore × Int) := z31_Put_j0' (c0_0_2, c0_1_2, c3_2_2, a1)
def z31_Put_l0 (rest0 : (List Tm)) (c0_0_0 : (List YN)) (c0_1_0 : (List XN)) (c3_4_0 : (List Int)) (a1 : Tm) (c3_2_2 : Int) : Option (AStore × Int) := z31_Put_l0' (rest0, c0_0_0, c0_1_0, c3_4_0, a1, c3_2_2)
theorem z31_Put_eq (a0 : AStore) (a1 : Tm) : z31_Put a0 a1 =
  if a1.kind = 1 then
   bind (z31_PutType a0 a1.ty) fun v2 =>
   z31_Put_j0 v2.1.types v2.1.terms v2.2 a1
  else
  if a1.kind = 2 then
   bind (z31_PutType a0 a1.ty) fun v3 =>
   z31_Put_j0 v3.1.types v3.1.terms v3.2 a1
  else
  if a1.kind = 5 then
   bind (z31_PutType a0 a1.ty) fun v4 =>
   z31_Put_j0 v4.1.types v4.1.terms v4.2 a1
  else
  z31_Put_j0 a0.types a0.terms (-1) a1 := z31_Put'.eq_def (a0, a1)
theorem z31_Put_j0_eq (c0_0_2 : (List YN)) (c0_1_2 : (List XN)) (c3_2_2 : Int) (a1 : Tm) : z31_Put_j0 c0_0_2 c0_1_2 c3_2_2 a1 =
  z31_Put_l0 a1.sub c0_0_2 c0_1_2 ([] : List Int) a1 c3_2_2 := z31_Put_j0'.eq_def (c0_0_2, c0_1_2, c3_2_2, a1)
theorem z31_Put_l0_eq (rest0 : (List Tm)) (c0_0_0 : (List YN)) (c0_1_0 : (List XN)) (c3_4_0 : (List Int)) (a1 : Tm) (c3_2_2 : Int) : z31_Put_l0 rest0 c0_0_0 c0_1_0 c3_4_0 a1 c3_2_2 =
  match rest0 with
  | [] =>
   z31_Put_j1 a1 c0_0_0 c0_1_0 c3_2_2 c3_4_0
  | v10 :: rest0 =>
   bind (z31_Put (AStore.mk c0_0_0 c0_1_0) v10) fun v11 =>
   bind (app c3_4_0 ([v11.2])) fun v12 =>
   z31_Put_l0 rest0 v11.1.types v11.1.terms v12 a1 c3_2_2 := z31_Put_l0'.eq_def (rest0, c0_0_0, c0_1_0, c3_4_0, a1, c3_2_2)
def z31_Add_j0 (t7_0 : Int) (a0 : AStore) (a1 : Tm) : Option (AStore × Int × Int) :=
  if ¬ t7_0 = 0 then
  some ((AStore.mk ([] : List YN) ([] : List XN)), 0, t7_0)
  else
  bind (z31_Put a0 a1) fun v9 =>
  bind (z31_full v9.1 v9.2) fun v10 =>
  some (v10.1, v10.2.1, v10.2.2)
def z31_Add (a0 : AStore) (a1 : Tm) : Option (AStore × Int × Int) :=
  bind (z31_Check a0) fun v1 =>
  if v1 = 0 then
  bind (z02_Check a1) fun v3 =>
  z31_Add_j0 v3 a0 a1
  else
  z31_Add_j0 v1 a0 a1
def z31_Find_j0 (t7_0 : Int) (a0 : AStore) (a1 : Tm) : Option (Int × Bool × Int) :=
  if ¬ t7_0 = 0 then
  some (0, false, t7_0)
  else
  bind (z31_Put a0 a1) fun v9 =>
  if ((XN.Ds a0.terms).length : Int) < ((XN.Ds v9.1.terms).length : Int) then
  some (0, false, 0)
  else
  some (v9.2, true, 0)
def z31_Find (a0 : AStore) (a1 : Tm) : Option (Int × Bool × Int) :=
  bind (z31_Check a0) fun v1 =>
  if v1 = 0 then
  bind (z02_Check a1) fun v3 =>
  z31_Find_j0 v3 a0 a1
  else
  z31_Find_j0 v1 a0 a1
def z31_Same_l1' (p : ((List XN) × Nat × AStore)) : Option Bool := match p with
  | (rest1, k1, a1) =>
  match rest1 with
  | [] =>
   some true
  | v7 :: rest1 =>
   bind (geti a1.terms (k1 : Int)) fun v8 =>
   bind (z31_sameTerm v7 v8) fun v9 =>
   if v9 = true then
    bind (geti a1.terms (k1 : Int)) fun v11 =>
    if ¬ v7.name = v11.name then
     some false
    else
    z31_Same_l1' (rest1, k1 + 1, a1)
   else
   some false
  partial_fixpoint
def z31_Same_l1 (rest1 : (List XN)) (k1 : Nat) (a1 : AStore) : Option Bool := z31_Same_l1' (rest1, k1, a1)
theorem z31_Same_l1_eq (rest1 : (List XN)) (k1 : Nat) (a1 : AStore) : z31_Same_l1 rest1 k1 a1 =
  match rest1 with
  | [] =>
   some true
  | v7 :: rest1 =>
   bind (geti a1.terms (k1 : Int)) fun v8 =>
   bind (z31_sameTerm v7 v8) fun v9 =>
   if v9 = true then
    bind (geti a1.terms (k1 : Int)) fun v11 =>
    if ¬ v7.name = v11.name then
     some false
    else
    z31_Same_l1 rest1 (k1 + 1) a1
   else
   some false := z31_Same_l1'.eq_def (rest1, k1, a1)
def z31_Same_l0' (p : ((List YN) × Nat × AStore × AStore)) : Option Bool := match p with
  | (rest0, k0, a0, a1) =>
  match rest0 with
  | [] =>
   z31_Same_l1 a0.terms 0 a1
  | v6 :: rest0 =>
   bind (geti a1.types (k0 : Int)) fun v7 =>
   bind (z31_sameType v6 v7) fun v8 =>
   if v8 = true then
    z31_Same_l0' (rest0, k0 + 1, a0, a1)
   else
   some false
  partial_fixpoint
def z31_Same_l0 (rest0 : (List YN)) (k0 : Nat) (a0 : AStore) (a1 : AStore) : Option Bool := z31_Same_l0' (rest0, k0, a0, a1)
theorem z31_Same_l0_eq (rest0 : (List YN)) (k0 : Nat) (a0 : AStore) (a1 : AStore) : z31_Same_l0 rest0 k0 a0 a1 =
  match rest0 with
  | [] =>
   z31_Same_l1 a0.terms 0 a1
  | v6 :: rest0 =>
   bind (geti a1.types (k0 : Int)) fun v7 =>
   bind (z31_sameType v6 v7) fun v8 =>
   if v8 = true then
    z31_Same_l0 rest0 (k0 + 1) a0 a1
   else
   some false := z31_Same_l0'.eq_def (rest0, k0, a0, a1)
def z31_Same (a0 : AStore) (a1 : AStore) : Option Bool :=
  if ¬ ((YN.Ds a0.types).length : Int) = ((YN.Ds a1.types).length : Int) then
  some false
  else
  if ¬ ((XN.Ds a0.terms).length : Int) = ((XN.Ds a1.terms).length : Int) then
  some false
  else
  z31_Same_l0 a0.types 0 a0 a1
mutual
def z01_count' (p : (Ty × Int × Int)) : Option Int := match p with
  | (a0, a1, a2) =>
  if a2 = 0 then
   some 0
  else
  bind (some (IntKind.wrap .i64 (a1 - 1))) fun v2 =>
  bind (some (IntKind.wrap .i64 (Int.tdiv (a0.name.size : Int) 100))) fun v3 =>
  bind (some (IntKind.wrap .i64 (v2 - v3))) fun v4 =>
  z01_count_l0' (a0.args, v4, a2)
  partial_fixpoint
def z01_count_l0' (p : ((List Ty) × Int × Int)) : Option Int := match p with
  | (rest0, t1_0, a2) =>
  match rest0 with
  | [] =>
   some t1_0
  | v8 :: rest0 =>
   if 0 < t1_0 then
    bind (some (IntKind.wrap .i64 (a2 - 1))) fun v10 =>
    bind (z01_count' (v8, t1_0, v10)) fun v11 =>
    z01_count_l0' (rest0, v11, a2)
   else
   some t1_0
  partial_fixpoint
end
def z01_count (a0 : Ty) (a1 : Int) (a2 : Int) : Option Int := z01_count' (a0, a1, a2)
def z01_count_l0 (rest0 : (List Ty)) (t1_0 : Int) (a2 : Int) : Option Int := z01_count_l0' (rest0, t1_0, a2)
theorem z01_count_eq (a0 : Ty) (a1 : Int) (a2 : Int) : z01_count a0 a1 a2 =
  if a2 = 0 then
   some 0
  else
  bind (some (IntKind.wrap .i64 (a1 - 1))) fun v2 =>
  bind (some (IntKind.wrap .i64 (Int.tdiv (a0.name.size : Int) 100))) fun v3 =>
  bind (some (IntKind.wrap .i64 (v2 - v3))) fun v4 =>
  z01_count_l0 a0.args v4 a2 := z01_count'.eq_def (a0, a1, a2)
theorem z01_count_l0_eq (rest0 : (List Ty)) (t1_0 : Int) (a2 : Int) : z01_count_l0 rest0 t1_0 a2 =
  match rest0 with
  | [] =>
   some t1_0
  | v8 :: rest0 =>
   if 0 < t1_0 then
    bind (some (IntKind.wrap .i64 (a2 - 1))) fun v10 =>
    bind (z01_count v8 t1_0 v10) fun v11 =>
    z01_count_l0 rest0 v11 a2
   else
   some t1_0 := z01_count_l0'.eq_def (rest0, t1_0, a2)
def z01_Great (a0 : Ty) : Option Bool :=
  bind (z01_count a0 1500 500) fun v1 =>
  some (decide (v1 ≤ 0))
mutual
def z02_count' (p : (Tm × Int × Int)) : Option Int := match p with
  | (a0, a1, a2) =>
  if a2 = 0 then
   some 0
  else
  bind (z01_Great a0.ty) fun v2 =>
  if v2 = true then
   some 0
  else
  bind (some (IntKind.wrap .i64 (a1 - 1))) fun v4 =>
  bind (some (IntKind.wrap .i64 (Int.tdiv (a0.name.size : Int) 100))) fun v5 =>
  bind (some (IntKind.wrap .i64 (v4 - v5))) fun v6 =>
  z02_count_l0' (a0.sub, v6, a2)
  partial_fixpoint
def z02_count_l0' (p : ((List Tm) × Int × Int)) : Option Int := match p with
  | (rest0, t1_0, a2) =>
  match rest0 with
  | [] =>
   some t1_0
  | v8 :: rest0 =>
   if 0 < t1_0 then
    bind (some (IntKind.wrap .i64 (a2 - 1))) fun v10 =>
    bind (z02_count' (v8, t1_0, v10)) fun v11 =>
    z02_count_l0' (rest0, v11, a2)
   else
   some t1_0
  partial_fixpoint
end
def z02_count (a0 : Tm) (a1 : Int) (a2 : Int) : Option Int := z02_count' (a0, a1, a2)
def z02_count_l0 (rest0 : (List Tm)) (t1_0 : Int) (a2 : Int) : Option Int := z02_count_l0' (rest0, t1_0, a2)
theorem z02_count_eq (a0 : Tm) (a1 : Int) (a2 : Int) : z02_count a0 a1 a2 =
  if a2 = 0 then
   some 0
  else
  bind (z01_Great a0.ty) fun v2 =>
  if v2 = true then
   some 0
  else
  bind (some (IntKind.wrap .i64 (a1 - 1))) fun v4 =>
  bind (some (IntKind.wrap .i64 (Int.tdiv (a0.name.size : Int) 100))) fun v5 =>
  bind (some (IntKind.wrap .i64 (v4 - v5))) fun v6 =>
  z02_count_l0 a0.sub v6 a2 := z02_count'.eq_def (a0, a1, a2)
theorem z02_count_l0_eq (rest0 : (List Tm)) (t1_0 : Int) (a2 : Int) : z02_count_l0 rest0 t1_0 a2 =
  match rest0 with
  | [] =>
   some t1_0
  | v8 :: rest0 =>
   if 0 < t1_0 then
    bind (some (IntKind.wrap .i64 (a2 - 1))) fun v10 =>
    bind (z02_count v8 t1_0 v10) fun v11 =>
    z02_count_l0 rest0 v11 a2
   else
   some t1_0 := z02_count_l0'.eq_def (rest0, t1_0, a2)
def z02_Great (a0 : Tm) : Option Bool :=
  bind (z02_count a0 2000 400) fun v1 =>
  if 0 < v1 then
  some false
  else
  bind (z02_count a0 40000 400) fun v3 =>
  if v3 ≤ 0 then
  some true
  else
  bind (z02_Small a0) fun v5 =>
  some v5
def z31_Wide (a0 : Tm) : Option Bool :=
  bind (z02_Great a0) fun v1 =>
  if v1 = true then
  some true
  else
  bind (z02_Size a0) fun v3 =>
  if 300 < v3 then
  bind (z02_Size a0) fun v5 =>
  some (decide (v5 ≤ 32000))
  else
  some false
end Go.Proofs.Ytemfpemejagndaa.Fw

