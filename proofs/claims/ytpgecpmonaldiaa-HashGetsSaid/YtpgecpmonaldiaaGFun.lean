/- Functions. -/
import Derived.Test.YtpgecpmonaldiaaGData
set_option autoImplicit false
set_option linter.unusedVariables false
set_option linter.unusedSimpArgs false
namespace Go.Proofs.Ytpgecpmonaldiaa.Fw
open Go Go.Proofs
def r31_Great_l1' (p : ((List XN) × Int)) : Option Bool := match p with
 | (rest1, t4_1) =>
  match rest1 with
  | [] =>
   some false
  | v7 :: rest1 =>
   bind (some (IntKind.wrap .i64 (t4_1 + (v7.name.size : Int)))) fun v8 =>
   if 20 < ((intDs_i64 v7.sub).length : Int) then
    some true
   else
   if 5000 < v8 then
    some true
   else
   r31_Great_l1' (rest1, v8)
 partial_fixpoint
def r31_Great_l1 (rest1 : (List XN)) (t4_1 : Int) : Option Bool := r31_Great_l1' (rest1, t4_1)
theorem r31_Great_l1_eq (rest1 : (List XN)) (t4_1 : Int) : r31_Great_l1 rest1 t4_1 =
  match rest1 with
  | [] =>
   some false
  | v7 :: rest1 =>
   bind (some (IntKind.wrap .i64 (t4_1 + (v7.name.size : Int)))) fun v8 =>
   if 20 < ((intDs_i64 v7.sub).length : Int) then
    some true
   else
   if 5000 < v8 then
    some true
   else
   r31_Great_l1 rest1 v8 := r31_Great_l1'.eq_def (rest1, t4_1)
def r31_Great_l0' (p : ((List YN) × Int × AStore)) : Option Bool := match p with
 | (rest0, t4_0, a0) =>
  match rest0 with
  | [] =>
   r31_Great_l1 a0.terms t4_0
  | v6 :: rest0 =>
   bind (some (IntKind.wrap .i64 (t4_0 + (v6.name.size : Int)))) fun v7 =>
   if 20 < ((intDs_i64 v6.args).length : Int) then
    some true
   else
   if 5000 < v7 then
    some true
   else
   r31_Great_l0' (rest0, v7, a0)
 partial_fixpoint
def r31_Great_l0 (rest0 : (List YN)) (t4_0 : Int) (a0 : AStore) : Option Bool := r31_Great_l0' (rest0, t4_0, a0)
theorem r31_Great_l0_eq (rest0 : (List YN)) (t4_0 : Int) (a0 : AStore) : r31_Great_l0 rest0 t4_0 a0 =
  match rest0 with
  | [] =>
   r31_Great_l1 a0.terms t4_0
  | v6 :: rest0 =>
   bind (some (IntKind.wrap .i64 (t4_0 + (v6.name.size : Int)))) fun v7 =>
   if 20 < ((intDs_i64 v6.args).length : Int) then
    some true
   else
   if 5000 < v7 then
    some true
   else
   r31_Great_l0 rest0 v7 a0 := r31_Great_l0'.eq_def (rest0, t4_0, a0)
def r31_Great_j1 (a0 : AStore) : Option Bool :=
 r31_Great_l0 a0.types 0 a0
def r31_Great_j0 (t3_2 : Bool) (a0 : AStore) : Option Bool :=
 if 4200 < ((YN.Ds a0.types).length : Int) then
  some true
 else
 if 4200 < ((XN.Ds a0.terms).length : Int) then
  some true
 else
 if t3_2 = true then
  r31_Great_j1 a0
 else
 if 150 < ((YN.Ds a0.types).length : Int) then
  some true
 else
 if 150 < ((XN.Ds a0.terms).length : Int) then
  some true
 else
 r31_Great_j1 a0
def r31_Great (a0 : AStore) : Option Bool :=
 if 4096 < ((YN.Ds a0.types).length : Int) then
  r31_Great_j0 true a0
 else
 if 4096 < ((XN.Ds a0.terms).length : Int) then
  r31_Great_j0 true a0
 else
 r31_Great_j0 false a0
mutual
def r01_Size' (a0 : Ty) : Option Int :=
 r01_Size_l0' (a0.args, 1)
 partial_fixpoint
def r01_Size_l0' (p : ((List Ty) × Int)) : Option Int := match p with
 | (rest0, t3_0) =>
  match rest0 with
  | [] =>
   some t3_0
  | v5 :: rest0 =>
   bind (r01_Size' v5) fun v6 =>
   bind (some (IntKind.wrap .i64 (t3_0 + v6))) fun v7 =>
   r01_Size_l0' (rest0, v7)
 partial_fixpoint
end
def r01_Size (a0 : Ty) : Option Int := r01_Size' a0
def r01_Size_l0 (rest0 : (List Ty)) (t3_0 : Int) : Option Int := r01_Size_l0' (rest0, t3_0)
theorem r01_Size_eq (a0 : Ty) : r01_Size a0 =
  r01_Size_l0 a0.args 1 := r01_Size'.eq_def a0
theorem r01_Size_l0_eq (rest0 : (List Ty)) (t3_0 : Int) : r01_Size_l0 rest0 t3_0 =
  match rest0 with
  | [] =>
   some t3_0
  | v5 :: rest0 =>
   bind (r01_Size v5) fun v6 =>
   bind (some (IntKind.wrap .i64 (t3_0 + v6))) fun v7 =>
   r01_Size_l0 rest0 v7 := r01_Size_l0'.eq_def (rest0, t3_0)
mutual
def r01_Depth' (a0 : Ty) : Option Int :=
 r01_Depth_l0' (a0.args, 0)
 partial_fixpoint
def r01_Depth_l0' (p : ((List Ty) × Int)) : Option Int := match p with
 | (rest0, t3_0) =>
  match rest0 with
  | [] =>
   bind (some (IntKind.wrap .i64 (1 + t3_0))) fun v6 =>
   some v6
  | v5 :: rest0 =>
   bind (r01_Depth' v5) fun v6 =>
   r01_Depth_l0' (rest0, (max t3_0 v6))
 partial_fixpoint
end
def r01_Depth (a0 : Ty) : Option Int := r01_Depth' a0
def r01_Depth_l0 (rest0 : (List Ty)) (t3_0 : Int) : Option Int := r01_Depth_l0' (rest0, t3_0)
theorem r01_Depth_eq (a0 : Ty) : r01_Depth a0 =
  r01_Depth_l0 a0.args 0 := r01_Depth'.eq_def a0
theorem r01_Depth_l0_eq (rest0 : (List Ty)) (t3_0 : Int) : r01_Depth_l0 rest0 t3_0 =
  match rest0 with
  | [] =>
   bind (some (IntKind.wrap .i64 (1 + t3_0))) fun v6 =>
   some v6
  | v5 :: rest0 =>
   bind (r01_Depth v5) fun v6 =>
   r01_Depth_l0 rest0 (max t3_0 v6) := r01_Depth_l0'.eq_def (rest0, t3_0)
def r01_Small (a0 : Ty) : Option Bool :=
 bind (r01_Size a0) fun v1 =>
 if v1 ≤ 500 then
  bind (r01_Depth a0) fun v3 =>
  some (decide (v3 ≤ 200))
 else
 some false
def r01_Name_l0' (p : (Int × ByteArray)) : Option Bool := match p with
 | (t3_0, a0) =>
  if t3_0 < (a0.size : Int) then
   bind (getb a0 t3_0) fun v5 =>
   if v5 < 33 then
    some false
   else
   if 126 < v5 then
    some false
   else
   if v5 = 40 then
    some false
   else
   if v5 = 41 then
    some false
   else
   if v5 = 44 then
    some false
   else
   if v5 = 58 then
    some false
   else
   if v5 = 92 then
    some false
   else
   if v5 = 46 then
    some false
   else
   if v5 = 34 then
    some false
   else
   bind (some (IntKind.wrap .i64 (t3_0 + 1))) fun v15 =>
   r01_Name_l0' (v15, a0)
  else
  some true
 partial_fixpoint
def r01_Name_l0 (t3_0 : Int) (a0 : ByteArray) : Option Bool := r01_Name_l0' (t3_0, a0)
theorem r01_Name_l0_eq (t3_0 : Int) (a0 : ByteArray) : r01_Name_l0 t3_0 a0 =
  if t3_0 < (a0.size : Int) then
   bind (getb a0 t3_0) fun v5 =>
   if v5 < 33 then
    some false
   else
   if 126 < v5 then
    some false
   else
   if v5 = 40 then
    some false
   else
   if v5 = 41 then
    some false
   else
   if v5 = 44 then
    some false
   else
   if v5 = 58 then
    some false
   else
   if v5 = 92 then
    some false
   else
   if v5 = 46 then
    some false
   else
   if v5 = 34 then
    some false
   else
   bind (some (IntKind.wrap .i64 (t3_0 + 1))) fun v15 =>
   r01_Name_l0 v15 a0
  else
  some true := r01_Name_l0'.eq_def (t3_0, a0)
def r01_Name (a0 : ByteArray) : Option Bool :=
 if (a0.size : Int) < 1 then
  some false
 else
 if 30 < (a0.size : Int) then
  some false
 else
 r01_Name_l0 0 a0
mutual
def r01_shape' (a0 : Ty) : Option Bool :=
 bind (r01_Name a0.name) fun v1 =>
 if v1 = true then
  bind (getb a0.name 0) fun v3 =>
  if ¬ a0.v = (decide (v3 = 39)) then
   some false
  else
  if a0.v = true then
   if 0 < ((Ty.Ds a0.args).length : Int) then
    some false
   else
   if 8 < ((Ty.Ds a0.args).length : Int) then
    some false
   else
   r01_shape_j0' a0
  else
  if 8 < ((Ty.Ds a0.args).length : Int) then
   some false
  else
  r01_shape_j0' a0
 else
 some false
 partial_fixpoint
def r01_shape_j0' (a0 : Ty) : Option Bool :=
 r01_shape_l0' a0.args
 partial_fixpoint
def r01_shape_l0' (rest0 : (List Ty)) : Option Bool :=
 match rest0 with
 | [] =>
  some true
 | v4 :: rest0 =>
  bind (r01_shape' v4) fun v5 =>
  if v5 = true then
   r01_shape_l0' rest0
  else
  some false
 partial_fixpoint
end
def r01_shape (a0 : Ty) : Option Bool := r01_shape' a0
def r01_shape_j0 (a0 : Ty) : Option Bool := r01_shape_j0' a0
def r01_shape_l0 (rest0 : (List Ty)) : Option Bool := r01_shape_l0' rest0
theorem r01_shape_eq (a0 : Ty) : r01_shape a0 =
  bind (r01_Name a0.name) fun v1 =>
  if v1 = true then
   bind (getb a0.name 0) fun v3 =>
   if ¬ a0.v = (decide (v3 = 39)) then
    some false
   else
   if a0.v = true then
    if 0 < ((Ty.Ds a0.args).length : Int) then
     some false
    else
    if 8 < ((Ty.Ds a0.args).length : Int) then
     some false
    else
    r01_shape_j0 a0
   else
   if 8 < ((Ty.Ds a0.args).length : Int) then
    some false
   else
   r01_shape_j0 a0
  else
  some false := r01_shape'.eq_def a0
theorem r01_shape_j0_eq (a0 : Ty) : r01_shape_j0 a0 =
  r01_shape_l0 a0.args := r01_shape_j0'.eq_def a0
theorem r01_shape_l0_eq (rest0 : (List Ty)) : r01_shape_l0 rest0 =
  match rest0 with
  | [] =>
   some true
  | v4 :: rest0 =>
   bind (r01_shape v4) fun v5 =>
   if v5 = true then
    r01_shape_l0 rest0
   else
   some false := r01_shape_l0'.eq_def rest0
def r01_Valid (a0 : Ty) : Option Bool :=
 bind (r01_Small a0) fun v1 =>
 if v1 = true then
  bind (r01_shape a0) fun v3 =>
  some v3
 else
 some false
def r31_below_l0' (p : ((List Int) × Int)) : Option Bool := match p with
 | (rest0, a1) =>
  match rest0 with
  | [] =>
   some true
  | v6 :: rest0 =>
   if v6 < 0 then
    some false
   else
   if a1 ≤ v6 then
    some false
   else
   r31_below_l0' (rest0, a1)
 partial_fixpoint
def r31_below_l0 (rest0 : (List Int)) (a1 : Int) : Option Bool := r31_below_l0' (rest0, a1)
theorem r31_below_l0_eq (rest0 : (List Int)) (a1 : Int) : r31_below_l0 rest0 a1 =
  match rest0 with
  | [] =>
   some true
  | v6 :: rest0 =>
   if v6 < 0 then
    some false
   else
   if a1 ≤ v6 then
    some false
   else
   r31_below_l0 rest0 a1 := r31_below_l0'.eq_def (rest0, a1)
def r31_below (a0 : (List Int)) (a1 : Int) : Option Bool :=
 r31_below_l0 a0 a1
mutual
def r31_Sized_l0' (p : ((List Int) × (List Int) × Int × (List (List Int)))) : Option ((List Int) × (List Int)) := match p with
 | (t4_0, t5_0, t6_0, a0) =>
  if t6_0 < ((intDs_i64s a0).length : Int) then
   r31_Sized_l1' (t4_0, t5_0, t6_0, 1, 0, 0, a0)
  else
  some (t4_0, t5_0)
 partial_fixpoint
def r31_Sized_l1' (p : ((List Int) × (List Int) × Int × Int × Int × Int × (List (List Int)))) : Option ((List Int) × (List Int)) := match p with
 | (t4_1, t5_1, t6_1, t7_1, t8_1, t9_1, a0) =>
  bind (geti a0 t6_1) fun v10 =>
  if t9_1 < ((intDs_i64 v10).length : Int) then
   bind (geti a0 t6_1) fun v12 =>
   bind (geti v12 t9_1) fun v13 =>
   bind (geti t4_1 v13) fun v14 =>
   bind (some (IntKind.wrap .i64 (t7_1 + v14))) fun v15 =>
   bind (geti a0 t6_1) fun v16 =>
   bind (geti v16 t9_1) fun v17 =>
   bind (geti t5_1 v17) fun v18 =>
   bind (some (IntKind.wrap .i64 (t9_1 + 1))) fun v19 =>
   r31_Sized_l1' (t4_1, t5_1, t6_1, v15, (max t8_1 v18), v19, a0)
  else
  bind (app t4_1 ([(min t7_1 40000)])) fun v12 =>
  bind (some (IntKind.wrap .i64 (t8_1 + 1))) fun v13 =>
  bind (app t5_1 ([(min v13 40000)])) fun v14 =>
  bind (some (IntKind.wrap .i64 (t6_1 + 1))) fun v15 =>
  r31_Sized_l0' (v12, v14, v15, a0)
 partial_fixpoint
end
def r31_Sized_l0 (t4_0 : (List Int)) (t5_0 : (List Int)) (t6_0 : Int) (a0 : (List (List Int))) : Option ((List Int) × (List Int)) := r31_Sized_l0' (t4_0, t5_0, t6_0, a0)
def r31_Sized_l1 (t4_1 : (List Int)) (t5_1 : (List Int)) (t6_1 : Int) (t7_1 : Int) (t8_1 : Int) (t9_1 : Int) (a0 : (List (List Int))) : Option ((List Int) × (List Int)) := r31_Sized_l1' (t4_1, t5_1, t6_1, t7_1, t8_1, t9_1, a0)
theorem r31_Sized_l0_eq (t4_0 : (List Int)) (t5_0 : (List Int)) (t6_0 : Int) (a0 : (List (List Int))) : r31_Sized_l0 t4_0 t5_0 t6_0 a0 =
  if t6_0 < ((intDs_i64s a0).length : Int) then
   r31_Sized_l1 t4_0 t5_0 t6_0 1 0 0 a0
  else
  some (t4_0, t5_0) := r31_Sized_l0'.eq_def (t4_0, t5_0, t6_0, a0)
theorem r31_Sized_l1_eq (t4_1 : (List Int)) (t5_1 : (List Int)) (t6_1 : Int) (t7_1 : Int) (t8_1 : Int) (t9_1 : Int) (a0 : (List (List Int))) : r31_Sized_l1 t4_1 t5_1 t6_1 t7_1 t8_1 t9_1 a0 =
  bind (geti a0 t6_1) fun v10 =>
  if t9_1 < ((intDs_i64 v10).length : Int) then
   bind (geti a0 t6_1) fun v12 =>
   bind (geti v12 t9_1) fun v13 =>
   bind (geti t4_1 v13) fun v14 =>
   bind (some (IntKind.wrap .i64 (t7_1 + v14))) fun v15 =>
   bind (geti a0 t6_1) fun v16 =>
   bind (geti v16 t9_1) fun v17 =>
   bind (geti t5_1 v17) fun v18 =>
   bind (some (IntKind.wrap .i64 (t9_1 + 1))) fun v19 =>
   r31_Sized_l1 t4_1 t5_1 t6_1 v15 (max t8_1 v18) v19 a0
  else
  bind (app t4_1 ([(min t7_1 40000)])) fun v12 =>
  bind (some (IntKind.wrap .i64 (t8_1 + 1))) fun v13 =>
  bind (app t5_1 ([(min v13 40000)])) fun v14 =>
  bind (some (IntKind.wrap .i64 (t6_1 + 1))) fun v15 =>
  r31_Sized_l0 v12 v14 v15 a0 := r31_Sized_l1'.eq_def (t4_1, t5_1, t6_1, t7_1, t8_1, t9_1, a0)
def r31_Sized (a0 : (List (List Int))) : Option ((List Int) × (List Int)) :=
 r31_Sized_l0 ([] : List Int) ([] : List Int) 0 a0
def r31_ints_l0' (p : ((List Int) × Nat × (List Int))) : Option Bool := match p with
 | (rest0, k0, a1) =>
  match rest0 with
  | [] =>
   some true
  | v6 :: rest0 =>
   bind (geti a1 (k0 : Int)) fun v7 =>
   if ¬ v6 = v7 then
    some false
   else
   r31_ints_l0' (rest0, k0 + 1, a1)
 partial_fixpoint
def r31_ints_l0 (rest0 : (List Int)) (k0 : Nat) (a1 : (List Int)) : Option Bool := r31_ints_l0' (rest0, k0, a1)
theorem r31_ints_l0_eq (rest0 : (List Int)) (k0 : Nat) (a1 : (List Int)) : r31_ints_l0 rest0 k0 a1 =
  match rest0 with
  | [] =>
   some true
  | v6 :: rest0 =>
   bind (geti a1 (k0 : Int)) fun v7 =>
   if ¬ v6 = v7 then
    some false
   else
   r31_ints_l0 rest0 (k0 + 1) a1 := r31_ints_l0'.eq_def (rest0, k0, a1)
def r31_ints (a0 : (List Int)) (a1 : (List Int)) : Option Bool :=
 if ¬ ((intDs_i64 a0).length : Int) = ((intDs_i64 a1).length : Int) then
  some false
 else
 r31_ints_l0 a0 0 a1
def r31_sameType (a0 : YN) (a1 : YN) : Option Bool :=
 if a0.var = a1.var then
  if a0.name = a1.name then
   bind (r31_ints a0.args a1.args) fun v3 =>
   some v3
  else
  some false
 else
 some false
def r31_typesValid_l2' (p : ((List YN) × Nat × ((List Int) × (List Int)))) : Option Bool := match p with
 | (rest2, k2, v5) =>
  match rest2 with
  | [] =>
   some true
  | v9 :: rest2 =>
   bind (geti v5.1 (k2 : Int)) fun v10 =>
   if 500 < v10 then
    some false
   else
   bind (geti v5.2 (k2 : Int)) fun v12 =>
   if 200 < v12 then
    some false
   else
   r31_typesValid_l2' (rest2, k2 + 1, v5)
 partial_fixpoint
def r31_typesValid_l2 (rest2 : (List YN)) (k2 : Nat) (v5 : ((List Int) × (List Int))) : Option Bool := r31_typesValid_l2' (rest2, k2, v5)
theorem r31_typesValid_l2_eq (rest2 : (List YN)) (k2 : Nat) (v5 : ((List Int) × (List Int))) : r31_typesValid_l2 rest2 k2 v5 =
  match rest2 with
  | [] =>
   some true
  | v9 :: rest2 =>
   bind (geti v5.1 (k2 : Int)) fun v10 =>
   if 500 < v10 then
    some false
   else
   bind (geti v5.2 (k2 : Int)) fun v12 =>
   if 200 < v12 then
    some false
   else
   r31_typesValid_l2 rest2 (k2 + 1) v5 := r31_typesValid_l2'.eq_def (rest2, k2, v5)
def r31_typesValid_j1 (a0 : (List YN)) (t3_0 : (List (List Int))) : Option Bool :=
 bind (r31_Sized t3_0) fun v5 =>
 r31_typesValid_l2 a0 0 v5
mutual
def r31_typesValid_l0' (p : ((List (List Int)) × Int × (List YN))) : Option Bool := match p with
 | (t3_0, t4_0, a0) =>
  if t4_0 < ((YN.Ds a0).length : Int) then
   bind (geti a0 t4_0) fun v18 =>
   if v18.var = true then
    bind (geti a0 t4_0) fun v20 =>
    if 0 < ((intDs_i64 v20.args).length : Int) then
     some false
    else
    bind (geti a0 t4_0) fun v22 =>
    if 8 < ((intDs_i64 v22.args).length : Int) then
     some false
    else
    bind (geti a0 t4_0) fun v24 =>
    bind (geti a0 t4_0) fun v25 =>
    bind (r01_Valid (Ty.mk v24.var v25.name ([] : List Ty))) fun v26 =>
    if v26 = true then
     bind (geti a0 t4_0) fun v28 =>
     bind (r31_below v28.args t4_0) fun v29 =>
     if v29 = true then
      r31_typesValid_j0' (a0, t3_0, t4_0)
     else
     some false
    else
    some false
   else
   bind (geti a0 t4_0) fun v20 =>
   if 8 < ((intDs_i64 v20.args).length : Int) then
    some false
   else
   bind (geti a0 t4_0) fun v22 =>
   bind (geti a0 t4_0) fun v23 =>
   bind (r01_Valid (Ty.mk v22.var v23.name ([] : List Ty))) fun v24 =>
   if v24 = true then
    bind (geti a0 t4_0) fun v26 =>
    bind (r31_below v26.args t4_0) fun v27 =>
    if v27 = true then
     r31_typesValid_j0' (a0, t3_0, t4_0)
    else
    some false
   else
   some false
  else
  r31_typesValid_j1 a0 t3_0
 partial_fixpoint
def r31_typesValid_j0' (p : ((List YN) × (List (List Int)) × Int)) : Option Bool := match p with
 | (a0, t3_0, t4_0) =>
  r31_typesValid_l1' (t3_0, t4_0, 0, a0)
 partial_fixpoint
def r31_typesValid_l1' (p : ((List (List Int)) × Int × Int × (List YN))) : Option Bool := match p with
 | (t3_1, t4_1, t5_1, a0) =>
  if t5_1 < t4_1 then
   bind (geti a0 t5_1) fun v31 =>
   bind (geti a0 t4_1) fun v32 =>
   bind (r31_sameType v31 v32) fun v33 =>
   if v33 = true then
    some false
   else
   bind (some (IntKind.wrap .i64 (t5_1 + 1))) fun v35 =>
   r31_typesValid_l1' (t3_1, t4_1, v35, a0)
  else
  bind (geti a0 t4_1) fun v31 =>
  bind (app t3_1 ([v31.args])) fun v32 =>
  bind (some (IntKind.wrap .i64 (t4_1 + 1))) fun v33 =>
  r31_typesValid_l0' (v32, v33, a0)
 partial_fixpoint
end
def r31_typesValid_l0 (t3_0 : (List (List Int))) (t4_0 : Int) (a0 : (List YN)) : Option Bool := r31_typesValid_l0' (t3_0, t4_0, a0)
def r31_typesValid_j0 (a0 : (List YN)) (t3_0 : (List (List Int))) (t4_0 : Int) : Option Bool := r31_typesValid_j0' (a0, t3_0, t4_0)
def r31_typesValid_l1 (t3_1 : (List (List Int))) (t4_1 : Int) (t5_1 : Int) (a0 : (List YN)) : Option Bool := r31_typesValid_l1' (t3_1, t4_1, t5_1, a0)
theorem r31_typesValid_l0_eq (t3_0 : (List (List Int))) (t4_0 : Int) (a0 : (List YN)) : r31_typesValid_l0 t3_0 t4_0 a0 =
  if t4_0 < ((YN.Ds a0).length : Int) then
   bind (geti a0 t4_0) fun v18 =>
   if v18.var = true then
    bind (geti a0 t4_0) fun v20 =>
    if 0 < ((intDs_i64 v20.args).length : Int) then
     some false
    else
    bind (geti a0 t4_0) fun v22 =>
    if 8 < ((intDs_i64 v22.args).length : Int) then
     some false
    else
    bind (geti a0 t4_0) fun v24 =>
    bind (geti a0 t4_0) fun v25 =>
    bind (r01_Valid (Ty.mk v24.var v25.name ([] : List Ty))) fun v26 =>
    if v26 = true then
     bind (geti a0 t4_0) fun v28 =>
     bind (r31_below v28.args t4_0) fun v29 =>
     if v29 = true then
      r31_typesValid_j0 a0 t3_0 t4_0
     else
     some false
    else
    some false
   else
   bind (geti a0 t4_0) fun v20 =>
   if 8 < ((intDs_i64 v20.args).length : Int) then
    some false
   else
   bind (geti a0 t4_0) fun v22 =>
   bind (geti a0 t4_0) fun v23 =>
   bind (r01_Valid (Ty.mk v22.var v23.name ([] : List Ty))) fun v24 =>
   if v24 = true then
    bind (geti a0 t4_0) fun v26 =>
    bind (r31_below v26.args t4_0) fun v27 =>
    if v27 = true then
     r31_typesValid_j0 a0 t3_0 t4_0
    else
    some false
   else
   some false
  else
  r31_typesValid_j1 a0 t3_0 := r31_typesValid_l0'.eq_def (t3_0, t4_0, a0)
theorem r31_typesValid_j0_eq (a0 : (List YN)) (t3_0 : (List (List Int))) (t4_0 : Int) : r31_typesValid_j0 a0 t3_0 t4_0 =
  r31_typesValid_l1 t3_0 t4_0 0 a0 := r31_typesValid_j0'.eq_def (a0, t3_0, t4_0)
theorem r31_typesValid_l1_eq (t3_1 : (List (List Int))) (t4_1 : Int) (t5_1 : Int) (a0 : (List YN)) : r31_typesValid_l1 t3_1 t4_1 t5_1 a0 =
  if t5_1 < t4_1 then
   bind (geti a0 t5_1) fun v31 =>
   bind (geti a0 t4_1) fun v32 =>
   bind (r31_sameType v31 v32) fun v33 =>
   if v33 = true then
    some false
   else
   bind (some (IntKind.wrap .i64 (t5_1 + 1))) fun v35 =>
   r31_typesValid_l1 t3_1 t4_1 v35 a0
  else
  bind (geti a0 t4_1) fun v31 =>
  bind (app t3_1 ([v31.args])) fun v32 =>
  bind (some (IntKind.wrap .i64 (t4_1 + 1))) fun v33 =>
  r31_typesValid_l0 v32 v33 a0 := r31_typesValid_l1'.eq_def (t3_1, t4_1, t5_1, a0)
def r31_typesValid (a0 : (List YN)) : Option Bool :=
 r31_typesValid_l0 ([] : List (List Int)) 0 a0
def r02_Name (a0 : ByteArray) : Option Bool :=
 bind (r01_Name a0) fun v1 =>
 if v1 = true then
  bind (getb a0 0) fun v3 =>
  some (decide (¬ v3 = 39))
 else
 some false
def r31_fine_j1 (t8_1 : Bool) (a0 : XN) (t7_0 : Bool) : Option Bool :=
 if a0.kind = 1 then
  if t7_0 = true then
   some (decide (((intDs_i64 a0.sub).length : Int) = 0))
  else
  some false
 else
 if a0.kind = 2 then
  if t7_0 = true then
   some (decide (((intDs_i64 a0.sub).length : Int) = 0))
  else
  some false
 else
 if a0.kind = 3 then
  if t8_1 = true then
   if 0 ≤ a0.index then
    if a0.index < 300 then
     some (decide (((intDs_i64 a0.sub).length : Int) = 0))
    else
    some false
   else
   some false
  else
  some false
 else
 if a0.kind = 4 then
  if t8_1 = true then
   if a0.index = 0 then
    some (decide (((intDs_i64 a0.sub).length : Int) = 2))
   else
   some false
  else
  some false
 else
 if a0.kind = 5 then
  if t7_0 = true then
   some (decide (((intDs_i64 a0.sub).length : Int) = 1))
  else
  some false
 else
 some false
def r31_fine_j0 (t7_0 : Bool) (a0 : XN) : Option Bool :=
 if a0.name = ByteArray.empty then
  if a0.type_ = (-1) then
   r31_fine_j1 true a0 t7_0
  else
  r31_fine_j1 false a0 t7_0
 else
 r31_fine_j1 false a0 t7_0
def r31_fine (a0 : XN) (a1 : Int) (a2 : Int) : Option Bool :=
 bind (r31_below a0.sub a1) fun v1 =>
 if v1 = true then
  bind (r02_Name a0.name) fun v3 =>
  if v3 = true then
   if 0 ≤ a0.type_ then
    if a0.type_ < a2 then
     if a0.index = 0 then
      r31_fine_j0 true a0
     else
     r31_fine_j0 false a0
    else
    r31_fine_j0 false a0
   else
   r31_fine_j0 false a0
  else
  r31_fine_j0 false a0
 else
 some false
def r31_sameTerm (a0 : XN) (a1 : XN) : Option Bool :=
 if a0.kind = a1.kind then
  if a0.kind = 5 then
   if a0.type_ = a1.type_ then
    if a0.index = a1.index then
     bind (r31_ints a0.sub a1.sub) fun v5 =>
     some v5
    else
    some false
   else
   some false
  else
  if a0.name = a1.name then
   if a0.type_ = a1.type_ then
    if a0.index = a1.index then
     bind (r31_ints a0.sub a1.sub) fun v6 =>
     some v6
    else
    some false
   else
   some false
  else
  some false
 else
 some false
mutual
def r31_Valid_l0' (p : ((List XN) × Nat × AStore)) : Option Bool := match p with
 | (rest0, k0, a0) =>
  match rest0 with
  | [] =>
   some true
  | v4 :: rest0 =>
   bind (r31_fine v4 (k0 : Int) ((YN.Ds a0.types).length : Int)) fun v5 =>
   if v5 = true then
    r31_Valid_l1' (0, a0, k0, rest0, v4)
   else
   some false
 partial_fixpoint
def r31_Valid_l1' (p : (Int × AStore × Nat × (List XN) × XN)) : Option Bool := match p with
 | (t4_1, a0, k0, rest0, v4) =>
  if t4_1 < (k0 : Int) then
   bind (geti a0.terms t4_1) fun v8 =>
   bind (r31_sameTerm v8 v4) fun v9 =>
   if v9 = true then
    some false
   else
   bind (some (IntKind.wrap .i64 (t4_1 + 1))) fun v11 =>
   r31_Valid_l1' (v11, a0, k0, rest0, v4)
  else
  r31_Valid_l0' (rest0, k0 + 1, a0)
 partial_fixpoint
end
def r31_Valid_l0 (rest0 : (List XN)) (k0 : Nat) (a0 : AStore) : Option Bool := r31_Valid_l0' (rest0, k0, a0)
def r31_Valid_l1 (t4_1 : Int) (a0 : AStore) (k0 : Nat) (rest0 : (List XN)) (v4 : XN) : Option Bool := r31_Valid_l1' (t4_1, a0, k0, rest0, v4)
theorem r31_Valid_l0_eq (rest0 : (List XN)) (k0 : Nat) (a0 : AStore) : r31_Valid_l0 rest0 k0 a0 =
  match rest0 with
  | [] =>
   some true
  | v4 :: rest0 =>
   bind (r31_fine v4 (k0 : Int) ((YN.Ds a0.types).length : Int)) fun v5 =>
   if v5 = true then
    r31_Valid_l1 0 a0 k0 rest0 v4
   else
   some false := r31_Valid_l0'.eq_def (rest0, k0, a0)
theorem r31_Valid_l1_eq (t4_1 : Int) (a0 : AStore) (k0 : Nat) (rest0 : (List XN)) (v4 : XN) : r31_Valid_l1 t4_1 a0 k0 rest0 v4 =
  if t4_1 < (k0 : Int) then
   bind (geti a0.terms t4_1) fun v8 =>
   bind (r31_sameTerm v8 v4) fun v9 =>
   if v9 = true then
    some false
   else
   bind (some (IntKind.wrap .i64 (t4_1 + 1))) fun v11 =>
   r31_Valid_l1 v11 a0 k0 rest0 v4
  else
  r31_Valid_l0 rest0 (k0 + 1) a0 := r31_Valid_l1'.eq_def (t4_1, a0, k0, rest0, v4)
def r31_Valid (a0 : AStore) : Option Bool :=
 bind (r31_typesValid a0.types) fun v1 =>
 if v1 = true then
  r31_Valid_l0 a0.terms 0 a0
 else
 some false
def r31_Check (a0 : AStore) : Option Int :=
 if 4096 < ((YN.Ds a0.types).length : Int) then
  some 4
 else
 if 4096 < ((XN.Ds a0.terms).length : Int) then
  some 4
 else
 bind (r31_Valid a0) fun v3 =>
 if v3 = true then
  some 0
 else
 some 8
def r31_Size_j1 (a1 : Int) (t7_1 : (List (List Int))) : Option (Int × Int) :=
 bind (r31_Sized t7_1) fun v9 =>
 bind (geti v9.1 a1) fun v10 =>
 if 32000 < v10 then
  some (0, 21)
 else
 bind (geti v9.2 a1) fun v12 =>
 if 300 < v12 then
  some (0, 21)
 else
 bind (geti v9.1 a1) fun v14 =>
 some (v14, 0)
def r31_Size_l0' (p : ((List XN) × (List (List Int)) × Int)) : Option (Int × Int) := match p with
 | (rest1, t7_1, a1) =>
  match rest1 with
  | [] =>
   r31_Size_j1 a1 t7_1
  | v11 :: rest1 =>
   bind (app t7_1 ([v11.sub])) fun v12 =>
   r31_Size_l0' (rest1, v12, a1)
 partial_fixpoint
def r31_Size_l0 (rest1 : (List XN)) (t7_1 : (List (List Int))) (a1 : Int) : Option (Int × Int) := r31_Size_l0' (rest1, t7_1, a1)
theorem r31_Size_l0_eq (rest1 : (List XN)) (t7_1 : (List (List Int))) (a1 : Int) : r31_Size_l0 rest1 t7_1 a1 =
  match rest1 with
  | [] =>
   r31_Size_j1 a1 t7_1
  | v11 :: rest1 =>
   bind (app t7_1 ([v11.sub])) fun v12 =>
   r31_Size_l0 rest1 v12 a1 := r31_Size_l0'.eq_def (rest1, t7_1, a1)
def r31_Size_j0 (t6_0 : Int) (a0 : AStore) (a1 : Int) : Option (Int × Int) :=
 if ¬ t6_0 = 0 then
  some (0, t6_0)
 else
 r31_Size_l0 a0.terms ([] : List (List Int)) a1
def r31_Size (a0 : AStore) (a1 : Int) : Option (Int × Int) :=
 bind (r31_Check a0) fun v1 =>
 if v1 = 0 then
  if a1 < 0 then
   r31_Size_j0 6 a0 a1
  else
  if ((XN.Ds a0.terms).length : Int) ≤ a1 then
   r31_Size_j0 6 a0 a1
  else
  r31_Size_j0 v1 a0 a1
 else
 r31_Size_j0 v1 a0 a1
def r31_Huge (a0 : AStore) (a1 : Int) : Option Bool :=
 bind (r31_Size a0 a1) fun v1 =>
 if v1.2 = 0 then
  some (decide (2000 < v1.1))
 else
 some false
def r31_Twin_l1' (p : ((List XN) × (List XN) × (List YN))) : Option AStore := match p with
 | (rest1, c2_1_1, c2_0_0) =>
  match rest1 with
  | [] =>
   some (AStore.mk c2_0_0 c2_1_1)
  | v7 :: rest1 =>
   bind (app ([] : List Int) v7.sub) fun v8 =>
   bind (app c2_1_1 ([(XN.mk v7.kind v7.name v7.type_ v7.index v8)])) fun v9 =>
   r31_Twin_l1' (rest1, v9, c2_0_0)
 partial_fixpoint
def r31_Twin_l1 (rest1 : (List XN)) (c2_1_1 : (List XN)) (c2_0_0 : (List YN)) : Option AStore := r31_Twin_l1' (rest1, c2_1_1, c2_0_0)
theorem r31_Twin_l1_eq (rest1 : (List XN)) (c2_1_1 : (List XN)) (c2_0_0 : (List YN)) : r31_Twin_l1 rest1 c2_1_1 c2_0_0 =
  match rest1 with
  | [] =>
   some (AStore.mk c2_0_0 c2_1_1)
  | v7 :: rest1 =>
   bind (app ([] : List Int) v7.sub) fun v8 =>
   bind (app c2_1_1 ([(XN.mk v7.kind v7.name v7.type_ v7.index v8)])) fun v9 =>
   r31_Twin_l1 rest1 v9 c2_0_0 := r31_Twin_l1'.eq_def (rest1, c2_1_1, c2_0_0)
def r31_Twin_j0 (a0 : AStore) (c2_0_0 : (List YN)) : Option AStore :=
 r31_Twin_l1 a0.terms ([] : List XN) c2_0_0
def r31_Twin_l0' (p : ((List YN) × (List YN) × AStore)) : Option AStore := match p with
 | (rest0, c2_0_0, a0) =>
  match rest0 with
  | [] =>
   r31_Twin_j0 a0 c2_0_0
  | v6 :: rest0 =>
   bind (app ([] : List Int) v6.args) fun v7 =>
   bind (app c2_0_0 ([(YN.mk v6.var v6.name v7)])) fun v8 =>
   r31_Twin_l0' (rest0, v8, a0)
 partial_fixpoint
def r31_Twin_l0 (rest0 : (List YN)) (c2_0_0 : (List YN)) (a0 : AStore) : Option AStore := r31_Twin_l0' (rest0, c2_0_0, a0)
theorem r31_Twin_l0_eq (rest0 : (List YN)) (c2_0_0 : (List YN)) (a0 : AStore) : r31_Twin_l0 rest0 c2_0_0 a0 =
  match rest0 with
  | [] =>
   r31_Twin_j0 a0 c2_0_0
  | v6 :: rest0 =>
   bind (app ([] : List Int) v6.args) fun v7 =>
   bind (app c2_0_0 ([(YN.mk v6.var v6.name v7)])) fun v8 =>
   r31_Twin_l0 rest0 v8 a0 := r31_Twin_l0'.eq_def (rest0, c2_0_0, a0)
def r31_Twin (a0 : AStore) : Option AStore :=
 r31_Twin_l0 a0.types ([] : List YN) a0
def slices_Clone_int_int (a0 : (List Int)) : Option (List Int) :=
 bind (
  bind (app ([] : List Int) a0) fun v4 =>
  some v4
 ) fun v2 =>
 if a0 = [] then bind (
  some ([] : List Int)
 ) fun v3 => if v3 = v2 then some v2 else none
 else some v2
def hash_Twin_io_l1' (p : ((List XN) × (List XN) × (List YN))) : Option ((List YN) × (List XN)) := match p with
 | (rest1, c2_1_1, c2_0_0) =>
  match rest1 with
  | [] =>
   some (c2_0_0, c2_1_1)
  | v30 :: rest1 =>
   bind (slices_Clone_int_int v30.sub) fun v31 =>
   bind (app c2_1_1 ([(XN.mk v30.kind v30.name v30.type_ v30.index v31)])) fun v32 =>
   hash_Twin_io_l1' (rest1, v32, c2_0_0)
 partial_fixpoint
def hash_Twin_io_l1 (rest1 : (List XN)) (c2_1_1 : (List XN)) (c2_0_0 : (List YN)) : Option ((List YN) × (List XN)) := hash_Twin_io_l1' (rest1, c2_1_1, c2_0_0)
theorem hash_Twin_io_l1_eq (rest1 : (List XN)) (c2_1_1 : (List XN)) (c2_0_0 : (List YN)) : hash_Twin_io_l1 rest1 c2_1_1 c2_0_0 =
  match rest1 with
  | [] =>
   some (c2_0_0, c2_1_1)
  | v30 :: rest1 =>
   bind (slices_Clone_int_int v30.sub) fun v31 =>
   bind (app c2_1_1 ([(XN.mk v30.kind v30.name v30.type_ v30.index v31)])) fun v32 =>
   hash_Twin_io_l1 rest1 v32 c2_0_0 := hash_Twin_io_l1'.eq_def (rest1, c2_1_1, c2_0_0)
def hash_Twin_io_j0 (a0 : AStore) (c2_0_0 : (List YN)) : Option ((List YN) × (List XN)) :=
 hash_Twin_io_l1 a0.terms ([] : List XN) c2_0_0
def hash_Twin_io_l0' (p : ((List YN) × (List YN) × AStore)) : Option ((List YN) × (List XN)) := match p with
 | (rest0, c2_0_0, a0) =>
  match rest0 with
  | [] =>
   hash_Twin_io_j0 a0 c2_0_0
  | v12 :: rest0 =>
   bind (slices_Clone_int_int v12.args) fun v13 =>
   bind (app c2_0_0 ([(YN.mk v12.var v12.name v13)])) fun v14 =>
   hash_Twin_io_l0' (rest0, v14, a0)
 partial_fixpoint
def hash_Twin_io_l0 (rest0 : (List YN)) (c2_0_0 : (List YN)) (a0 : AStore) : Option ((List YN) × (List XN)) := hash_Twin_io_l0' (rest0, c2_0_0, a0)
theorem hash_Twin_io_l0_eq (rest0 : (List YN)) (c2_0_0 : (List YN)) (a0 : AStore) : hash_Twin_io_l0 rest0 c2_0_0 a0 =
  match rest0 with
  | [] =>
   hash_Twin_io_j0 a0 c2_0_0
  | v12 :: rest0 =>
   bind (slices_Clone_int_int v12.args) fun v13 =>
   bind (app c2_0_0 ([(YN.mk v12.var v12.name v13)])) fun v14 =>
   hash_Twin_io_l0 rest0 v14 a0 := hash_Twin_io_l0'.eq_def (rest0, c2_0_0, a0)
def hash_Twin_io (a0 : AStore) : Option ((List YN) × (List XN)) :=
 hash_Twin_io_l0 a0.types ([] : List YN) a0
def types_name_l0' (p : (Int × ByteArray)) : Option Bool := match p with
 | (t7_0, a0) =>
  if t7_0 < (a0.size : Int) then
   bind (getb a0 t7_0) fun v9 =>
   if v9 = 40 then
    some false
   else
   if v9 = 41 then
    some false
   else
   if v9 = 44 then
    some false
   else
   if v9 = 58 then
    some false
   else
   if v9 = 92 then
    some false
   else
   if v9 = 46 then
    some false
   else
   if v9 = 34 then
    some false
   else
   if v9 < 33 then
    some false
   else
   if 126 < v9 then
    some false
   else
   bind (some (IntKind.wrap .i64 (t7_0 + 1))) fun v19 =>
   types_name_l0' (v19, a0)
  else
  if ¬ a0 = ByteArray.empty then
   some (decide ((a0.size : Int) ≤ 30))
  else
  some false
 partial_fixpoint
def types_name_l0 (t7_0 : Int) (a0 : ByteArray) : Option Bool := types_name_l0' (t7_0, a0)
theorem types_name_l0_eq (t7_0 : Int) (a0 : ByteArray) : types_name_l0 t7_0 a0 =
  if t7_0 < (a0.size : Int) then
   bind (getb a0 t7_0) fun v9 =>
   if v9 = 40 then
    some false
   else
   if v9 = 41 then
    some false
   else
   if v9 = 44 then
    some false
   else
   if v9 = 58 then
    some false
   else
   if v9 = 92 then
    some false
   else
   if v9 = 46 then
    some false
   else
   if v9 = 34 then
    some false
   else
   if v9 < 33 then
    some false
   else
   if 126 < v9 then
    some false
   else
   bind (some (IntKind.wrap .i64 (t7_0 + 1))) fun v19 =>
   types_name_l0 v19 a0
  else
  if ¬ a0 = ByteArray.empty then
   some (decide ((a0.size : Int) ≤ 30))
  else
  some false := types_name_l0'.eq_def (t7_0, a0)
def types_name (a0 : ByteArray) : Option Bool :=
 types_name_l0 0 a0
def types_variable (a0 : ByteArray) : Option Bool :=
 bind (types_name a0) fun v1 =>
 if v1 = true then
  bind (getb a0 0) fun v3 =>
  some (decide (v3 = 39))
 else
 some false
mutual
def types_measure' (a0 : Ty) : Option (Int × Int × Bool) :=
 if a0.v = true then
  bind (types_variable a0.name) fun v2 =>
  if v2 = true then
   if ((Ty.Ds a0.args).length : Int) = 0 then
    types_measure_j0' (true, a0)
   else
   types_measure_j0' (false, a0)
  else
  types_measure_j0' (false, a0)
 else
 bind (types_name a0.name) fun v2 =>
 if v2 = true then
  bind (getb a0.name 0) fun v4 =>
  if ¬ v4 = 39 then
   if ((Ty.Ds a0.args).length : Int) ≤ 8 then
    types_measure_j0' (true, a0)
   else
   types_measure_j0' (false, a0)
  else
  types_measure_j0' (false, a0)
 else
 types_measure_j0' (false, a0)
 partial_fixpoint
def types_measure_j0' (p : (Bool × Ty)) : Option (Int × Int × Bool) := match p with
 | (t4_1, a0) =>
  types_measure_l0' (a0.args, 1, 0, t4_1)
 partial_fixpoint
def types_measure_l0' (p : ((List Ty) × Int × Int × Bool)) : Option (Int × Int × Bool) := match p with
 | (rest0, t2_0, t3_0, t4_0) =>
  match rest0 with
  | [] =>
   bind (some (IntKind.wrap .i64 (t3_0 + 1))) fun v41 =>
   some (t2_0, v41, t4_0)
  | v40 :: rest0 =>
   bind (types_measure' v40) fun v41 =>
   bind (some (IntKind.wrap .i64 (t2_0 + v41.1))) fun v42 =>
   if t4_0 = true then
    types_measure_l0' (rest0, v42, (max t3_0 v41.2.1), v41.2.2)
   else
   types_measure_l0' (rest0, v42, (max t3_0 v41.2.1), false)
 partial_fixpoint
end
def types_measure (a0 : Ty) : Option (Int × Int × Bool) := types_measure' a0
def types_measure_j0 (t4_1 : Bool) (a0 : Ty) : Option (Int × Int × Bool) := types_measure_j0' (t4_1, a0)
def types_measure_l0 (rest0 : (List Ty)) (t2_0 : Int) (t3_0 : Int) (t4_0 : Bool) : Option (Int × Int × Bool) := types_measure_l0' (rest0, t2_0, t3_0, t4_0)
theorem types_measure_eq (a0 : Ty) : types_measure a0 =
  if a0.v = true then
   bind (types_variable a0.name) fun v2 =>
   if v2 = true then
    if ((Ty.Ds a0.args).length : Int) = 0 then
     types_measure_j0 true a0
    else
    types_measure_j0 false a0
   else
   types_measure_j0 false a0
  else
  bind (types_name a0.name) fun v2 =>
  if v2 = true then
   bind (getb a0.name 0) fun v4 =>
   if ¬ v4 = 39 then
    if ((Ty.Ds a0.args).length : Int) ≤ 8 then
     types_measure_j0 true a0
    else
    types_measure_j0 false a0
   else
   types_measure_j0 false a0
  else
  types_measure_j0 false a0 := types_measure'.eq_def a0
theorem types_measure_j0_eq (t4_1 : Bool) (a0 : Ty) : types_measure_j0 t4_1 a0 =
  types_measure_l0 a0.args 1 0 t4_1 := types_measure_j0'.eq_def (t4_1, a0)
theorem types_measure_l0_eq (rest0 : (List Ty)) (t2_0 : Int) (t3_0 : Int) (t4_0 : Bool) : types_measure_l0 rest0 t2_0 t3_0 t4_0 =
  match rest0 with
  | [] =>
   bind (some (IntKind.wrap .i64 (t3_0 + 1))) fun v41 =>
   some (t2_0, v41, t4_0)
  | v40 :: rest0 =>
   bind (types_measure v40) fun v41 =>
   bind (some (IntKind.wrap .i64 (t2_0 + v41.1))) fun v42 =>
   if t4_0 = true then
    types_measure_l0 rest0 v42 (max t3_0 v41.2.1) v41.2.2
   else
   types_measure_l0 rest0 v42 (max t3_0 v41.2.1) false := types_measure_l0'.eq_def (rest0, t2_0, t3_0, t4_0)
def types_Check (a0 : Ty) : Option Int :=
 bind (types_measure a0) fun v1 =>
 if v1.2.2 = true then
  if 500 < v1.1 then
   some 10
  else
  if 200 < v1.2.1 then
   some 10
  else
  some 0
 else
 some 10
def hash_below_1 (a0 : Int) (a1 : Int) : Option Bool :=
 if a0 < 0 then
  some true
 else
 some (decide (a1 ≤ a0))
def slices_IndexFunc_int_int__hash_below_1_l0' (p : ((List Int) × Nat × Int)) : Option Int := match p with
 | (rest0, k0, a1) =>
  match rest0 with
  | [] =>
   some (-1)
  | v9 :: rest0 =>
   bind (hash_below_1 v9 a1) fun v10 =>
   if v10 = true then
    some (k0 : Int)
   else
   slices_IndexFunc_int_int__hash_below_1_l0' (rest0, k0 + 1, a1)
 partial_fixpoint
def slices_IndexFunc_int_int__hash_below_1_l0 (rest0 : (List Int)) (k0 : Nat) (a1 : Int) : Option Int := slices_IndexFunc_int_int__hash_below_1_l0' (rest0, k0, a1)
theorem slices_IndexFunc_int_int__hash_below_1_l0_eq (rest0 : (List Int)) (k0 : Nat) (a1 : Int) : slices_IndexFunc_int_int__hash_below_1_l0 rest0 k0 a1 =
  match rest0 with
  | [] =>
   some (-1)
  | v9 :: rest0 =>
   bind (hash_below_1 v9 a1) fun v10 =>
   if v10 = true then
    some (k0 : Int)
   else
   slices_IndexFunc_int_int__hash_below_1_l0 rest0 (k0 + 1) a1 := slices_IndexFunc_int_int__hash_below_1_l0'.eq_def (rest0, k0, a1)
def slices_IndexFunc_int_int__hash_below_1 (a0 : (List Int)) (a1 : Int) : Option Int :=
 slices_IndexFunc_int_int__hash_below_1_l0 a0 0 a1
def slices_ContainsFunc_int_int__hash_below_1 (a0 : (List Int)) (a1 : Int) : Option Bool :=
 bind (slices_IndexFunc_int_int__hash_below_1 a0 a1) fun v1 =>
 some (decide (0 ≤ v1))
def hash_below (a0 : (List Int)) (a1 : Int) : Option Bool :=
 bind (slices_ContainsFunc_int_int__hash_below_1 a0 a1) fun v1 =>
 some (!v1)
def hash_measure_l0' (p : ((List Int) × Int × Int × (List Int) × (List Int))) : Option (Int × Int) := match p with
 | (rest0, t6_0, t7_0, a0, a1) =>
  match rest0 with
  | [] =>
   bind (some (IntKind.wrap .i64 (t6_0 + 1))) fun v14 =>
   bind (some (IntKind.wrap .i64 (t7_0 + 1))) fun v15 =>
   some ((min v14 32001), (min v15 301))
  | v13 :: rest0 =>
   bind (geti a0 v13) fun v14 =>
   bind (some (IntKind.wrap .i64 (t6_0 + v14))) fun v15 =>
   bind (geti a1 v13) fun v16 =>
   hash_measure_l0' (rest0, v15, (max t7_0 v16), a0, a1)
 partial_fixpoint
def hash_measure_l0 (rest0 : (List Int)) (t6_0 : Int) (t7_0 : Int) (a0 : (List Int)) (a1 : (List Int)) : Option (Int × Int) := hash_measure_l0' (rest0, t6_0, t7_0, a0, a1)
theorem hash_measure_l0_eq (rest0 : (List Int)) (t6_0 : Int) (t7_0 : Int) (a0 : (List Int)) (a1 : (List Int)) : hash_measure_l0 rest0 t6_0 t7_0 a0 a1 =
  match rest0 with
  | [] =>
   bind (some (IntKind.wrap .i64 (t6_0 + 1))) fun v14 =>
   bind (some (IntKind.wrap .i64 (t7_0 + 1))) fun v15 =>
   some ((min v14 32001), (min v15 301))
  | v13 :: rest0 =>
   bind (geti a0 v13) fun v14 =>
   bind (some (IntKind.wrap .i64 (t6_0 + v14))) fun v15 =>
   bind (geti a1 v13) fun v16 =>
   hash_measure_l0 rest0 v15 (max t7_0 v16) a0 a1 := hash_measure_l0'.eq_def (rest0, t6_0, t7_0, a0, a1)
def hash_measure (a0 : (List Int)) (a1 : (List Int)) (a2 : (List Int)) : Option (Int × Int) :=
 hash_measure_l0 a2 0 0 a0 a1
def hash_keyType (a0 : YN) : Option YK :=
 some (YK.mk a0.var a0.name ((intDs_i64 a0.args).length : Int) (Arr8_i64.mk (a0.args.getD 0 0) (a0.args.getD 1 0) (a0.args.getD 2 0) (a0.args.getD 3 0) (a0.args.getD 4 0) (a0.args.getD 5 0) (a0.args.getD 6 0) (a0.args.getD 7 0)))
mutual
def hash_table_addTypes_io_l0' (p : ((List YN) × Nat × (List Int) × (List Int) × (List (YK × Int)) × (List YN) × (List XN) × (List (XK × Int)))) : Option (Bool × (List YN) × (List XN) × (List (YK × Int)) × (List (XK × Int))) := match p with
 | (rest0, k0, t5_0, t6_0, m3_0, b0_0, b0_1, b4) =>
  match rest0 with
  | [] =>
   some (true, b0_0, b0_1, m3_0, b4)
  | v24 :: rest0 =>
   if 8 < ((intDs_i64 v24.args).length : Int) then
    some (false, b0_0, b0_1, m3_0, b4)
   else
   if v24.var = true then
    if 0 < ((intDs_i64 v24.args).length : Int) then
     some (false, b0_0, b0_1, m3_0, b4)
    else
    bind (types_Check (Ty.mk v24.var v24.name ([] : List Ty))) fun v28 =>
    if ¬ v28 = 0 then
     some (false, b0_0, b0_1, m3_0, b4)
    else
    bind (hash_below v24.args (k0 : Int)) fun v30 =>
    if v30 = true then
     hash_table_addTypes_io_j0' (b0_0, b0_1, b4, k0, m3_0, rest0, t5_0, t6_0, v24)
    else
    some (false, b0_0, b0_1, m3_0, b4)
   else
   bind (types_Check (Ty.mk v24.var v24.name ([] : List Ty))) fun v27 =>
   if ¬ v27 = 0 then
    some (false, b0_0, b0_1, m3_0, b4)
   else
   bind (hash_below v24.args (k0 : Int)) fun v29 =>
   if v29 = true then
    hash_table_addTypes_io_j0' (b0_0, b0_1, b4, k0, m3_0, rest0, t5_0, t6_0, v24)
   else
   some (false, b0_0, b0_1, m3_0, b4)
 partial_fixpoint
def hash_table_addTypes_io_j0' (p : ((List YN) × (List XN) × (List (XK × Int)) × Nat × (List (YK × Int)) × (List YN) × (List Int) × (List Int) × YN)) : Option (Bool × (List YN) × (List XN) × (List (YK × Int)) × (List (XK × Int))) := match p with
 | (b0_0, b0_1, b4, k0, m3_0, rest0, t5_0, t6_0, v24) =>
  bind (hash_measure t5_0 t6_0 v24.args) fun v32 =>
  if 500 < v32.1 then
   some (false, b0_0, b0_1, m3_0, b4)
  else
  if 200 < v32.2 then
   some (false, b0_0, b0_1, m3_0, b4)
  else
  bind (app t5_0 ([v32.1])) fun v35 =>
  bind (app t6_0 ([v32.2])) fun v36 =>
  bind (hash_keyType v24) fun v37 =>
  match mget m3_0 v37 with
  | some v38 =>
   some (false, b0_0, b0_1, m3_0, b4)
  | none =>
   bind (hash_keyType v24) fun v39 =>
   bind (some (mput m3_0 v39 (k0 : Int))) fun v40 =>
   hash_table_addTypes_io_l0' (rest0, k0 + 1, v35, v36, v40, b0_0, b0_1, b4)
 partial_fixpoint
end
def hash_table_addTypes_io_l0 (rest0 : (List YN)) (k0 : Nat) (t5_0 : (List Int)) (t6_0 : (List Int)) (m3_0 : (List (YK × Int))) (b0_0 : (List YN)) (b0_1 : (List XN)) (b4 : (List (XK × Int))) : Option (Bool × (List YN) × (List XN) × (List (YK × Int)) × (List (XK × Int))) := hash_table_addTypes_io_l0' (rest0, k0, t5_0, t6_0, m3_0, b0_0, b0_1, b4)
def hash_table_addTypes_io_j0 (b0_0 : (List YN)) (b0_1 : (List XN)) (b4 : (List (XK × Int))) (k0 : Nat) (m3_0 : (List (YK × Int))) (rest0 : (List YN)) (t5_0 : (List Int)) (t6_0 : (List Int)) (v24 : YN) : Option (Bool × (List YN) × (List XN) × (List (YK × Int)) × (List (XK × Int))) := hash_table_addTypes_io_j0' (b0_0, b0_1, b4, k0, m3_0, rest0, t5_0, t6_0, v24)
theorem hash_table_addTypes_io_l0_eq (rest0 : (List YN)) (k0 : Nat) (t5_0 : (List Int)) (t6_0 : (List Int)) (m3_0 : (List (YK × Int))) (b0_0 : (List YN)) (b0_1 : (List XN)) (b4 : (List (XK × Int))) : hash_table_addTypes_io_l0 rest0 k0 t5_0 t6_0 m3_0 b0_0 b0_1 b4 =
  match rest0 with
  | [] =>
   some (true, b0_0, b0_1, m3_0, b4)
  | v24 :: rest0 =>
   if 8 < ((intDs_i64 v24.args).length : Int) then
    some (false, b0_0, b0_1, m3_0, b4)
   else
   if v24.var = true then
    if 0 < ((intDs_i64 v24.args).length : Int) then
     some (false, b0_0, b0_1, m3_0, b4)
    else
    bind (types_Check (Ty.mk v24.var v24.name ([] : List Ty))) fun v28 =>
    if ¬ v28 = 0 then
     some (false, b0_0, b0_1, m3_0, b4)
    else
    bind (hash_below v24.args (k0 : Int)) fun v30 =>
    if v30 = true then
     hash_table_addTypes_io_j0 b0_0 b0_1 b4 k0 m3_0 rest0 t5_0 t6_0 v24
    else
    some (false, b0_0, b0_1, m3_0, b4)
   else
   bind (types_Check (Ty.mk v24.var v24.name ([] : List Ty))) fun v27 =>
   if ¬ v27 = 0 then
    some (false, b0_0, b0_1, m3_0, b4)
   else
   bind (hash_below v24.args (k0 : Int)) fun v29 =>
   if v29 = true then
    hash_table_addTypes_io_j0 b0_0 b0_1 b4 k0 m3_0 rest0 t5_0 t6_0 v24
   else
   some (false, b0_0, b0_1, m3_0, b4) := hash_table_addTypes_io_l0'.eq_def (rest0, k0, t5_0, t6_0, m3_0, b0_0, b0_1, b4)
theorem hash_table_addTypes_io_j0_eq (b0_0 : (List YN)) (b0_1 : (List XN)) (b4 : (List (XK × Int))) (k0 : Nat) (m3_0 : (List (YK × Int))) (rest0 : (List YN)) (t5_0 : (List Int)) (t6_0 : (List Int)) (v24 : YN) : hash_table_addTypes_io_j0 b0_0 b0_1 b4 k0 m3_0 rest0 t5_0 t6_0 v24 =
  bind (hash_measure t5_0 t6_0 v24.args) fun v32 =>
  if 500 < v32.1 then
   some (false, b0_0, b0_1, m3_0, b4)
  else
  if 200 < v32.2 then
   some (false, b0_0, b0_1, m3_0, b4)
  else
  bind (app t5_0 ([v32.1])) fun v35 =>
  bind (app t6_0 ([v32.2])) fun v36 =>
  bind (hash_keyType v24) fun v37 =>
  match mget m3_0 v37 with
  | some v38 =>
   some (false, b0_0, b0_1, m3_0, b4)
  | none =>
   bind (hash_keyType v24) fun v39 =>
   bind (some (mput m3_0 v39 (k0 : Int))) fun v40 =>
   hash_table_addTypes_io_l0 rest0 (k0 + 1) v35 v36 v40 b0_0 b0_1 b4 := hash_table_addTypes_io_j0'.eq_def (b0_0, b0_1, b4, k0, m3_0, rest0, t5_0, t6_0, v24)
def hash_table_addTypes_io (a1 : (List YN)) (b0_0 : (List YN)) (b0_1 : (List XN)) (b3 : (List (YK × Int))) (b4 : (List (XK × Int))) : Option (Bool × (List YN) × (List XN) × (List (YK × Int)) × (List (XK × Int))) :=
 hash_table_addTypes_io_l0 a1 0 ([] : List Int) ([] : List Int) b3 b0_0 b0_1 b4
def types_Bool : Option Ty :=
 some (Ty.mk false (ByteArray.mk #[98, 111, 111, 108]) ([] : List Ty))
def terms_named (a0 : ByteArray) : Option Bool :=
 bind (types_Check (Ty.mk false a0 ([] : List Ty))) fun v1 =>
 some (decide (v1 = 0))
mutual
def types_Twin' (a0 : Ty) : Option Ty :=
 if 0 < ((Ty.Ds a0.args).length : Int) then
  bind (mkn (Ty.mk false ByteArray.empty []) ((Ty.Ds a0.args).length : Int)) fun v2 =>
  types_Twin_j0' (a0, v2)
 else
 types_Twin_j0b' a0
 partial_fixpoint
def types_Twin_j0' (p : (Ty × (List Ty))) : Option Ty := match p with
 | (a0, v2) =>
  types_Twin_l0' (0, v2, a0)
 partial_fixpoint
def types_Twin_l0' (p : (Int × (List Ty) × Ty)) : Option Ty := match p with
 | (t18_0, a2_0, a0) =>
  if t18_0 < ((Ty.Ds a0.args).length : Int) then
   bind (geti a0.args t18_0) fun v20 =>
   bind (types_Twin' v20) fun v21 =>
   bind (wantb (0 ≤ t18_0 ∧ t18_0 < (a2_0.length : Int))) fun g23 =>
   bind (seti a2_0 t18_0 v21) fun v24 =>
   bind (some (IntKind.wrap .i64 (t18_0 + 1))) fun v25 =>
   types_Twin_l0' (v25, v24, a0)
  else
  some (Ty.mk a0.v a0.name a2_0)
 partial_fixpoint
def types_Twin_j0b' (a0 : Ty) : Option Ty :=
 types_Twin_l0b' a0
 partial_fixpoint
def types_Twin_l0b' (a0 : Ty) : Option Ty :=
 if 0 < ((Ty.Ds a0.args).length : Int) then
  bind (geti a0.args 0) fun v20 =>
  bind (types_Twin' v20) fun v21 =>
  none
 else
 some (Ty.mk a0.v a0.name ([] : List Ty))
 partial_fixpoint
end
def types_Twin (a0 : Ty) : Option Ty := types_Twin' a0
def types_Twin_j0 (a0 : Ty) (v2 : (List Ty)) : Option Ty := types_Twin_j0' (a0, v2)
def types_Twin_l0 (t18_0 : Int) (a2_0 : (List Ty)) (a0 : Ty) : Option Ty := types_Twin_l0' (t18_0, a2_0, a0)
def types_Twin_j0b (a0 : Ty) : Option Ty := types_Twin_j0b' a0
def types_Twin_l0b (a0 : Ty) : Option Ty := types_Twin_l0b' a0
theorem types_Twin_eq (a0 : Ty) : types_Twin a0 =
  if 0 < ((Ty.Ds a0.args).length : Int) then
   bind (mkn (Ty.mk false ByteArray.empty []) ((Ty.Ds a0.args).length : Int)) fun v2 =>
   types_Twin_j0 a0 v2
  else
  types_Twin_j0b a0 := types_Twin'.eq_def a0
theorem types_Twin_j0_eq (a0 : Ty) (v2 : (List Ty)) : types_Twin_j0 a0 v2 =
  types_Twin_l0 0 v2 a0 := types_Twin_j0'.eq_def (a0, v2)
theorem types_Twin_l0_eq (t18_0 : Int) (a2_0 : (List Ty)) (a0 : Ty) : types_Twin_l0 t18_0 a2_0 a0 =
  if t18_0 < ((Ty.Ds a0.args).length : Int) then
   bind (geti a0.args t18_0) fun v20 =>
   bind (types_Twin v20) fun v21 =>
   bind (wantb (0 ≤ t18_0 ∧ t18_0 < (a2_0.length : Int))) fun g23 =>
   bind (seti a2_0 t18_0 v21) fun v24 =>
   bind (some (IntKind.wrap .i64 (t18_0 + 1))) fun v25 =>
   types_Twin_l0 v25 v24 a0
  else
  some (Ty.mk a0.v a0.name a2_0) := types_Twin_l0'.eq_def (t18_0, a2_0, a0)
theorem types_Twin_j0b_eq (a0 : Ty) : types_Twin_j0b a0 =
  types_Twin_l0b a0 := types_Twin_j0b'.eq_def a0
theorem types_Twin_l0b_eq (a0 : Ty) : types_Twin_l0b a0 =
  if 0 < ((Ty.Ds a0.args).length : Int) then
   bind (geti a0.args 0) fun v20 =>
   bind (types_Twin v20) fun v21 =>
   none
  else
  some (Ty.mk a0.v a0.name ([] : List Ty)) := types_Twin_l0b'.eq_def a0
def terms_leaf (a0 : Int) (a1 : ByteArray) (a2 : Ty) : Option (Tm × Int) :=
 bind (types_Check a2) fun v1 =>
 if ¬ v1 = 0 then
  some ((Tm.mk 0 ByteArray.empty (Ty.mk false ByteArray.empty ([] : List Ty)) 0 ([] : List Tm)), v1)
 else
 bind (terms_named a1) fun v3 =>
 if v3 = true then
  bind (types_Twin a2) fun v5 =>
  some ((Tm.mk a0 a1 v5 0 ([] : List Tm)), 0)
 else
 some ((Tm.mk 0 ByteArray.empty (Ty.mk false ByteArray.empty ([] : List Ty)) 0 ([] : List Tm)), 20)
def terms_Var (a0 : ByteArray) (a1 : Ty) : Option (Tm × Int) :=
 bind (terms_leaf 1 a0 a1) fun v1 =>
 some (v1.1, v1.2)
def hash_fine_j2 (a0 : XN) (a2 : Int) (v21 : (Tm × Int)) : Option Bool :=
 if a0.index = 0 then
  if 0 ≤ a0.type_ then
   if a0.type_ < a2 then
    some (decide (v21.2 = 0))
   else
   some false
  else
  some false
 else
 some false
def hash_fine_j1 (t9_1 : Int) (t10_1 : Bool) (a0 : XN) (a1 : Int) (a2 : Int) (t7_0 : Bool) : Option Bool :=
 if t10_1 = true then
  if ¬ ((intDs_i64 a0.sub).length : Int) = t9_1 then
   some false
  else
  bind (hash_below a0.sub a1) fun v16 =>
  if v16 = true then
   if a0.kind = 3 then
    if a0.type_ = (-1) then
     if a0.name = ByteArray.empty then
      if 0 ≤ a0.index then
       some (decide (a0.index < 300))
      else
      some false
     else
     some false
    else
    some false
   else
   if t7_0 = true then
    bind (types_Bool) fun v20 =>
    bind (terms_Var a0.name v20) fun v21 =>
    hash_fine_j2 a0 a2 v21
   else
   if a0.type_ = (-1) then
    if a0.name = ByteArray.empty then
     some (decide (a0.index = 0))
    else
    some false
   else
   some false
  else
  some false
 else
 some false
def hash_fine_j0 (t7_0 : Bool) (a0 : XN) (a1 : Int) (a2 : Int) : Option Bool :=
 bind (some (mput ([] : List (Int × Int)) 1 0)) fun v8 =>
 bind (some (mput v8 2 0)) fun v9 =>
 bind (some (mput v9 3 0)) fun v10 =>
 bind (some (mput v10 4 2)) fun v11 =>
 bind (some (mput v11 5 1)) fun v12 =>
 match mget v12 a0.kind with
 | some v13 =>
  hash_fine_j1 v13 true a0 a1 a2 t7_0
 | none =>
  hash_fine_j1 0 false a0 a1 a2 t7_0
def hash_fine (a0 : XN) (a1 : Int) (a2 : Int) : Option Bool :=
 if ¬ a0.kind = 3 then
  if ¬ a0.kind = 4 then
   hash_fine_j0 true a0 a1 a2
  else
  hash_fine_j0 false a0 a1 a2
 else
 hash_fine_j0 false a0 a1 a2
def hash_keyTerm_j1 (c2_5_1 : Int) (a0 : XN) (c2_1_0 : ByteArray) : Option XK :=
 if 1 < ((intDs_i64 a0.sub).length : Int) then
  bind (geti a0.sub 1) fun v7 =>
  some (XK.mk a0.kind c2_1_0 a0.type_ a0.index ((intDs_i64 a0.sub).length : Int) c2_5_1 v7)
 else
 some (XK.mk a0.kind c2_1_0 a0.type_ a0.index ((intDs_i64 a0.sub).length : Int) c2_5_1 0)
def hash_keyTerm_j0 (c2_1_0 : ByteArray) (a0 : XN) : Option XK :=
 if 0 < ((intDs_i64 a0.sub).length : Int) then
  bind (geti a0.sub 0) fun v4 =>
  hash_keyTerm_j1 v4 a0 c2_1_0
 else
 hash_keyTerm_j1 0 a0 c2_1_0
def hash_keyTerm (a0 : XN) : Option XK :=
 if a0.kind = 5 then
  hash_keyTerm_j0 ByteArray.empty a0
 else
 hash_keyTerm_j0 a0.name a0
def hash_open_io_l0' (p : ((List XN) × Nat × (List (XK × Int)) × AStore × (Bool × (List YN) × (List XN) × (List (YK × Int)) × (List (XK × Int))))) : Option (Unit ⊕ (Unit ⊕ ((List YN) × (List XN) × (List (YK × Int)) × (List (XK × Int))))) := match p with
 | (rest0, k0, m4_0, a0, v4) =>
  match rest0 with
  | [] =>
   some (.inr (.inr ((v4.2.1, v4.2.2.1, v4.2.2.2.1, m4_0))))
  | v34 :: rest0 =>
   bind (hash_fine v34 (k0 : Int) ((YN.Ds a0.types).length : Int)) fun v35 =>
   if v35 = true then
    bind (hash_keyTerm v34) fun v37 =>
    match mget m4_0 v37 with
    | some v38 =>
     some (.inr (.inl (())))
    | none =>
     bind (hash_keyTerm v34) fun v39 =>
     bind (some (mput m4_0 v39 (k0 : Int))) fun v40 =>
     hash_open_io_l0' (rest0, k0 + 1, v40, a0, v4)
   else
   some (.inr (.inl (())))
 partial_fixpoint
def hash_open_io_l0 (rest0 : (List XN)) (k0 : Nat) (m4_0 : (List (XK × Int))) (a0 : AStore) (v4 : (Bool × (List YN) × (List XN) × (List (YK × Int)) × (List (XK × Int)))) : Option (Unit ⊕ (Unit ⊕ ((List YN) × (List XN) × (List (YK × Int)) × (List (XK × Int))))) := hash_open_io_l0' (rest0, k0, m4_0, a0, v4)
theorem hash_open_io_l0_eq (rest0 : (List XN)) (k0 : Nat) (m4_0 : (List (XK × Int))) (a0 : AStore) (v4 : (Bool × (List YN) × (List XN) × (List (YK × Int)) × (List (XK × Int)))) : hash_open_io_l0 rest0 k0 m4_0 a0 v4 =
  match rest0 with
  | [] =>
   some (.inr (.inr ((v4.2.1, v4.2.2.1, v4.2.2.2.1, m4_0))))
  | v34 :: rest0 =>
   bind (hash_fine v34 (k0 : Int) ((YN.Ds a0.types).length : Int)) fun v35 =>
   if v35 = true then
    bind (hash_keyTerm v34) fun v37 =>
    match mget m4_0 v37 with
    | some v38 =>
     some (.inr (.inl (())))
    | none =>
     bind (hash_keyTerm v34) fun v39 =>
     bind (some (mput m4_0 v39 (k0 : Int))) fun v40 =>
     hash_open_io_l0 rest0 (k0 + 1) v40 a0 v4
   else
   some (.inr (.inl (()))) := hash_open_io_l0'.eq_def (rest0, k0, m4_0, a0, v4)
def hash_open_io (a0 : AStore) : Option (Unit ⊕ (Unit ⊕ ((List YN) × (List XN) × (List (YK × Int)) × (List (XK × Int))))) :=
 if 4096 < ((YN.Ds a0.types).length : Int) then
  some (.inl (()))
 else
 if 4096 < ((XN.Ds a0.terms).length : Int) then
  some (.inl (()))
 else
 bind (hash_Twin_io a0) fun v3 =>
 bind (hash_table_addTypes_io a0.types v3.1 v3.2 ([] : List (YK × Int)) ([] : List (XK × Int))) fun v4 =>
 if v4.1 = true then
  hash_open_io_l0 a0.terms 0 v4.2.2.2.2 a0 v4
 else
 some (.inr (.inl (())))
mutual
def hash_table_typ_io' (p : (Int × (List YN) × (List XN) × (List (YK × Int)) × (List (XK × Int)))) : Option (Ty × (List YN) × (List XN) × (List (YK × Int)) × (List (XK × Int))) := match p with
 | (a1, b0_0, b0_1, b3, b4) =>
  bind (geti b0_0 a1) fun v1 =>
  hash_table_typ_io_l0' (v1.args, b0_0, b0_1, b3, b4, ([] : List Ty), v1)
 partial_fixpoint
def hash_table_typ_io_l0' (p : ((List Int) × (List YN) × (List XN) × (List (YK × Int)) × (List (XK × Int)) × (List Ty) × YN)) : Option (Ty × (List YN) × (List XN) × (List (YK × Int)) × (List (XK × Int))) := match p with
 | (rest0, c0_0_0, c0_1_0, m3_0, m4_0, c7_2_0, v1) =>
  match rest0 with
  | [] =>
   some ((Ty.mk v1.var v1.name c7_2_0), c0_0_0, c0_1_0, m3_0, m4_0)
  | v26 :: rest0 =>
   bind (hash_table_typ_io' (v26, c0_0_0, c0_1_0, m3_0, m4_0)) fun v27 =>
   bind (app c7_2_0 ([v27.1])) fun v28 =>
   hash_table_typ_io_l0' (rest0, v27.2.1, v27.2.2.1, v27.2.2.2.1, v27.2.2.2.2, v28, v1)
 partial_fixpoint
end
def hash_table_typ_io (a1 : Int) (b0_0 : (List YN)) (b0_1 : (List XN)) (b3 : (List (YK × Int))) (b4 : (List (XK × Int))) : Option (Ty × (List YN) × (List XN) × (List (YK × Int)) × (List (XK × Int))) := hash_table_typ_io' (a1, b0_0, b0_1, b3, b4)
def hash_table_typ_io_l0 (rest0 : (List Int)) (c0_0_0 : (List YN)) (c0_1_0 : (List XN)) (m3_0 : (List (YK × Int))) (m4_0 : (List (XK × Int))) (c7_2_0 : (List Ty)) (v1 : YN) : Option (Ty × (List YN) × (List XN) × (List (YK × Int)) × (List (XK × Int))) := hash_table_typ_io_l0' (rest0, c0_0_0, c0_1_0, m3_0, m4_0, c7_2_0, v1)
theorem hash_table_typ_io_eq (a1 : Int) (b0_0 : (List YN)) (b0_1 : (List XN)) (b3 : (List (YK × Int))) (b4 : (List (XK × Int))) : hash_table_typ_io a1 b0_0 b0_1 b3 b4 =
  bind (geti b0_0 a1) fun v1 =>
  hash_table_typ_io_l0 v1.args b0_0 b0_1 b3 b4 ([] : List Ty) v1 := hash_table_typ_io'.eq_def (a1, b0_0, b0_1, b3, b4)
theorem hash_table_typ_io_l0_eq (rest0 : (List Int)) (c0_0_0 : (List YN)) (c0_1_0 : (List XN)) (m3_0 : (List (YK × Int))) (m4_0 : (List (XK × Int))) (c7_2_0 : (List Ty)) (v1 : YN) : hash_table_typ_io_l0 rest0 c0_0_0 c0_1_0 m3_0 m4_0 c7_2_0 v1 =
  match rest0 with
  | [] =>
   some ((Ty.mk v1.var v1.name c7_2_0), c0_0_0, c0_1_0, m3_0, m4_0)
  | v26 :: rest0 =>
   bind (hash_table_typ_io v26 c0_0_0 c0_1_0 m3_0 m4_0) fun v27 =>
   bind (app c7_2_0 ([v27.1])) fun v28 =>
   hash_table_typ_io_l0 rest0 v27.2.1 v27.2.2.1 v27.2.2.2.1 v27.2.2.2.2 v28 v1 := hash_table_typ_io_l0'.eq_def (rest0, c0_0_0, c0_1_0, m3_0, m4_0, c7_2_0, v1)
def hash_GetType_j0 : Option (Ty × Int) :=
 some ((Ty.mk false ByteArray.empty ([] : List Ty)), 4)
def hash_GetType_j0b : Option (Ty × Int) :=
 some ((Ty.mk false ByteArray.empty ([] : List Ty)), 8)
def hash_GetType_j0c (a1 : Int) (v4 : ((List YN) × (List XN) × (List (YK × Int)) × (List (XK × Int)))) : Option (Ty × Int) :=
 if a1 < 0 then
  some ((Ty.mk false ByteArray.empty ([] : List Ty)), 6)
 else
 if ((YN.Ds v4.1).length : Int) ≤ a1 then
  some ((Ty.mk false ByteArray.empty ([] : List Ty)), 6)
 else
 bind (hash_table_typ_io a1 v4.1 v4.2.1 v4.2.2.1 v4.2.2.2) fun v7 =>
 some (v7.1, 0)
def hash_GetType (a0 : AStore) (a1 : Int) : Option (Ty × Int) :=
 bind (hash_open_io a0) fun v1 =>
 match v1 with
 | .inl v2 =>
  hash_GetType_j0
 | .inr (.inl v3) =>
  hash_GetType_j0b
 | .inr (.inr v4) =>
  hash_GetType_j0c a1 v4
mutual
def r31_TypeAt' (p : (AStore × Int)) : Option Ty := match p with
 | (a0, a1) =>
  bind (geti a0.types a1) fun v1 =>
  bind (geti a0.types a1) fun v2 =>
  r31_TypeAt_l0' (0, ([] : List Ty), a0, a1, v1, v2)
 partial_fixpoint
def r31_TypeAt_l0' (p : (Int × (List Ty) × AStore × Int × YN × YN)) : Option Ty := match p with
 | (t6_0, c2_2_0, a0, a1, v1, v2) =>
  bind (geti a0.types a1) fun v10 =>
  if t6_0 < ((intDs_i64 v10.args).length : Int) then
   bind (geti a0.types a1) fun v12 =>
   bind (geti v12.args t6_0) fun v13 =>
   bind (r31_TypeAt' (a0, v13)) fun v14 =>
   bind (app c2_2_0 ([v14])) fun v15 =>
   bind (some (IntKind.wrap .i64 (t6_0 + 1))) fun v16 =>
   r31_TypeAt_l0' (v16, v15, a0, a1, v1, v2)
  else
  some (Ty.mk v1.var v2.name c2_2_0)
 partial_fixpoint
end
def r31_TypeAt (a0 : AStore) (a1 : Int) : Option Ty := r31_TypeAt' (a0, a1)
def r31_TypeAt_l0 (t6_0 : Int) (c2_2_0 : (List Ty)) (a0 : AStore) (a1 : Int) (v1 : YN) (v2 : YN) : Option Ty := r31_TypeAt_l0' (t6_0, c2_2_0, a0, a1, v1, v2)
theorem r31_TypeAt_eq (a0 : AStore) (a1 : Int) : r31_TypeAt a0 a1 =
  bind (geti a0.types a1) fun v1 =>
  bind (geti a0.types a1) fun v2 =>
  r31_TypeAt_l0 0 ([] : List Ty) a0 a1 v1 v2 := r31_TypeAt'.eq_def (a0, a1)
theorem r31_TypeAt_l0_eq (t6_0 : Int) (c2_2_0 : (List Ty)) (a0 : AStore) (a1 : Int) (v1 : YN) (v2 : YN) : r31_TypeAt_l0 t6_0 c2_2_0 a0 a1 v1 v2 =
  bind (geti a0.types a1) fun v10 =>
  if t6_0 < ((intDs_i64 v10.args).length : Int) then
   bind (geti a0.types a1) fun v12 =>
   bind (geti v12.args t6_0) fun v13 =>
   bind (r31_TypeAt a0 v13) fun v14 =>
   bind (app c2_2_0 ([v14])) fun v15 =>
   bind (some (IntKind.wrap .i64 (t6_0 + 1))) fun v16 =>
   r31_TypeAt_l0 v16 v15 a0 a1 v1 v2
  else
  some (Ty.mk v1.var v2.name c2_2_0) := r31_TypeAt_l0'.eq_def (t6_0, c2_2_0, a0, a1, v1, v2)
def r31_GetType_j0 (t6_0 : Int) (a0 : AStore) (a1 : Int) : Option (Ty × Int) :=
 if ¬ t6_0 = 0 then
  some ((Ty.mk false ByteArray.empty ([] : List Ty)), t6_0)
 else
 bind (r31_TypeAt a0 a1) fun v8 =>
 some (v8, 0)
def r31_GetType (a0 : AStore) (a1 : Int) : Option (Ty × Int) :=
 bind (r31_Check a0) fun v1 =>
 if v1 = 0 then
  if a1 < 0 then
   r31_GetType_j0 6 a0 a1
  else
  if ((YN.Ds a0.types).length : Int) ≤ a1 then
   r31_GetType_j0 6 a0 a1
  else
  r31_GetType_j0 v1 a0 a1
 else
 r31_GetType_j0 v1 a0 a1
def hash_table_size_io_j0 (a1 : Int) (b0_0 : (List YN)) (b0_1 : (List XN)) (b3 : (List (YK × Int))) (b4 : (List (XK × Int))) (t6_0 : (List Int)) (t7_0 : (List Int)) : Option (Int × Int × (List YN) × (List XN) × (List (YK × Int)) × (List (XK × Int))) :=
 bind (geti t6_0 a1) fun v34 =>
 if 32000 < v34 then
  some (0, 21, b0_0, b0_1, b3, b4)
 else
 bind (geti t7_0 a1) fun v36 =>
 if 300 < v36 then
  some (0, 21, b0_0, b0_1, b3, b4)
 else
 bind (geti t6_0 a1) fun v38 =>
 some (v38, 0, b0_0, b0_1, b3, b4)
def hash_table_size_io_l0' (p : ((List XN) × (List Int) × (List Int) × Int × (List YN) × (List XN) × (List (YK × Int)) × (List (XK × Int)))) : Option (Int × Int × (List YN) × (List XN) × (List (YK × Int)) × (List (XK × Int))) := match p with
 | (rest0, t6_0, t7_0, a1, b0_0, b0_1, b3, b4) =>
  match rest0 with
  | [] =>
   hash_table_size_io_j0 a1 b0_0 b0_1 b3 b4 t6_0 t7_0
  | v34 :: rest0 =>
   bind (hash_measure t6_0 t7_0 v34.sub) fun v35 =>
   bind (app t6_0 ([v35.1])) fun v36 =>
   bind (app t7_0 ([v35.2])) fun v37 =>
   hash_table_size_io_l0' (rest0, v36, v37, a1, b0_0, b0_1, b3, b4)
 partial_fixpoint
def hash_table_size_io_l0 (rest0 : (List XN)) (t6_0 : (List Int)) (t7_0 : (List Int)) (a1 : Int) (b0_0 : (List YN)) (b0_1 : (List XN)) (b3 : (List (YK × Int))) (b4 : (List (XK × Int))) : Option (Int × Int × (List YN) × (List XN) × (List (YK × Int)) × (List (XK × Int))) := hash_table_size_io_l0' (rest0, t6_0, t7_0, a1, b0_0, b0_1, b3, b4)
theorem hash_table_size_io_l0_eq (rest0 : (List XN)) (t6_0 : (List Int)) (t7_0 : (List Int)) (a1 : Int) (b0_0 : (List YN)) (b0_1 : (List XN)) (b3 : (List (YK × Int))) (b4 : (List (XK × Int))) : hash_table_size_io_l0 rest0 t6_0 t7_0 a1 b0_0 b0_1 b3 b4 =
  match rest0 with
  | [] =>
   hash_table_size_io_j0 a1 b0_0 b0_1 b3 b4 t6_0 t7_0
  | v34 :: rest0 =>
   bind (hash_measure t6_0 t7_0 v34.sub) fun v35 =>
   bind (app t6_0 ([v35.1])) fun v36 =>
   bind (app t7_0 ([v35.2])) fun v37 =>
   hash_table_size_io_l0 rest0 v36 v37 a1 b0_0 b0_1 b3 b4 := hash_table_size_io_l0'.eq_def (rest0, t6_0, t7_0, a1, b0_0, b0_1, b3, b4)
def hash_table_size_io (a1 : Int) (b0_0 : (List YN)) (b0_1 : (List XN)) (b3 : (List (YK × Int))) (b4 : (List (XK × Int))) : Option (Int × Int × (List YN) × (List XN) × (List (YK × Int)) × (List (XK × Int))) :=
 if a1 < 0 then
  some (0, 6, b0_0, b0_1, b3, b4)
 else
 if ((XN.Ds b0_1).length : Int) ≤ a1 then
  some (0, 6, b0_0, b0_1, b3, b4)
 else
 bind (some (IntKind.wrap .i64 (a1 + 1))) fun v3 =>
 bind (cut b0_1 0 v3) fun v4 =>
 hash_table_size_io_l0 v4 ([] : List Int) ([] : List Int) a1 b0_0 b0_1 b3 b4
mutual
def hash_table_term_io' (p : (Int × (List YN) × (List XN) × (List (YK × Int)) × (List (XK × Int)))) : Option (Tm × (List YN) × (List XN) × (List (YK × Int)) × (List (XK × Int))) := match p with
 | (a1, b0_0, b0_1, b3, b4) =>
  bind (geti b0_1 a1) fun v1 =>
  if 0 ≤ v1.type_ then
   bind (hash_table_typ_io v1.type_ b0_0 b0_1 b3 b4) fun v3 =>
   hash_table_term_io_j0' (v3.2.1, v3.2.2.1, v3.2.2.2.1, v3.2.2.2.2, v3.1.v, v3.1.name, v3.1.args, v1)
  else
  hash_table_term_io_j0' (b0_0, b0_1, b3, b4, false, ByteArray.empty, ([] : List Ty), v1)
 partial_fixpoint
def hash_table_term_io_j0' (p : ((List YN) × (List XN) × (List (YK × Int)) × (List (XK × Int)) × Bool × ByteArray × (List Ty) × XN)) : Option (Tm × (List YN) × (List XN) × (List (YK × Int)) × (List (XK × Int))) := match p with
 | (c0_0_1, c0_1_1, m3_1, m4_1, c7_2_1, c7_3_1, c7_4_1, v1) =>
  hash_table_term_io_l0' (v1.sub, c0_0_1, c0_1_1, m3_1, m4_1, ([] : List Tm), c7_2_1, c7_3_1, c7_4_1, v1)
 partial_fixpoint
def hash_table_term_io_l0' (p : ((List Int) × (List YN) × (List XN) × (List (YK × Int)) × (List (XK × Int)) × (List Tm) × Bool × ByteArray × (List Ty) × XN)) : Option (Tm × (List YN) × (List XN) × (List (YK × Int)) × (List (XK × Int))) := match p with
 | (rest0, c0_0_0, c0_1_0, m3_0, m4_0, c7_6_0, c7_2_1, c7_3_1, c7_4_1, v1) =>
  match rest0 with
  | [] =>
   some ((Tm.mk v1.kind v1.name (Ty.mk c7_2_1 c7_3_1 c7_4_1) v1.index c7_6_0), c0_0_0, c0_1_0, m3_0, m4_0)
  | v36 :: rest0 =>
   bind (hash_table_term_io' (v36, c0_0_0, c0_1_0, m3_0, m4_0)) fun v37 =>
   bind (app c7_6_0 ([v37.1])) fun v38 =>
   hash_table_term_io_l0' (rest0, v37.2.1, v37.2.2.1, v37.2.2.2.1, v37.2.2.2.2, v38, c7_2_1, c7_3_1, c7_4_1, v1)
 partial_fixpoint
end
def hash_table_term_io (a1 : Int) (b0_0 : (List YN)) (b0_1 : (List XN)) (b3 : (List (YK × Int))) (b4 : (List (XK × Int))) : Option (Tm × (List YN) × (List XN) × (List (YK × Int)) × (List (XK × Int))) := hash_table_term_io' (a1, b0_0, b0_1, b3, b4)
def hash_table_term_io_j0 (c0_0_1 : (List YN)) (c0_1_1 : (List XN)) (m3_1 : (List (YK × Int))) (m4_1 : (List (XK × Int))) (c7_2_1 : Bool) (c7_3_1 : ByteArray) (c7_4_1 : (List Ty)) (v1 : XN) : Option (Tm × (List YN) × (List XN) × (List (YK × Int)) × (List (XK × Int))) := hash_table_term_io_j0' (c0_0_1, c0_1_1, m3_1, m4_1, c7_2_1, c7_3_1, c7_4_1, v1)
def hash_table_term_io_l0 (rest0 : (List Int)) (c0_0_0 : (List YN)) (c0_1_0 : (List XN)) (m3_0 : (List (YK × Int))) (m4_0 : (List (XK × Int))) (c7_6_0 : (List Tm)) (c7_2_1 : Bool) (c7_3_1 : ByteArray) (c7_4_1 : (List Ty)) (v1 : XN) : Option (Tm × (List YN) × (List XN) × (List (YK × Int)) × (List (XK × Int))) := hash_table_term_io_l0' (rest0, c0_0_0, c0_1_0, m3_0, m4_0, c7_6_0, c7_2_1, c7_3_1, c7_4_1, v1)
theorem hash_table_term_io_eq (a1 : Int) (b0_0 : (List YN)) (b0_1 : (List XN)) (b3 : (List (YK × Int))) (b4 : (List (XK × Int))) : hash_table_term_io a1 b0_0 b0_1 b3 b4 =
  bind (geti b0_1 a1) fun v1 =>
  if 0 ≤ v1.type_ then
   bind (hash_table_typ_io v1.type_ b0_0 b0_1 b3 b4) fun v3 =>
   hash_table_term_io_j0 v3.2.1 v3.2.2.1 v3.2.2.2.1 v3.2.2.2.2 v3.1.v v3.1.name v3.1.args v1
  else
  hash_table_term_io_j0 b0_0 b0_1 b3 b4 false ByteArray.empty ([] : List Ty) v1 := hash_table_term_io'.eq_def (a1, b0_0, b0_1, b3, b4)
theorem hash_table_term_io_j0_eq (c0_0_1 : (List YN)) (c0_1_1 : (List XN)) (m3_1 : (List (YK × Int))) (m4_1 : (List (XK × Int))) (c7_2_1 : Bool) (c7_3_1 : ByteArray) (c7_4_1 : (List Ty)) (v1 : XN) : hash_table_term_io_j0 c0_0_1 c0_1_1 m3_1 m4_1 c7_2_1 c7_3_1 c7_4_1 v1 =
  hash_table_term_io_l0 v1.sub c0_0_1 c0_1_1 m3_1 m4_1 ([] : List Tm) c7_2_1 c7_3_1 c7_4_1 v1 := hash_table_term_io_j0'.eq_def (c0_0_1, c0_1_1, m3_1, m4_1, c7_2_1, c7_3_1, c7_4_1, v1)
theorem hash_table_term_io_l0_eq (rest0 : (List Int)) (c0_0_0 : (List YN)) (c0_1_0 : (List XN)) (m3_0 : (List (YK × Int))) (m4_0 : (List (XK × Int))) (c7_6_0 : (List Tm)) (c7_2_1 : Bool) (c7_3_1 : ByteArray) (c7_4_1 : (List Ty)) (v1 : XN) : hash_table_term_io_l0 rest0 c0_0_0 c0_1_0 m3_0 m4_0 c7_6_0 c7_2_1 c7_3_1 c7_4_1 v1 =
  match rest0 with
  | [] =>
   some ((Tm.mk v1.kind v1.name (Ty.mk c7_2_1 c7_3_1 c7_4_1) v1.index c7_6_0), c0_0_0, c0_1_0, m3_0, m4_0)
  | v36 :: rest0 =>
   bind (hash_table_term_io v36 c0_0_0 c0_1_0 m3_0 m4_0) fun v37 =>
   bind (app c7_6_0 ([v37.1])) fun v38 =>
   hash_table_term_io_l0 rest0 v37.2.1 v37.2.2.1 v37.2.2.2.1 v37.2.2.2.2 v38 c7_2_1 c7_3_1 c7_4_1 v1 := hash_table_term_io_l0'.eq_def (rest0, c0_0_0, c0_1_0, m3_0, m4_0, c7_6_0, c7_2_1, c7_3_1, c7_4_1, v1)
mutual
def terms_extent' (a0 : Tm) : Option (Int × Int) :=
 terms_extent_l0' (a0.sub, 1, 0)
 partial_fixpoint
def terms_extent_l0' (p : ((List Tm) × Int × Int)) : Option (Int × Int) := match p with
 | (rest0, t2_0, t3_0) =>
  match rest0 with
  | [] =>
   bind (some (IntKind.wrap .i64 (t3_0 + 1))) fun v13 =>
   some (t2_0, v13)
  | v12 :: rest0 =>
   bind (terms_extent' v12) fun v13 =>
   bind (some (IntKind.wrap .i64 (t2_0 + v13.1))) fun v14 =>
   terms_extent_l0' (rest0, v14, (max t3_0 v13.2))
 partial_fixpoint
end
def terms_extent (a0 : Tm) : Option (Int × Int) := terms_extent' a0
def terms_extent_l0 (rest0 : (List Tm)) (t2_0 : Int) (t3_0 : Int) : Option (Int × Int) := terms_extent_l0' (rest0, t2_0, t3_0)
theorem terms_extent_eq (a0 : Tm) : terms_extent a0 =
  terms_extent_l0 a0.sub 1 0 := terms_extent'.eq_def a0
theorem terms_extent_l0_eq (rest0 : (List Tm)) (t2_0 : Int) (t3_0 : Int) : terms_extent_l0 rest0 t2_0 t3_0 =
  match rest0 with
  | [] =>
   bind (some (IntKind.wrap .i64 (t3_0 + 1))) fun v13 =>
   some (t2_0, v13)
  | v12 :: rest0 =>
   bind (terms_extent v12) fun v13 =>
   bind (some (IntKind.wrap .i64 (t2_0 + v13.1))) fun v14 =>
   terms_extent_l0 rest0 v14 (max t3_0 v13.2) := terms_extent_l0'.eq_def (rest0, t2_0, t3_0)
def terms_great (a0 : Tm) : Option Bool :=
 bind (terms_extent a0) fun v1 =>
 if 32000 < v1.1 then
  some true
 else
 some (decide (300 < v1.2))
def terms_plain (a0 : Tm) (a1 : Bool) (a2 : Bool) (a3 : Bool) : Option Bool :=
 if a1 = true then
  if a2 = true then
   if a3 = true then
    some true
   else
   some (decide (a0.index = 0))
  else
  if a0.ty.v = true then
   some false
  else
  if a0.ty.name = ByteArray.empty then
   if ((Ty.Ds a0.ty.args).length : Int) = 0 then
    if a3 = true then
     some true
    else
    some (decide (a0.index = 0))
   else
   some false
  else
  some false
 else
 if a0.name = ByteArray.empty then
  if a2 = true then
   if a3 = true then
    some true
   else
   some (decide (a0.index = 0))
  else
  if a0.ty.v = true then
   some false
  else
  if a0.ty.name = ByteArray.empty then
   if ((Ty.Ds a0.ty.args).length : Int) = 0 then
    if a3 = true then
     some true
    else
    some (decide (a0.index = 0))
   else
   some false
  else
  some false
 else
 some false
def types_rank (a0 : Ty) : Option Int :=
 if a0.v = true then
  some 0
 else
 some 1
def cmp_isNaN_int (a0 : Int) : Option Bool :=
 some (decide (¬ a0 = a0))
def cmp_Compare_int (a0 : Int) (a1 : Int) : Option Int :=
 bind (cmp_isNaN_int a0) fun v1 =>
 bind (cmp_isNaN_int a1) fun v2 =>
 if v1 = true then
  if v2 = true then
   some 0
  else
  some (-1)
 else
 if v2 = true then
  some 1
 else
 if a0 < a1 then
  some (-1)
 else
 if a1 < a0 then
  some 1
 else
 some 0
def bytealg_CompareString (a0 : ByteArray) (a1 : ByteArray) : Option Int :=
 bind (cmpstr a0 a1) fun v1 =>
 some v1
def strings_Compare (a0 : ByteArray) (a1 : ByteArray) : Option Int :=
 bind (bytealg_CompareString a0 a1) fun v1 =>
 some v1
def cmp_Or_int_l0' (rest0 : (List Int)) : Option Int :=
 match rest0 with
 | [] =>
  some 0
 | v9 :: rest0 =>
  if ¬ v9 = 0 then
   some v9
  else
  cmp_Or_int_l0' rest0
 partial_fixpoint
def cmp_Or_int_l0 (rest0 : (List Int)) : Option Int := cmp_Or_int_l0' rest0
theorem cmp_Or_int_l0_eq (rest0 : (List Int)) : cmp_Or_int_l0 rest0 =
  match rest0 with
  | [] =>
   some 0
  | v9 :: rest0 =>
   if ¬ v9 = 0 then
    some v9
   else
   cmp_Or_int_l0 rest0 := cmp_Or_int_l0'.eq_def rest0
def cmp_Or_int (a0 : (List Int)) : Option Int :=
 cmp_Or_int_l0 a0
mutual
def slices_CompareFunc_Type_Type_Type_Type__types_Compare' (p : ((List Ty) × (List Ty))) : Option Int := match p with
 | (a0, a1) =>
  slices_CompareFunc_Type_Type_Type_Type__types_Compare_l0' (a0, 0, a0, a1)
 partial_fixpoint
def slices_CompareFunc_Type_Type_Type_Type__types_Compare_l0' (p : ((List Ty) × Nat × (List Ty) × (List Ty))) : Option Int := match p with
 | (rest0, k0, a0, a1) =>
  match rest0 with
  | [] =>
   if ((Ty.Ds a0).length : Int) < ((Ty.Ds a1).length : Int) then
    some (-1)
   else
   some 0
  | v14 :: rest0 =>
   if ((Ty.Ds a1).length : Int) ≤ (k0 : Int) then
    some 1
   else
   bind (geti a1 (k0 : Int)) fun v16 =>
   bind (types_Compare' (v14, v16)) fun v17 =>
   if ¬ v17 = 0 then
    some v17
   else
   slices_CompareFunc_Type_Type_Type_Type__types_Compare_l0' (rest0, k0 + 1, a0, a1)
 partial_fixpoint
def types_Compare' (p : (Ty × Ty)) : Option Int := match p with
 | (a0, a1) =>
  bind (types_rank a0) fun v1 =>
  bind (types_rank a1) fun v2 =>
  bind (cmp_Compare_int v1 v2) fun v3 =>
  bind (strings_Compare a0.name a1.name) fun v4 =>
  bind (cmp_Compare_int ((Ty.Ds a0.args).length : Int) ((Ty.Ds a1.args).length : Int)) fun v5 =>
  bind (cmp_Or_int ([v3, v4, v5])) fun v6 =>
  if ¬ v6 = 0 then
   some v6
  else
  bind (slices_CompareFunc_Type_Type_Type_Type__types_Compare' (a0.args, a1.args)) fun v8 =>
  some v8
 partial_fixpoint
end
def slices_CompareFunc_Type_Type_Type_Type__types_Compare (a0 : (List Ty)) (a1 : (List Ty)) : Option Int := slices_CompareFunc_Type_Type_Type_Type__types_Compare' (a0, a1)
def slices_CompareFunc_Type_Type_Type_Type__types_Compare_l0 (rest0 : (List Ty)) (k0 : Nat) (a0 : (List Ty)) (a1 : (List Ty)) : Option Int := slices_CompareFunc_Type_Type_Type_Type__types_Compare_l0' (rest0, k0, a0, a1)
def types_Compare (a0 : Ty) (a1 : Ty) : Option Int := types_Compare' (a0, a1)
theorem slices_CompareFunc_Type_Type_Type_Type__types_Compare_eq (a0 : (List Ty)) (a1 : (List Ty)) : slices_CompareFunc_Type_Type_Type_Type__types_Compare a0 a1 =
  slices_CompareFunc_Type_Type_Type_Type__types_Compare_l0 a0 0 a0 a1 := slices_CompareFunc_Type_Type_Type_Type__types_Compare'.eq_def (a0, a1)
theorem slices_CompareFunc_Type_Type_Type_Type__types_Compare_l0_eq (rest0 : (List Ty)) (k0 : Nat) (a0 : (List Ty)) (a1 : (List Ty)) : slices_CompareFunc_Type_Type_Type_Type__types_Compare_l0 rest0 k0 a0 a1 =
  match rest0 with
  | [] =>
   if ((Ty.Ds a0).length : Int) < ((Ty.Ds a1).length : Int) then
    some (-1)
   else
   some 0
  | v14 :: rest0 =>
   if ((Ty.Ds a1).length : Int) ≤ (k0 : Int) then
    some 1
   else
   bind (geti a1 (k0 : Int)) fun v16 =>
   bind (types_Compare v14 v16) fun v17 =>
   if ¬ v17 = 0 then
    some v17
   else
   slices_CompareFunc_Type_Type_Type_Type__types_Compare_l0 rest0 (k0 + 1) a0 a1 := slices_CompareFunc_Type_Type_Type_Type__types_Compare_l0'.eq_def (rest0, k0, a0, a1)
theorem types_Compare_eq (a0 : Ty) (a1 : Ty) : types_Compare a0 a1 =
  bind (types_rank a0) fun v1 =>
  bind (types_rank a1) fun v2 =>
  bind (cmp_Compare_int v1 v2) fun v3 =>
  bind (strings_Compare a0.name a1.name) fun v4 =>
  bind (cmp_Compare_int ((Ty.Ds a0.args).length : Int) ((Ty.Ds a1.args).length : Int)) fun v5 =>
  bind (cmp_Or_int ([v3, v4, v5])) fun v6 =>
  if ¬ v6 = 0 then
   some v6
  else
  bind (slices_CompareFunc_Type_Type_Type_Type__types_Compare a0.args a1.args) fun v8 =>
  some v8 := types_Compare'.eq_def (a0, a1)
def types_Same (a0 : Ty) (a1 : Ty) : Option Bool :=
 bind (types_Compare a0 a1) fun v1 =>
 some (decide (v1 = 0))
def terms_formed_j0 (a0 : Tm) (v16 : (Ty × Bool)) : Option (Ty × Bool) :=
 if v16.2 = true then
  bind (types_Check (Ty.mk false (ByteArray.mk #[102, 117, 110]) ([a0.ty, v16.1]))) fun v18 =>
  some ((Ty.mk false (ByteArray.mk #[102, 117, 110]) ([a0.ty, v16.1])), (decide (v18 = 0)))
 else
 some ((Ty.mk false ByteArray.empty ([] : List Ty)), false)
def terms_formed' (p : (Tm × (List Ty))) : Option (Ty × Bool) := match p with
 | (a0, a1) =>
  if a0.kind = 1 then
   bind (terms_plain a0 true true false) fun v2 =>
   if v2 = true then
    bind (terms_named a0.name) fun v4 =>
    if v4 = true then
     if ((Tm.Ds a0.sub).length : Int) = 0 then
      bind (types_Check a0.ty) fun v7 =>
      some (a0.ty, (decide (v7 = 0)))
     else
     some (a0.ty, false)
    else
    some (a0.ty, false)
   else
   some (a0.ty, false)
  else
  if a0.kind = 2 then
   bind (terms_plain a0 true true false) fun v3 =>
   if v3 = true then
    bind (terms_named a0.name) fun v5 =>
    if v5 = true then
     if ((Tm.Ds a0.sub).length : Int) = 0 then
      bind (types_Check a0.ty) fun v8 =>
      some (a0.ty, (decide (v8 = 0)))
     else
     some (a0.ty, false)
    else
    some (a0.ty, false)
   else
   some (a0.ty, false)
  else
  if a0.kind = 3 then
   bind (terms_plain a0 false false true) fun v4 =>
   if v4 = true then
    if 0 < ((Tm.Ds a0.sub).length : Int) then
     some ((Ty.mk false ByteArray.empty ([] : List Ty)), false)
    else
    if a0.index < 0 then
     some ((Ty.mk false ByteArray.empty ([] : List Ty)), false)
    else
    if ((Ty.Ds a1).length : Int) ≤ a0.index then
     some ((Ty.mk false ByteArray.empty ([] : List Ty)), false)
    else
    bind (some (IntKind.wrap .i64 (((Ty.Ds a1).length : Int) - 1))) fun v9 =>
    bind (some (IntKind.wrap .i64 (v9 - a0.index))) fun v10 =>
    bind (geti a1 v10) fun v11 =>
    some (v11, true)
   else
   some ((Ty.mk false ByteArray.empty ([] : List Ty)), false)
  else
  if a0.kind = 4 then
   bind (terms_plain a0 false false false) fun v5 =>
   if v5 = true then
    if ¬ ((Tm.Ds a0.sub).length : Int) = 2 then
     some ((Ty.mk false ByteArray.empty ([] : List Ty)), false)
    else
    bind (geti a0.sub 0) fun v8 =>
    bind (terms_formed' (v8, a1)) fun v9 =>
    bind (geti a0.sub 1) fun v10 =>
    bind (terms_formed' (v10, a1)) fun v11 =>
    if v9.2 = true then
     if v11.2 = true then
      if v9.1.v = true then
       some ((Ty.mk false ByteArray.empty ([] : List Ty)), false)
      else
      if ¬ v9.1.name = (ByteArray.mk #[102, 117, 110]) then
       some ((Ty.mk false ByteArray.empty ([] : List Ty)), false)
      else
      if ¬ ((Ty.Ds v9.1.args).length : Int) = 2 then
       some ((Ty.mk false ByteArray.empty ([] : List Ty)), false)
      else
      bind (geti v9.1.args 0) fun v17 =>
      bind (types_Same v17 v11.1) fun v18 =>
      if v18 = true then
       bind (geti v9.1.args 1) fun v20 =>
       some (v20, true)
      else
      some ((Ty.mk false ByteArray.empty ([] : List Ty)), false)
     else
     some ((Ty.mk false ByteArray.empty ([] : List Ty)), false)
    else
    some ((Ty.mk false ByteArray.empty ([] : List Ty)), false)
   else
   some ((Ty.mk false ByteArray.empty ([] : List Ty)), false)
  else
  if a0.kind = 5 then
   bind (terms_plain a0 true true false) fun v6 =>
   if v6 = true then
    if ¬ ((Tm.Ds a0.sub).length : Int) = 1 then
     some ((Ty.mk false ByteArray.empty ([] : List Ty)), false)
    else
    bind (terms_named a0.name) fun v9 =>
    if v9 = true then
     bind (types_Check a0.ty) fun v11 =>
     if ¬ v11 = 0 then
      some ((Ty.mk false ByteArray.empty ([] : List Ty)), false)
     else
     bind (geti a0.sub 0) fun v13 =>
     bind (cut a1 0 ((Ty.Ds a1).length : Int)) fun v14 =>
     bind (app v14 ([a0.ty])) fun v15 =>
     bind (terms_formed' (v13, v15)) fun v16 =>
     terms_formed_j0 a0 v16
    else
    some ((Ty.mk false ByteArray.empty ([] : List Ty)), false)
   else
   some ((Ty.mk false ByteArray.empty ([] : List Ty)), false)
  else
  some ((Ty.mk false ByteArray.empty ([] : List Ty)), false)
 partial_fixpoint
def terms_formed (a0 : Tm) (a1 : (List Ty)) : Option (Ty × Bool) := terms_formed' (a0, a1)
theorem terms_formed_eq (a0 : Tm) (a1 : (List Ty)) : terms_formed a0 a1 =
  if a0.kind = 1 then
   bind (terms_plain a0 true true false) fun v2 =>
   if v2 = true then
    bind (terms_named a0.name) fun v4 =>
    if v4 = true then
     if ((Tm.Ds a0.sub).length : Int) = 0 then
      bind (types_Check a0.ty) fun v7 =>
      some (a0.ty, (decide (v7 = 0)))
     else
     some (a0.ty, false)
    else
    some (a0.ty, false)
   else
   some (a0.ty, false)
  else
  if a0.kind = 2 then
   bind (terms_plain a0 true true false) fun v3 =>
   if v3 = true then
    bind (terms_named a0.name) fun v5 =>
    if v5 = true then
     if ((Tm.Ds a0.sub).length : Int) = 0 then
      bind (types_Check a0.ty) fun v8 =>
      some (a0.ty, (decide (v8 = 0)))
     else
     some (a0.ty, false)
    else
    some (a0.ty, false)
   else
   some (a0.ty, false)
  else
  if a0.kind = 3 then
   bind (terms_plain a0 false false true) fun v4 =>
   if v4 = true then
    if 0 < ((Tm.Ds a0.sub).length : Int) then
     some ((Ty.mk false ByteArray.empty ([] : List Ty)), false)
    else
    if a0.index < 0 then
     some ((Ty.mk false ByteArray.empty ([] : List Ty)), false)
    else
    if ((Ty.Ds a1).length : Int) ≤ a0.index then
     some ((Ty.mk false ByteArray.empty ([] : List Ty)), false)
    else
    bind (some (IntKind.wrap .i64 (((Ty.Ds a1).length : Int) - 1))) fun v9 =>
    bind (some (IntKind.wrap .i64 (v9 - a0.index))) fun v10 =>
    bind (geti a1 v10) fun v11 =>
    some (v11, true)
   else
   some ((Ty.mk false ByteArray.empty ([] : List Ty)), false)
  else
  if a0.kind = 4 then
   bind (terms_plain a0 false false false) fun v5 =>
   if v5 = true then
    if ¬ ((Tm.Ds a0.sub).length : Int) = 2 then
     some ((Ty.mk false ByteArray.empty ([] : List Ty)), false)
    else
    bind (geti a0.sub 0) fun v8 =>
    bind (terms_formed v8 a1) fun v9 =>
    bind (geti a0.sub 1) fun v10 =>
    bind (terms_formed v10 a1) fun v11 =>
    if v9.2 = true then
     if v11.2 = true then
      if v9.1.v = true then
       some ((Ty.mk false ByteArray.empty ([] : List Ty)), false)
      else
      if ¬ v9.1.name = (ByteArray.mk #[102, 117, 110]) then
       some ((Ty.mk false ByteArray.empty ([] : List Ty)), false)
      else
      if ¬ ((Ty.Ds v9.1.args).length : Int) = 2 then
       some ((Ty.mk false ByteArray.empty ([] : List Ty)), false)
      else
      bind (geti v9.1.args 0) fun v17 =>
      bind (types_Same v17 v11.1) fun v18 =>
      if v18 = true then
       bind (geti v9.1.args 1) fun v20 =>
       some (v20, true)
      else
      some ((Ty.mk false ByteArray.empty ([] : List Ty)), false)
     else
     some ((Ty.mk false ByteArray.empty ([] : List Ty)), false)
    else
    some ((Ty.mk false ByteArray.empty ([] : List Ty)), false)
   else
   some ((Ty.mk false ByteArray.empty ([] : List Ty)), false)
  else
  if a0.kind = 5 then
   bind (terms_plain a0 true true false) fun v6 =>
   if v6 = true then
    if ¬ ((Tm.Ds a0.sub).length : Int) = 1 then
     some ((Ty.mk false ByteArray.empty ([] : List Ty)), false)
    else
    bind (terms_named a0.name) fun v9 =>
    if v9 = true then
     bind (types_Check a0.ty) fun v11 =>
     if ¬ v11 = 0 then
      some ((Ty.mk false ByteArray.empty ([] : List Ty)), false)
     else
     bind (geti a0.sub 0) fun v13 =>
     bind (cut a1 0 ((Ty.Ds a1).length : Int)) fun v14 =>
     bind (app v14 ([a0.ty])) fun v15 =>
     bind (terms_formed v13 v15) fun v16 =>
     terms_formed_j0 a0 v16
    else
    some ((Ty.mk false ByteArray.empty ([] : List Ty)), false)
   else
   some ((Ty.mk false ByteArray.empty ([] : List Ty)), false)
  else
  some ((Ty.mk false ByteArray.empty ([] : List Ty)), false) := terms_formed'.eq_def (a0, a1)
def terms_typed (a0 : Tm) : Option (Ty × Int) :=
 bind (terms_great a0) fun v1 =>
 if v1 = true then
  some ((Ty.mk false ByteArray.empty ([] : List Ty)), 21)
 else
 bind (terms_formed a0 ([] : List Ty)) fun v3 =>
 if v3.2 = true then
  some (v3.1, 0)
 else
 some ((Ty.mk false ByteArray.empty ([] : List Ty)), 20)
def terms_Check (a0 : Tm) : Option Int :=
 bind (terms_typed a0) fun v1 =>
 some v1.2
def hash_Get_j0 : Option (Tm × Int) :=
 some ((Tm.mk 0 ByteArray.empty (Ty.mk false ByteArray.empty ([] : List Ty)) 0 ([] : List Tm)), 4)
def hash_Get_j0b : Option (Tm × Int) :=
 some ((Tm.mk 0 ByteArray.empty (Ty.mk false ByteArray.empty ([] : List Ty)) 0 ([] : List Tm)), 8)
def hash_Get_j0c (a1 : Int) (v4 : ((List YN) × (List XN) × (List (YK × Int)) × (List (XK × Int)))) : Option (Tm × Int) :=
 bind (hash_table_size_io a1 v4.1 v4.2.1 v4.2.2.1 v4.2.2.2) fun v5 =>
 if ¬ v5.2.1 = 0 then
  some ((Tm.mk 0 ByteArray.empty (Ty.mk false ByteArray.empty ([] : List Ty)) 0 ([] : List Tm)), v5.2.1)
 else
 bind (hash_table_term_io a1 v5.2.2.1 v5.2.2.2.1 v5.2.2.2.2.1 v5.2.2.2.2.2) fun v7 =>
 bind (terms_Check v7.1) fun v8 =>
 if ¬ v8 = 0 then
  some ((Tm.mk 0 ByteArray.empty (Ty.mk false ByteArray.empty ([] : List Ty)) 0 ([] : List Tm)), v8)
 else
 some (v7.1, 0)
def hash_Get (a0 : AStore) (a1 : Int) : Option (Tm × Int) :=
 bind (hash_open_io a0) fun v1 =>
 match v1 with
 | .inl v2 =>
  hash_Get_j0
 | .inr (.inl v3) =>
  hash_Get_j0b
 | .inr (.inr v4) =>
  hash_Get_j0c a1 v4
mutual
def r31_At' (p : (AStore × Int)) : Option Tm := match p with
 | (a0, a1) =>
  bind (geti a0.terms a1) fun v1 =>
  if 0 ≤ v1.type_ then
   bind (r31_TypeAt a0 v1.type_) fun v3 =>
   r31_At_j0' (v3.v, v3.name, v3.args, a0, v1)
  else
  r31_At_j0' (false, ByteArray.empty, ([] : List Ty), a0, v1)
 partial_fixpoint
def r31_At_j0' (p : (Bool × ByteArray × (List Ty) × AStore × XN)) : Option Tm := match p with
 | (c3_2_1, c3_3_1, c3_4_1, a0, v1) =>
  r31_At_l0' (v1.sub, ([] : List Tm), a0, c3_2_1, c3_3_1, c3_4_1, v1)
 partial_fixpoint
def r31_At_l0' (p : ((List Int) × (List Tm) × AStore × Bool × ByteArray × (List Ty) × XN)) : Option Tm := match p with
 | (rest0, c3_6_0, a0, c3_2_1, c3_3_1, c3_4_1, v1) =>
  match rest0 with
  | [] =>
   some (Tm.mk v1.kind v1.name (Ty.mk c3_2_1 c3_3_1 c3_4_1) v1.index c3_6_0)
  | v9 :: rest0 =>
   bind (r31_At' (a0, v9)) fun v10 =>
   bind (app c3_6_0 ([v10])) fun v11 =>
   r31_At_l0' (rest0, v11, a0, c3_2_1, c3_3_1, c3_4_1, v1)
 partial_fixpoint
end
def r31_At (a0 : AStore) (a1 : Int) : Option Tm := r31_At' (a0, a1)
def r31_At_j0 (c3_2_1 : Bool) (c3_3_1 : ByteArray) (c3_4_1 : (List Ty)) (a0 : AStore) (v1 : XN) : Option Tm := r31_At_j0' (c3_2_1, c3_3_1, c3_4_1, a0, v1)
def r31_At_l0 (rest0 : (List Int)) (c3_6_0 : (List Tm)) (a0 : AStore) (c3_2_1 : Bool) (c3_3_1 : ByteArray) (c3_4_1 : (List Ty)) (v1 : XN) : Option Tm := r31_At_l0' (rest0, c3_6_0, a0, c3_2_1, c3_3_1, c3_4_1, v1)
theorem r31_At_eq (a0 : AStore) (a1 : Int) : r31_At a0 a1 =
  bind (geti a0.terms a1) fun v1 =>
  if 0 ≤ v1.type_ then
   bind (r31_TypeAt a0 v1.type_) fun v3 =>
   r31_At_j0 v3.v v3.name v3.args a0 v1
  else
  r31_At_j0 false ByteArray.empty ([] : List Ty) a0 v1 := r31_At'.eq_def (a0, a1)
theorem r31_At_j0_eq (c3_2_1 : Bool) (c3_3_1 : ByteArray) (c3_4_1 : (List Ty)) (a0 : AStore) (v1 : XN) : r31_At_j0 c3_2_1 c3_3_1 c3_4_1 a0 v1 =
  r31_At_l0 v1.sub ([] : List Tm) a0 c3_2_1 c3_3_1 c3_4_1 v1 := r31_At_j0'.eq_def (c3_2_1, c3_3_1, c3_4_1, a0, v1)
theorem r31_At_l0_eq (rest0 : (List Int)) (c3_6_0 : (List Tm)) (a0 : AStore) (c3_2_1 : Bool) (c3_3_1 : ByteArray) (c3_4_1 : (List Ty)) (v1 : XN) : r31_At_l0 rest0 c3_6_0 a0 c3_2_1 c3_3_1 c3_4_1 v1 =
  match rest0 with
  | [] =>
   some (Tm.mk v1.kind v1.name (Ty.mk c3_2_1 c3_3_1 c3_4_1) v1.index c3_6_0)
  | v9 :: rest0 =>
   bind (r31_At a0 v9) fun v10 =>
   bind (app c3_6_0 ([v10])) fun v11 =>
   r31_At_l0 rest0 v11 a0 c3_2_1 c3_3_1 c3_4_1 v1 := r31_At_l0'.eq_def (rest0, c3_6_0, a0, c3_2_1, c3_3_1, c3_4_1, v1)
mutual
def r02_Size' (a0 : Tm) : Option Int :=
 r02_Size_l0' (a0.sub, 1)
 partial_fixpoint
def r02_Size_l0' (p : ((List Tm) × Int)) : Option Int := match p with
 | (rest0, t3_0) =>
  match rest0 with
  | [] =>
   some t3_0
  | v5 :: rest0 =>
   bind (r02_Size' v5) fun v6 =>
   bind (some (IntKind.wrap .i64 (t3_0 + v6))) fun v7 =>
   r02_Size_l0' (rest0, v7)
 partial_fixpoint
end
def r02_Size (a0 : Tm) : Option Int := r02_Size' a0
def r02_Size_l0 (rest0 : (List Tm)) (t3_0 : Int) : Option Int := r02_Size_l0' (rest0, t3_0)
theorem r02_Size_eq (a0 : Tm) : r02_Size a0 =
  r02_Size_l0 a0.sub 1 := r02_Size'.eq_def a0
theorem r02_Size_l0_eq (rest0 : (List Tm)) (t3_0 : Int) : r02_Size_l0 rest0 t3_0 =
  match rest0 with
  | [] =>
   some t3_0
  | v5 :: rest0 =>
   bind (r02_Size v5) fun v6 =>
   bind (some (IntKind.wrap .i64 (t3_0 + v6))) fun v7 =>
   r02_Size_l0 rest0 v7 := r02_Size_l0'.eq_def (rest0, t3_0)
mutual
def r02_Depth' (a0 : Tm) : Option Int :=
 r02_Depth_l0' (a0.sub, 0)
 partial_fixpoint
def r02_Depth_l0' (p : ((List Tm) × Int)) : Option Int := match p with
 | (rest0, t3_0) =>
  match rest0 with
  | [] =>
   bind (some (IntKind.wrap .i64 (1 + t3_0))) fun v6 =>
   some v6
  | v5 :: rest0 =>
   bind (r02_Depth' v5) fun v6 =>
   r02_Depth_l0' (rest0, (max t3_0 v6))
 partial_fixpoint
end
def r02_Depth (a0 : Tm) : Option Int := r02_Depth' a0
def r02_Depth_l0 (rest0 : (List Tm)) (t3_0 : Int) : Option Int := r02_Depth_l0' (rest0, t3_0)
theorem r02_Depth_eq (a0 : Tm) : r02_Depth a0 =
  r02_Depth_l0 a0.sub 0 := r02_Depth'.eq_def a0
theorem r02_Depth_l0_eq (rest0 : (List Tm)) (t3_0 : Int) : r02_Depth_l0 rest0 t3_0 =
  match rest0 with
  | [] =>
   bind (some (IntKind.wrap .i64 (1 + t3_0))) fun v6 =>
   some v6
  | v5 :: rest0 =>
   bind (r02_Depth v5) fun v6 =>
   r02_Depth_l0 rest0 (max t3_0 v6) := r02_Depth_l0'.eq_def (rest0, t3_0)
def r02_Small (a0 : Tm) : Option Bool :=
 bind (r02_Size a0) fun v1 =>
 if v1 ≤ 32000 then
  bind (r02_Depth a0) fun v3 =>
  some (decide (v3 ≤ 300))
 else
 some false
def r02_none (a0 : Ty) : Option Bool :=
 if a0.v = true then
  some false
 else
 if a0.name = ByteArray.empty then
  some (decide (((Ty.Ds a0.args).length : Int) = 0))
 else
 some false
mutual
def r01_Compare' (p : (Ty × Ty)) : Option Int := match p with
 | (a0, a1) =>
  if ¬ a0.v = a1.v then
   if a0.v = true then
    some (-1)
   else
   some 1
  else
  if ¬ a0.name = a1.name then
   if Op.bytesLess a0.name.toList a1.name.toList = true then
    some (-1)
   else
   some 1
  else
  if ¬ ((Ty.Ds a0.args).length : Int) = ((Ty.Ds a1.args).length : Int) then
   if ((Ty.Ds a0.args).length : Int) < ((Ty.Ds a1.args).length : Int) then
    some (-1)
   else
   some 1
  else
  r01_Compare_l0' (a0.args, 0, a1)
 partial_fixpoint
def r01_Compare_l0' (p : ((List Ty) × Nat × Ty)) : Option Int := match p with
 | (rest0, k0, a1) =>
  match rest0 with
  | [] =>
   some 0
  | v6 :: rest0 =>
   bind (geti a1.args (k0 : Int)) fun v7 =>
   bind (r01_Compare' (v6, v7)) fun v8 =>
   if ¬ v8 = 0 then
    some v8
   else
   r01_Compare_l0' (rest0, k0 + 1, a1)
 partial_fixpoint
end
def r01_Compare (a0 : Ty) (a1 : Ty) : Option Int := r01_Compare' (a0, a1)
def r01_Compare_l0 (rest0 : (List Ty)) (k0 : Nat) (a1 : Ty) : Option Int := r01_Compare_l0' (rest0, k0, a1)
theorem r01_Compare_eq (a0 : Ty) (a1 : Ty) : r01_Compare a0 a1 =
  if ¬ a0.v = a1.v then
   if a0.v = true then
    some (-1)
   else
   some 1
  else
  if ¬ a0.name = a1.name then
   if Op.bytesLess a0.name.toList a1.name.toList = true then
    some (-1)
   else
   some 1
  else
  if ¬ ((Ty.Ds a0.args).length : Int) = ((Ty.Ds a1.args).length : Int) then
   if ((Ty.Ds a0.args).length : Int) < ((Ty.Ds a1.args).length : Int) then
    some (-1)
   else
   some 1
  else
  r01_Compare_l0 a0.args 0 a1 := r01_Compare'.eq_def (a0, a1)
theorem r01_Compare_l0_eq (rest0 : (List Ty)) (k0 : Nat) (a1 : Ty) : r01_Compare_l0 rest0 k0 a1 =
  match rest0 with
  | [] =>
   some 0
  | v6 :: rest0 =>
   bind (geti a1.args (k0 : Int)) fun v7 =>
   bind (r01_Compare v6 v7) fun v8 =>
   if ¬ v8 = 0 then
    some v8
   else
   r01_Compare_l0 rest0 (k0 + 1) a1 := r01_Compare_l0'.eq_def (rest0, k0, a1)
def r01_Same (a0 : Ty) (a1 : Ty) : Option Bool :=
 bind (r01_Compare a0 a1) fun v1 =>
 some (decide (v1 = 0))
mutual
def r01_Twin' (a0 : Ty) : Option Ty :=
 r01_Twin_l0' (a0.args, ([] : List Ty), a0)
 partial_fixpoint
def r01_Twin_l0' (p : ((List Ty) × (List Ty) × Ty)) : Option Ty := match p with
 | (rest0, c2_2_0, a0) =>
  match rest0 with
  | [] =>
   some (Ty.mk a0.v a0.name c2_2_0)
  | v6 :: rest0 =>
   bind (r01_Twin' v6) fun v7 =>
   bind (app c2_2_0 ([v7])) fun v8 =>
   r01_Twin_l0' (rest0, v8, a0)
 partial_fixpoint
end
def r01_Twin (a0 : Ty) : Option Ty := r01_Twin' a0
def r01_Twin_l0 (rest0 : (List Ty)) (c2_2_0 : (List Ty)) (a0 : Ty) : Option Ty := r01_Twin_l0' (rest0, c2_2_0, a0)
theorem r01_Twin_eq (a0 : Ty) : r01_Twin a0 =
  r01_Twin_l0 a0.args ([] : List Ty) a0 := r01_Twin'.eq_def a0
theorem r01_Twin_l0_eq (rest0 : (List Ty)) (c2_2_0 : (List Ty)) (a0 : Ty) : r01_Twin_l0 rest0 c2_2_0 a0 =
  match rest0 with
  | [] =>
   some (Ty.mk a0.v a0.name c2_2_0)
  | v6 :: rest0 =>
   bind (r01_Twin v6) fun v7 =>
   bind (app c2_2_0 ([v7])) fun v8 =>
   r01_Twin_l0 rest0 v8 a0 := r01_Twin_l0'.eq_def (rest0, c2_2_0, a0)
def r01_Fun (a0 : Ty) (a1 : Ty) : Option Ty :=
 bind (r01_Twin a0) fun v1 =>
 bind (r01_Twin a1) fun v2 =>
 some (Ty.mk false (ByteArray.mk #[102, 117, 110]) ([v1, v2]))
def r02_Formed_j0 (a0 : Tm) (v14 : (Ty × Bool)) : Option (Ty × Bool) :=
 bind (r01_Fun a0.ty v14.1) fun v15 =>
 if v14.2 = true then
  bind (r01_Valid v15) fun v17 =>
  some (v15, v17)
 else
 some (v15, false)
def r02_Formed' (p : (Tm × (List Ty))) : Option (Ty × Bool) := match p with
 | (a0, a1) =>
  if a0.kind = 1 then
   bind (r02_Name a0.name) fun v2 =>
   if v2 = true then
    bind (r01_Valid a0.ty) fun v4 =>
    if v4 = true then
     if a0.index = 0 then
      some (a0.ty, (decide (((Tm.Ds a0.sub).length : Int) = 0)))
     else
     some (a0.ty, false)
    else
    some (a0.ty, false)
   else
   some (a0.ty, false)
  else
  if a0.kind = 2 then
   bind (r02_Name a0.name) fun v3 =>
   if v3 = true then
    bind (r01_Valid a0.ty) fun v5 =>
    if v5 = true then
     if a0.index = 0 then
      some (a0.ty, (decide (((Tm.Ds a0.sub).length : Int) = 0)))
     else
     some (a0.ty, false)
    else
    some (a0.ty, false)
   else
   some (a0.ty, false)
  else
  if a0.kind = 3 then
   if ¬ a0.name = ByteArray.empty then
    some ((Ty.mk false ByteArray.empty ([] : List Ty)), false)
   else
   bind (r02_none a0.ty) fun v5 =>
   if v5 = true then
    if ¬ ((Tm.Ds a0.sub).length : Int) = 0 then
     some ((Ty.mk false ByteArray.empty ([] : List Ty)), false)
    else
    if a0.index < 0 then
     some ((Ty.mk false ByteArray.empty ([] : List Ty)), false)
    else
    if ((Ty.Ds a1).length : Int) ≤ a0.index then
     some ((Ty.mk false ByteArray.empty ([] : List Ty)), false)
    else
    bind (geti a1 a0.index) fun v10 =>
    some (v10, true)
   else
   some ((Ty.mk false ByteArray.empty ([] : List Ty)), false)
  else
  if a0.kind = 4 then
   if ¬ a0.name = ByteArray.empty then
    some ((Ty.mk false ByteArray.empty ([] : List Ty)), false)
   else
   bind (r02_none a0.ty) fun v6 =>
   if v6 = true then
    if ¬ a0.index = 0 then
     some ((Ty.mk false ByteArray.empty ([] : List Ty)), false)
    else
    if ¬ ((Tm.Ds a0.sub).length : Int) = 2 then
     some ((Ty.mk false ByteArray.empty ([] : List Ty)), false)
    else
    bind (geti a0.sub 0) fun v10 =>
    bind (r02_Formed' (v10, a1)) fun v11 =>
    bind (geti a0.sub 1) fun v12 =>
    bind (r02_Formed' (v12, a1)) fun v13 =>
    if v11.2 = true then
     if v13.2 = true then
      if v11.1.v = true then
       some ((Ty.mk false ByteArray.empty ([] : List Ty)), false)
      else
      if ¬ v11.1.name = (ByteArray.mk #[102, 117, 110]) then
       some ((Ty.mk false ByteArray.empty ([] : List Ty)), false)
      else
      if ¬ ((Ty.Ds v11.1.args).length : Int) = 2 then
       some ((Ty.mk false ByteArray.empty ([] : List Ty)), false)
      else
      bind (geti v11.1.args 0) fun v19 =>
      bind (r01_Same v19 v13.1) fun v20 =>
      if v20 = true then
       bind (geti v11.1.args 1) fun v22 =>
       some (v22, true)
      else
      some ((Ty.mk false ByteArray.empty ([] : List Ty)), false)
     else
     some ((Ty.mk false ByteArray.empty ([] : List Ty)), false)
    else
    some ((Ty.mk false ByteArray.empty ([] : List Ty)), false)
   else
   some ((Ty.mk false ByteArray.empty ([] : List Ty)), false)
  else
  if a0.kind = 5 then
   bind (r02_Name a0.name) fun v6 =>
   if v6 = true then
    bind (r01_Valid a0.ty) fun v8 =>
    if v8 = true then
     if ¬ a0.index = 0 then
      some ((Ty.mk false ByteArray.empty ([] : List Ty)), false)
     else
     if ¬ ((Tm.Ds a0.sub).length : Int) = 1 then
      some ((Ty.mk false ByteArray.empty ([] : List Ty)), false)
     else
     bind (geti a0.sub 0) fun v12 =>
     bind (app ([a0.ty]) a1) fun v13 =>
     bind (r02_Formed' (v12, v13)) fun v14 =>
     r02_Formed_j0 a0 v14
    else
    some ((Ty.mk false ByteArray.empty ([] : List Ty)), false)
   else
   some ((Ty.mk false ByteArray.empty ([] : List Ty)), false)
  else
  some ((Ty.mk false ByteArray.empty ([] : List Ty)), false)
 partial_fixpoint
def r02_Formed (a0 : Tm) (a1 : (List Ty)) : Option (Ty × Bool) := r02_Formed' (a0, a1)
theorem r02_Formed_eq (a0 : Tm) (a1 : (List Ty)) : r02_Formed a0 a1 =
  if a0.kind = 1 then
   bind (r02_Name a0.name) fun v2 =>
   if v2 = true then
    bind (r01_Valid a0.ty) fun v4 =>
    if v4 = true then
     if a0.index = 0 then
      some (a0.ty, (decide (((Tm.Ds a0.sub).length : Int) = 0)))
     else
     some (a0.ty, false)
    else
    some (a0.ty, false)
   else
   some (a0.ty, false)
  else
  if a0.kind = 2 then
   bind (r02_Name a0.name) fun v3 =>
   if v3 = true then
    bind (r01_Valid a0.ty) fun v5 =>
    if v5 = true then
     if a0.index = 0 then
      some (a0.ty, (decide (((Tm.Ds a0.sub).length : Int) = 0)))
     else
     some (a0.ty, false)
    else
    some (a0.ty, false)
   else
   some (a0.ty, false)
  else
  if a0.kind = 3 then
   if ¬ a0.name = ByteArray.empty then
    some ((Ty.mk false ByteArray.empty ([] : List Ty)), false)
   else
   bind (r02_none a0.ty) fun v5 =>
   if v5 = true then
    if ¬ ((Tm.Ds a0.sub).length : Int) = 0 then
     some ((Ty.mk false ByteArray.empty ([] : List Ty)), false)
    else
    if a0.index < 0 then
     some ((Ty.mk false ByteArray.empty ([] : List Ty)), false)
    else
    if ((Ty.Ds a1).length : Int) ≤ a0.index then
     some ((Ty.mk false ByteArray.empty ([] : List Ty)), false)
    else
    bind (geti a1 a0.index) fun v10 =>
    some (v10, true)
   else
   some ((Ty.mk false ByteArray.empty ([] : List Ty)), false)
  else
  if a0.kind = 4 then
   if ¬ a0.name = ByteArray.empty then
    some ((Ty.mk false ByteArray.empty ([] : List Ty)), false)
   else
   bind (r02_none a0.ty) fun v6 =>
   if v6 = true then
    if ¬ a0.index = 0 then
     some ((Ty.mk false ByteArray.empty ([] : List Ty)), false)
    else
    if ¬ ((Tm.Ds a0.sub).length : Int) = 2 then
     some ((Ty.mk false ByteArray.empty ([] : List Ty)), false)
    else
    bind (geti a0.sub 0) fun v10 =>
    bind (r02_Formed v10 a1) fun v11 =>
    bind (geti a0.sub 1) fun v12 =>
    bind (r02_Formed v12 a1) fun v13 =>
    if v11.2 = true then
     if v13.2 = true then
      if v11.1.v = true then
       some ((Ty.mk false ByteArray.empty ([] : List Ty)), false)
      else
      if ¬ v11.1.name = (ByteArray.mk #[102, 117, 110]) then
       some ((Ty.mk false ByteArray.empty ([] : List Ty)), false)
      else
      if ¬ ((Ty.Ds v11.1.args).length : Int) = 2 then
       some ((Ty.mk false ByteArray.empty ([] : List Ty)), false)
      else
      bind (geti v11.1.args 0) fun v19 =>
      bind (r01_Same v19 v13.1) fun v20 =>
      if v20 = true then
       bind (geti v11.1.args 1) fun v22 =>
       some (v22, true)
      else
      some ((Ty.mk false ByteArray.empty ([] : List Ty)), false)
     else
     some ((Ty.mk false ByteArray.empty ([] : List Ty)), false)
    else
    some ((Ty.mk false ByteArray.empty ([] : List Ty)), false)
   else
   some ((Ty.mk false ByteArray.empty ([] : List Ty)), false)
  else
  if a0.kind = 5 then
   bind (r02_Name a0.name) fun v6 =>
   if v6 = true then
    bind (r01_Valid a0.ty) fun v8 =>
    if v8 = true then
     if ¬ a0.index = 0 then
      some ((Ty.mk false ByteArray.empty ([] : List Ty)), false)
     else
     if ¬ ((Tm.Ds a0.sub).length : Int) = 1 then
      some ((Ty.mk false ByteArray.empty ([] : List Ty)), false)
     else
     bind (geti a0.sub 0) fun v12 =>
     bind (app ([a0.ty]) a1) fun v13 =>
     bind (r02_Formed v12 v13) fun v14 =>
     r02_Formed_j0 a0 v14
    else
    some ((Ty.mk false ByteArray.empty ([] : List Ty)), false)
   else
   some ((Ty.mk false ByteArray.empty ([] : List Ty)), false)
  else
  some ((Ty.mk false ByteArray.empty ([] : List Ty)), false) := r02_Formed'.eq_def (a0, a1)
def r02_Check (a0 : Tm) : Option Int :=
 bind (r02_Small a0) fun v1 =>
 if v1 = true then
  bind (r02_Formed a0 ([] : List Ty)) fun v3 =>
  if v3.2 = true then
   some 0
  else
  some 20
 else
 some 21
def r31_Get (a0 : AStore) (a1 : Int) : Option (Tm × Int) :=
 bind (r31_Size a0 a1) fun v1 =>
 if ¬ v1.2 = 0 then
  some ((Tm.mk 0 ByteArray.empty (Ty.mk false ByteArray.empty ([] : List Ty)) 0 ([] : List Tm)), v1.2)
 else
 bind (r31_At a0 a1) fun v3 =>
 bind (r02_Check v3) fun v4 =>
 if ¬ v4 = 0 then
  some ((Tm.mk 0 ByteArray.empty (Ty.mk false ByteArray.empty ([] : List Ty)) 0 ([] : List Tm)), v4)
 else
 some (v3, 0)
def hash_Size_j0 : Option (Int × Int) :=
 some (0, 4)
def hash_Size_j0b : Option (Int × Int) :=
 some (0, 8)
def hash_Size_j0c (a1 : Int) (v4 : ((List YN) × (List XN) × (List (YK × Int)) × (List (XK × Int)))) : Option (Int × Int) :=
 bind (hash_table_size_io a1 v4.1 v4.2.1 v4.2.2.1 v4.2.2.2) fun v5 =>
 some (v5.1, v5.2.1)
def hash_Size (a0 : AStore) (a1 : Int) : Option (Int × Int) :=
 bind (hash_open_io a0) fun v1 =>
 match v1 with
 | .inl v2 =>
  hash_Size_j0
 | .inr (.inl v3) =>
  hash_Size_j0b
 | .inr (.inr v4) =>
  hash_Size_j0c a1 v4
def hash_Shared_j0 : Option (Int × Int) :=
 some (0, 4)
def hash_Shared_j0b : Option (Int × Int) :=
 some (0, 8)
mutual
def hash_Shared_l0' (p : (Int × Int × (List Bool) × ((List YN) × (List XN) × (List (YK × Int)) × (List (XK × Int))))) : Option (Int × Int) := match p with
 | (t9_1, t10_1, a6_1, v4) =>
  if 0 ≤ t10_1 then
   bind (wantb (0 ≤ t10_1 ∧ t10_1 < (a6_1.length : Int))) fun g14 =>
   bind (geti a6_1 t10_1) fun v15 =>
   if v15 = true then
    bind (some (IntKind.wrap .i64 (t9_1 + 1))) fun v17 =>
    bind (geti v4.2.1 t10_1) fun v18 =>
    hash_Shared_l1' (v18.sub, a6_1, t10_1, v4, v17)
   else
   bind (some (IntKind.wrap .i64 (t10_1 - 1))) fun v17 =>
   hash_Shared_l0' (t9_1, v17, a6_1, v4)
  else
  some (t9_1, 0)
 partial_fixpoint
def hash_Shared_l1' (p : ((List Int) × (List Bool) × Int × ((List YN) × (List XN) × (List (YK × Int)) × (List (XK × Int))) × Int)) : Option (Int × Int) := match p with
 | (rest2, a6_2, t10_1, v4, v17) =>
  match rest2 with
  | [] =>
   bind (some (IntKind.wrap .i64 (t10_1 - 1))) fun v63 =>
   hash_Shared_l0' (v17, v63, a6_2, v4)
  | v62 :: rest2 =>
   bind (wantb (0 ≤ v62 ∧ v62 < (a6_2.length : Int))) fun g64 =>
   bind (seti a6_2 v62 true) fun v65 =>
   hash_Shared_l1' (rest2, v65, t10_1, v4, v17)
 partial_fixpoint
end
def hash_Shared_l0 (t9_1 : Int) (t10_1 : Int) (a6_1 : (List Bool)) (v4 : ((List YN) × (List XN) × (List (YK × Int)) × (List (XK × Int)))) : Option (Int × Int) := hash_Shared_l0' (t9_1, t10_1, a6_1, v4)
def hash_Shared_l1 (rest2 : (List Int)) (a6_2 : (List Bool)) (t10_1 : Int) (v4 : ((List YN) × (List XN) × (List (YK × Int)) × (List (XK × Int)))) (v17 : Int) : Option (Int × Int) := hash_Shared_l1' (rest2, a6_2, t10_1, v4, v17)
theorem hash_Shared_l0_eq (t9_1 : Int) (t10_1 : Int) (a6_1 : (List Bool)) (v4 : ((List YN) × (List XN) × (List (YK × Int)) × (List (XK × Int)))) : hash_Shared_l0 t9_1 t10_1 a6_1 v4 =
  if 0 ≤ t10_1 then
   bind (wantb (0 ≤ t10_1 ∧ t10_1 < (a6_1.length : Int))) fun g14 =>
   bind (geti a6_1 t10_1) fun v15 =>
   if v15 = true then
    bind (some (IntKind.wrap .i64 (t9_1 + 1))) fun v17 =>
    bind (geti v4.2.1 t10_1) fun v18 =>
    hash_Shared_l1 v18.sub a6_1 t10_1 v4 v17
   else
   bind (some (IntKind.wrap .i64 (t10_1 - 1))) fun v17 =>
   hash_Shared_l0 t9_1 v17 a6_1 v4
  else
  some (t9_1, 0) := hash_Shared_l0'.eq_def (t9_1, t10_1, a6_1, v4)
theorem hash_Shared_l1_eq (rest2 : (List Int)) (a6_2 : (List Bool)) (t10_1 : Int) (v4 : ((List YN) × (List XN) × (List (YK × Int)) × (List (XK × Int)))) (v17 : Int) : hash_Shared_l1 rest2 a6_2 t10_1 v4 v17 =
  match rest2 with
  | [] =>
   bind (some (IntKind.wrap .i64 (t10_1 - 1))) fun v63 =>
   hash_Shared_l0 v17 v63 a6_2 v4
  | v62 :: rest2 =>
   bind (wantb (0 ≤ v62 ∧ v62 < (a6_2.length : Int))) fun g64 =>
   bind (seti a6_2 v62 true) fun v65 =>
   hash_Shared_l1 rest2 v65 t10_1 v4 v17 := hash_Shared_l1'.eq_def (rest2, a6_2, t10_1, v4, v17)
def hash_Shared_j0c (a1 : Int) (v4 : ((List YN) × (List XN) × (List (YK × Int)) × (List (XK × Int)))) : Option (Int × Int) :=
 if a1 < 0 then
  some (0, 6)
 else
 if ((XN.Ds v4.2.1).length : Int) ≤ a1 then
  some (0, 6)
 else
 bind (some (IntKind.wrap .i64 (a1 + 1))) fun v7 =>
 bind (mkn false v7) fun v8 =>
 bind (wantb (0 ≤ a1 ∧ a1 < (v8.length : Int))) fun g10 =>
 bind (seti v8 a1 true) fun v11 =>
 hash_Shared_l0 0 a1 v11 v4
def hash_Shared (a0 : AStore) (a1 : Int) : Option (Int × Int) :=
 bind (hash_open_io a0) fun v1 =>
 match v1 with
 | .inl v2 =>
  hash_Shared_j0
 | .inr (.inl v3) =>
  hash_Shared_j0b
 | .inr (.inr v4) =>
  hash_Shared_j0c a1 v4
mutual
def r31_Reached_io' (p : (AStore × Int × (List Int))) : Option (List Int) := match p with
 | (a0, a1, a2) =>
  r31_Reached_io_l0' (0, a0, a1, a2)
 partial_fixpoint
def r31_Reached_io_l0' (p : (Int × AStore × Int × (List Int))) : Option (List Int) := match p with
 | (t7_0, a0, a1, a2) =>
  if t7_0 < ((intDs_i64 a2).length : Int) then
   bind (geti a2 t7_0) fun v9 =>
   if v9 = a1 then
    some a2
   else
   bind (some (IntKind.wrap .i64 (t7_0 + 1))) fun v11 =>
   r31_Reached_io_l0' (v11, a0, a1, a2)
  else
  bind (app a2 ([a1])) fun v9 =>
  r31_Reached_io_l1' (v9, 0, a0, a1)
 partial_fixpoint
def r31_Reached_io_l1' (p : ((List Int) × Int × AStore × Int)) : Option (List Int) := match p with
 | (t2_1, t8_1, a0, a1) =>
  bind (geti a0.terms a1) fun v10 =>
  if t8_1 < ((intDs_i64 v10.sub).length : Int) then
   bind (geti a0.terms a1) fun v12 =>
   bind (geti v12.sub t8_1) fun v13 =>
   bind (r31_Reached_io' (a0, v13, t2_1)) fun v14 =>
   bind (some (IntKind.wrap .i64 (t8_1 + 1))) fun v15 =>
   r31_Reached_io_l1' (v14, v15, a0, a1)
  else
  some t2_1
 partial_fixpoint
end
def r31_Reached_io (a0 : AStore) (a1 : Int) (a2 : (List Int)) : Option (List Int) := r31_Reached_io' (a0, a1, a2)
def r31_Reached_io_l0 (t7_0 : Int) (a0 : AStore) (a1 : Int) (a2 : (List Int)) : Option (List Int) := r31_Reached_io_l0' (t7_0, a0, a1, a2)
def r31_Reached_io_l1 (t2_1 : (List Int)) (t8_1 : Int) (a0 : AStore) (a1 : Int) : Option (List Int) := r31_Reached_io_l1' (t2_1, t8_1, a0, a1)
theorem r31_Reached_io_eq (a0 : AStore) (a1 : Int) (a2 : (List Int)) : r31_Reached_io a0 a1 a2 =
  r31_Reached_io_l0 0 a0 a1 a2 := r31_Reached_io'.eq_def (a0, a1, a2)
theorem r31_Reached_io_l0_eq (t7_0 : Int) (a0 : AStore) (a1 : Int) (a2 : (List Int)) : r31_Reached_io_l0 t7_0 a0 a1 a2 =
  if t7_0 < ((intDs_i64 a2).length : Int) then
   bind (geti a2 t7_0) fun v9 =>
   if v9 = a1 then
    some a2
   else
   bind (some (IntKind.wrap .i64 (t7_0 + 1))) fun v11 =>
   r31_Reached_io_l0 v11 a0 a1 a2
  else
  bind (app a2 ([a1])) fun v9 =>
  r31_Reached_io_l1 v9 0 a0 a1 := r31_Reached_io_l0'.eq_def (t7_0, a0, a1, a2)
theorem r31_Reached_io_l1_eq (t2_1 : (List Int)) (t8_1 : Int) (a0 : AStore) (a1 : Int) : r31_Reached_io_l1 t2_1 t8_1 a0 a1 =
  bind (geti a0.terms a1) fun v10 =>
  if t8_1 < ((intDs_i64 v10.sub).length : Int) then
   bind (geti a0.terms a1) fun v12 =>
   bind (geti v12.sub t8_1) fun v13 =>
   bind (r31_Reached_io a0 v13 t2_1) fun v14 =>
   bind (some (IntKind.wrap .i64 (t8_1 + 1))) fun v15 =>
   r31_Reached_io_l1 v14 v15 a0 a1
  else
  some t2_1 := r31_Reached_io_l1'.eq_def (t2_1, t8_1, a0, a1)
def r31_Shared_j0 (t6_0 : Int) (a0 : AStore) (a1 : Int) : Option (Int × Int) :=
 if ¬ t6_0 = 0 then
  some (0, t6_0)
 else
 bind (r31_Reached_io a0 a1 ([] : List Int)) fun v8 =>
 some (((intDs_i64 v8).length : Int), 0)
def r31_Shared (a0 : AStore) (a1 : Int) : Option (Int × Int) :=
 bind (r31_Check a0) fun v1 =>
 if v1 = 0 then
  if a1 < 0 then
   r31_Shared_j0 6 a0 a1
  else
  if ((XN.Ds a0.terms).length : Int) ≤ a1 then
   r31_Shared_j0 6 a0 a1
  else
  r31_Shared_j0 v1 a0 a1
 else
 r31_Shared_j0 v1 a0 a1
def hash_Check (a0 : AStore) : Option Int :=
 bind (hash_open_io a0) fun v1 =>
 match v1 with
 | .inl v2 =>
  some 4
 | .inr (.inl v3) =>
  some 8
 | .inr (.inr v4) =>
  some 0
mutual
def r02_Exact' (p : (Tm × Tm)) : Option Bool := match p with
 | (a0, a1) =>
  if ¬ a0.kind = a1.kind then
   some false
  else
  if ¬ a0.name = a1.name then
   some false
  else
  bind (r01_Same a0.ty a1.ty) fun v3 =>
  if v3 = true then
   if ¬ a0.index = a1.index then
    some false
   else
   if ¬ ((Tm.Ds a0.sub).length : Int) = ((Tm.Ds a1.sub).length : Int) then
    some false
   else
   r02_Exact_l0' (a0.sub, 0, a1)
  else
  some false
 partial_fixpoint
def r02_Exact_l0' (p : ((List Tm) × Nat × Tm)) : Option Bool := match p with
 | (rest0, k0, a1) =>
  match rest0 with
  | [] =>
   some true
  | v6 :: rest0 =>
   bind (geti a1.sub (k0 : Int)) fun v7 =>
   bind (r02_Exact' (v6, v7)) fun v8 =>
   if v8 = true then
    r02_Exact_l0' (rest0, k0 + 1, a1)
   else
   some false
 partial_fixpoint
end
def r02_Exact (a0 : Tm) (a1 : Tm) : Option Bool := r02_Exact' (a0, a1)
def r02_Exact_l0 (rest0 : (List Tm)) (k0 : Nat) (a1 : Tm) : Option Bool := r02_Exact_l0' (rest0, k0, a1)
theorem r02_Exact_eq (a0 : Tm) (a1 : Tm) : r02_Exact a0 a1 =
  if ¬ a0.kind = a1.kind then
   some false
  else
  if ¬ a0.name = a1.name then
   some false
  else
  bind (r01_Same a0.ty a1.ty) fun v3 =>
  if v3 = true then
   if ¬ a0.index = a1.index then
    some false
   else
   if ¬ ((Tm.Ds a0.sub).length : Int) = ((Tm.Ds a1.sub).length : Int) then
    some false
   else
   r02_Exact_l0 a0.sub 0 a1
  else
  some false := r02_Exact'.eq_def (a0, a1)
theorem r02_Exact_l0_eq (rest0 : (List Tm)) (k0 : Nat) (a1 : Tm) : r02_Exact_l0 rest0 k0 a1 =
  match rest0 with
  | [] =>
   some true
  | v6 :: rest0 =>
   bind (geti a1.sub (k0 : Int)) fun v7 =>
   bind (r02_Exact v6 v7) fun v8 =>
   if v8 = true then
    r02_Exact_l0 rest0 (k0 + 1) a1
   else
   some false := r02_Exact_l0'.eq_def (rest0, k0, a1)
def hash_Twin_ar_l1' (p : ((List XN) × (List XN) × (List YN))) : Option ((List YN) × (List XN)) := match p with
 | (rest1, c2_1_1, c2_0_0) =>
  match rest1 with
  | [] =>
   some (c2_0_0, c2_1_1)
  | v30 :: rest1 =>
   bind (slices_Clone_int_int v30.sub) fun v31 =>
   bind (app c2_1_1 ([(XN.mk v30.kind v30.name v30.type_ v30.index v31)])) fun v32 =>
   hash_Twin_ar_l1' (rest1, v32, c2_0_0)
 partial_fixpoint
def hash_Twin_ar_l1 (rest1 : (List XN)) (c2_1_1 : (List XN)) (c2_0_0 : (List YN)) : Option ((List YN) × (List XN)) := hash_Twin_ar_l1' (rest1, c2_1_1, c2_0_0)
theorem hash_Twin_ar_l1_eq (rest1 : (List XN)) (c2_1_1 : (List XN)) (c2_0_0 : (List YN)) : hash_Twin_ar_l1 rest1 c2_1_1 c2_0_0 =
  match rest1 with
  | [] =>
   some (c2_0_0, c2_1_1)
  | v30 :: rest1 =>
   bind (slices_Clone_int_int v30.sub) fun v31 =>
   bind (app c2_1_1 ([(XN.mk v30.kind v30.name v30.type_ v30.index v31)])) fun v32 =>
   hash_Twin_ar_l1 rest1 v32 c2_0_0 := hash_Twin_ar_l1'.eq_def (rest1, c2_1_1, c2_0_0)
def hash_Twin_ar_j0 (a0 : AStore) (c2_0_0 : (List YN)) : Option ((List YN) × (List XN)) :=
 hash_Twin_ar_l1 a0.terms ([] : List XN) c2_0_0
def hash_Twin_ar_l0' (p : ((List YN) × (List YN) × AStore)) : Option ((List YN) × (List XN)) := match p with
 | (rest0, c2_0_0, a0) =>
  match rest0 with
  | [] =>
   hash_Twin_ar_j0 a0 c2_0_0
  | v12 :: rest0 =>
   bind (slices_Clone_int_int v12.args) fun v13 =>
   bind (app c2_0_0 ([(YN.mk v12.var v12.name v13)])) fun v14 =>
   hash_Twin_ar_l0' (rest0, v14, a0)
 partial_fixpoint
def hash_Twin_ar_l0 (rest0 : (List YN)) (c2_0_0 : (List YN)) (a0 : AStore) : Option ((List YN) × (List XN)) := hash_Twin_ar_l0' (rest0, c2_0_0, a0)
theorem hash_Twin_ar_l0_eq (rest0 : (List YN)) (c2_0_0 : (List YN)) (a0 : AStore) : hash_Twin_ar_l0 rest0 c2_0_0 a0 =
  match rest0 with
  | [] =>
   hash_Twin_ar_j0 a0 c2_0_0
  | v12 :: rest0 =>
   bind (slices_Clone_int_int v12.args) fun v13 =>
   bind (app c2_0_0 ([(YN.mk v12.var v12.name v13)])) fun v14 =>
   hash_Twin_ar_l0 rest0 v14 a0 := hash_Twin_ar_l0'.eq_def (rest0, c2_0_0, a0)
def hash_Twin_ar (a0 : AStore) : Option ((List YN) × (List XN)) :=
 hash_Twin_ar_l0 a0.types ([] : List YN) a0
def r31_Same_l1' (p : ((List XN) × Nat × AStore)) : Option Bool := match p with
 | (rest1, k1, a1) =>
  match rest1 with
  | [] =>
   some true
  | v7 :: rest1 =>
   bind (geti a1.terms (k1 : Int)) fun v8 =>
   bind (r31_sameTerm v7 v8) fun v9 =>
   if v9 = true then
    bind (geti a1.terms (k1 : Int)) fun v11 =>
    if ¬ v7.name = v11.name then
     some false
    else
    r31_Same_l1' (rest1, k1 + 1, a1)
   else
   some false
 partial_fixpoint
def r31_Same_l1 (rest1 : (List XN)) (k1 : Nat) (a1 : AStore) : Option Bool := r31_Same_l1' (rest1, k1, a1)
theorem r31_Same_l1_eq (rest1 : (List XN)) (k1 : Nat) (a1 : AStore) : r31_Same_l1 rest1 k1 a1 =
  match rest1 with
  | [] =>
   some true
  | v7 :: rest1 =>
   bind (geti a1.terms (k1 : Int)) fun v8 =>
   bind (r31_sameTerm v7 v8) fun v9 =>
   if v9 = true then
    bind (geti a1.terms (k1 : Int)) fun v11 =>
    if ¬ v7.name = v11.name then
     some false
    else
    r31_Same_l1 rest1 (k1 + 1) a1
   else
   some false := r31_Same_l1'.eq_def (rest1, k1, a1)
def r31_Same_l0' (p : ((List YN) × Nat × AStore × AStore)) : Option Bool := match p with
 | (rest0, k0, a0, a1) =>
  match rest0 with
  | [] =>
   r31_Same_l1 a0.terms 0 a1
  | v6 :: rest0 =>
   bind (geti a1.types (k0 : Int)) fun v7 =>
   bind (r31_sameType v6 v7) fun v8 =>
   if v8 = true then
    r31_Same_l0' (rest0, k0 + 1, a0, a1)
   else
   some false
 partial_fixpoint
def r31_Same_l0 (rest0 : (List YN)) (k0 : Nat) (a0 : AStore) (a1 : AStore) : Option Bool := r31_Same_l0' (rest0, k0, a0, a1)
theorem r31_Same_l0_eq (rest0 : (List YN)) (k0 : Nat) (a0 : AStore) (a1 : AStore) : r31_Same_l0 rest0 k0 a0 a1 =
  match rest0 with
  | [] =>
   r31_Same_l1 a0.terms 0 a1
  | v6 :: rest0 =>
   bind (geti a1.types (k0 : Int)) fun v7 =>
   bind (r31_sameType v6 v7) fun v8 =>
   if v8 = true then
    r31_Same_l0 rest0 (k0 + 1) a0 a1
   else
   some false := r31_Same_l0'.eq_def (rest0, k0, a0, a1)
def r31_Same (a0 : AStore) (a1 : AStore) : Option Bool :=
 if ¬ ((YN.Ds a0.types).length : Int) = ((YN.Ds a1.types).length : Int) then
  some false
 else
 if ¬ ((XN.Ds a0.terms).length : Int) = ((XN.Ds a1.terms).length : Int) then
  some false
 else
 r31_Same_l0 a0.types 0 a0 a1
def slices_Equal_int_int_l0' (p : ((List Int) × Nat × (List Int))) : Option Bool := match p with
 | (rest0, k0, a1) =>
  match rest0 with
  | [] =>
   some true
  | v14 :: rest0 =>
   bind (geti a1 (k0 : Int)) fun v15 =>
   if ¬ v14 = v15 then
    some false
   else
   slices_Equal_int_int_l0' (rest0, k0 + 1, a1)
 partial_fixpoint
def slices_Equal_int_int_l0 (rest0 : (List Int)) (k0 : Nat) (a1 : (List Int)) : Option Bool := slices_Equal_int_int_l0' (rest0, k0, a1)
theorem slices_Equal_int_int_l0_eq (rest0 : (List Int)) (k0 : Nat) (a1 : (List Int)) : slices_Equal_int_int_l0 rest0 k0 a1 =
  match rest0 with
  | [] =>
   some true
  | v14 :: rest0 =>
   bind (geti a1 (k0 : Int)) fun v15 =>
   if ¬ v14 = v15 then
    some false
   else
   slices_Equal_int_int_l0 rest0 (k0 + 1) a1 := slices_Equal_int_int_l0'.eq_def (rest0, k0, a1)
def slices_Equal_int_int (a0 : (List Int)) (a1 : (List Int)) : Option Bool :=
 if ¬ ((intDs_i64 a0).length : Int) = ((intDs_i64 a1).length : Int) then
  some false
 else
 slices_Equal_int_int_l0 a0 0 a1
def hash_Same_1 (a0 : YN) (a1 : YN) : Option Bool :=
 if a0.var = a1.var then
  if a0.name = a1.name then
   bind (slices_Equal_int_int a0.args a1.args) fun v3 =>
   some v3
  else
  some false
 else
 some false
def slices_EqualFunc_TypeNode_TypeNode_TypeNode_TypeNode__hash_Same_1_l0' (p : ((List YN) × Nat × (List YN))) : Option Bool := match p with
 | (rest0, k0, a1) =>
  match rest0 with
  | [] =>
   some true
  | v18 :: rest0 =>
   bind (geti a1 (k0 : Int)) fun v19 =>
   bind (hash_Same_1 v18 v19) fun v20 =>
   if v20 = true then
    slices_EqualFunc_TypeNode_TypeNode_TypeNode_TypeNode__hash_Same_1_l0' (rest0, k0 + 1, a1)
   else
   some false
 partial_fixpoint
def slices_EqualFunc_TypeNode_TypeNode_TypeNode_TypeNode__hash_Same_1_l0 (rest0 : (List YN)) (k0 : Nat) (a1 : (List YN)) : Option Bool := slices_EqualFunc_TypeNode_TypeNode_TypeNode_TypeNode__hash_Same_1_l0' (rest0, k0, a1)
theorem slices_EqualFunc_TypeNode_TypeNode_TypeNode_TypeNode__hash_Same_1_l0_eq (rest0 : (List YN)) (k0 : Nat) (a1 : (List YN)) : slices_EqualFunc_TypeNode_TypeNode_TypeNode_TypeNode__hash_Same_1_l0 rest0 k0 a1 =
  match rest0 with
  | [] =>
   some true
  | v18 :: rest0 =>
   bind (geti a1 (k0 : Int)) fun v19 =>
   bind (hash_Same_1 v18 v19) fun v20 =>
   if v20 = true then
    slices_EqualFunc_TypeNode_TypeNode_TypeNode_TypeNode__hash_Same_1_l0 rest0 (k0 + 1) a1
   else
   some false := slices_EqualFunc_TypeNode_TypeNode_TypeNode_TypeNode__hash_Same_1_l0'.eq_def (rest0, k0, a1)
def slices_EqualFunc_TypeNode_TypeNode_TypeNode_TypeNode__hash_Same_1 (a0 : (List YN)) (a1 : (List YN)) : Option Bool :=
 if ¬ ((YN.Ds a0).length : Int) = ((YN.Ds a1).length : Int) then
  some false
 else
 slices_EqualFunc_TypeNode_TypeNode_TypeNode_TypeNode__hash_Same_1_l0 a0 0 a1
def hash_Same_2 (a0 : XN) (a1 : XN) : Option Bool :=
 if a0.kind = a1.kind then
  if a0.name = a1.name then
   if a0.type_ = a1.type_ then
    if a0.index = a1.index then
     bind (slices_Equal_int_int a0.sub a1.sub) fun v5 =>
     some v5
    else
    some false
   else
   some false
  else
  some false
 else
 some false
def slices_EqualFunc_TermNode_TermNode_TermNode_TermNode__hash_Same_2_l0' (p : ((List XN) × Nat × (List XN))) : Option Bool := match p with
 | (rest0, k0, a1) =>
  match rest0 with
  | [] =>
   some true
  | v18 :: rest0 =>
   bind (geti a1 (k0 : Int)) fun v19 =>
   bind (hash_Same_2 v18 v19) fun v20 =>
   if v20 = true then
    slices_EqualFunc_TermNode_TermNode_TermNode_TermNode__hash_Same_2_l0' (rest0, k0 + 1, a1)
   else
   some false
 partial_fixpoint
def slices_EqualFunc_TermNode_TermNode_TermNode_TermNode__hash_Same_2_l0 (rest0 : (List XN)) (k0 : Nat) (a1 : (List XN)) : Option Bool := slices_EqualFunc_TermNode_TermNode_TermNode_TermNode__hash_Same_2_l0' (rest0, k0, a1)
theorem slices_EqualFunc_TermNode_TermNode_TermNode_TermNode__hash_Same_2_l0_eq (rest0 : (List XN)) (k0 : Nat) (a1 : (List XN)) : slices_EqualFunc_TermNode_TermNode_TermNode_TermNode__hash_Same_2_l0 rest0 k0 a1 =
  match rest0 with
  | [] =>
   some true
  | v18 :: rest0 =>
   bind (geti a1 (k0 : Int)) fun v19 =>
   bind (hash_Same_2 v18 v19) fun v20 =>
   if v20 = true then
    slices_EqualFunc_TermNode_TermNode_TermNode_TermNode__hash_Same_2_l0 rest0 (k0 + 1) a1
   else
   some false := slices_EqualFunc_TermNode_TermNode_TermNode_TermNode__hash_Same_2_l0'.eq_def (rest0, k0, a1)
def slices_EqualFunc_TermNode_TermNode_TermNode_TermNode__hash_Same_2 (a0 : (List XN)) (a1 : (List XN)) : Option Bool :=
 if ¬ ((XN.Ds a0).length : Int) = ((XN.Ds a1).length : Int) then
  some false
 else
 slices_EqualFunc_TermNode_TermNode_TermNode_TermNode__hash_Same_2_l0 a0 0 a1
def hash_Same (a0 : AStore) (a1 : AStore) : Option Bool :=
 bind (slices_EqualFunc_TypeNode_TypeNode_TypeNode_TypeNode__hash_Same_1 a0.types a1.types) fun v1 =>
 if v1 = true then
  bind (slices_EqualFunc_TermNode_TermNode_TermNode_TermNode__hash_Same_2 a0.terms a1.terms) fun v3 =>
  some v3
 else
 some false
def sequentlaw31_HashGets_l0' (p : (Int × (List XN) × AStore × Bool × AStore)) : Option Bool := match p with
 | (t28_0, a4_0, a0, t26_2, v7) =>
  if t28_0 < (a4_0.length : Int) then
   bind (wantb (0 ≤ t28_0 ∧ t28_0 < (a4_0.length : Int))) fun g38 =>
   bind (geti a4_0 t28_0) fun v39 =>
   bind (seti a4_0 t28_0 (XN.mk 77 v39.name v39.type_ v39.index v39.sub)) fun v40 =>
   bind (some (IntKind.wrap .i64 (t28_0 + 1))) fun v41 =>
   sequentlaw31_HashGets_l0' (v41, v40, a0, t26_2, v7)
  else
  if t26_2 = true then
   bind (r31_Same v7 a0) fun v38 =>
   some v38
  else
  some false
 partial_fixpoint
def sequentlaw31_HashGets_l0 (t28_0 : Int) (a4_0 : (List XN)) (a0 : AStore) (t26_2 : Bool) (v7 : AStore) : Option Bool := sequentlaw31_HashGets_l0' (t28_0, a4_0, a0, t26_2, v7)
theorem sequentlaw31_HashGets_l0_eq (t28_0 : Int) (a4_0 : (List XN)) (a0 : AStore) (t26_2 : Bool) (v7 : AStore) : sequentlaw31_HashGets_l0 t28_0 a4_0 a0 t26_2 v7 =
  if t28_0 < (a4_0.length : Int) then
   bind (wantb (0 ≤ t28_0 ∧ t28_0 < (a4_0.length : Int))) fun g38 =>
   bind (geti a4_0 t28_0) fun v39 =>
   bind (seti a4_0 t28_0 (XN.mk 77 v39.name v39.type_ v39.index v39.sub)) fun v40 =>
   bind (some (IntKind.wrap .i64 (t28_0 + 1))) fun v41 =>
   sequentlaw31_HashGets_l0 v41 v40 a0 t26_2 v7
  else
  if t26_2 = true then
   bind (r31_Same v7 a0) fun v38 =>
   some v38
  else
  some false := sequentlaw31_HashGets_l0'.eq_def (t28_0, a4_0, a0, t26_2, v7)
def sequentlaw31_HashGets_j1 (t26_2 : Bool) (a0 : AStore) (v7 : AStore) (v27 : ((List YN) × (List XN))) : Option Bool :=
 sequentlaw31_HashGets_l0 0 v27.2 a0 t26_2 v7
def sequentlaw31_HashGets_j0 (t26_1 : Bool) (a0 : AStore) (a1 : AStore) (v7 : AStore) : Option Bool :=
 bind (hash_Twin_ar v7) fun v27 =>
 if t26_1 = true then
  bind (r31_Same (AStore.mk v27.1 v27.2) a0) fun v29 =>
  if v29 = true then
   bind (hash_Same v7 a1) fun v31 =>
   bind (r31_Same a0 a1) fun v32 =>
   if v31 = v32 then
    bind (hash_Same (AStore.mk v27.1 v27.2) v7) fun v34 =>
    sequentlaw31_HashGets_j1 v34 a0 v7 v27
   else
   sequentlaw31_HashGets_j1 false a0 v7 v27
  else
  sequentlaw31_HashGets_j1 false a0 v7 v27
 else
 sequentlaw31_HashGets_j1 false a0 v7 v27
def sequentlaw31_HashGets (a0 : AStore) (a1 : AStore) (a2 : Int) (a3 : Int) : Option Bool :=
 bind (r31_Great a0) fun v1 =>
 if v1 = true then
  some true
 else
 bind (r31_Great a1) fun v3 =>
 if v3 = true then
  some true
 else
 bind (r31_Huge a0 a3) fun v5 =>
 if v5 = true then
  some true
 else
 bind (r31_Twin a0) fun v7 =>
 bind (hash_GetType v7 a2) fun v8 =>
 bind (r31_GetType a0 a2) fun v9 =>
 bind (hash_Get v7 a3) fun v10 =>
 bind (r31_Get a0 a3) fun v11 =>
 bind (hash_Size v7 a3) fun v12 =>
 bind (r31_Size a0 a3) fun v13 =>
 bind (hash_Shared v7 a3) fun v14 =>
 bind (r31_Shared a0 a3) fun v15 =>
 bind (hash_Check v7) fun v16 =>
 bind (r31_Check a0) fun v17 =>
 if v16 = v17 then
  bind (r01_Same v8.1 v9.1) fun v19 =>
  if v19 = true then
   if v8.2 = v9.2 then
    bind (r02_Exact v10.1 v11.1) fun v22 =>
    if v22 = true then
     if v10.2 = v11.2 then
      if v12.1 = v13.1 then
       if v12.2 = v13.2 then
        if v14.1 = v15.1 then
         if v14.2 = v15.2 then
          sequentlaw31_HashGets_j0 true a0 a1 v7
         else
         sequentlaw31_HashGets_j0 false a0 a1 v7
        else
        sequentlaw31_HashGets_j0 false a0 a1 v7
       else
       sequentlaw31_HashGets_j0 false a0 a1 v7
      else
      sequentlaw31_HashGets_j0 false a0 a1 v7
     else
     sequentlaw31_HashGets_j0 false a0 a1 v7
    else
    sequentlaw31_HashGets_j0 false a0 a1 v7
   else
   sequentlaw31_HashGets_j0 false a0 a1 v7
  else
  sequentlaw31_HashGets_j0 false a0 a1 v7
 else
 sequentlaw31_HashGets_j0 false a0 a1 v7
end Go.Proofs.Ytpgecpmonaldiaa.Fw

