/- Functions. -/
import Derived.Test.YtdjmibbgoajcaaaGData
set_option autoImplicit false
set_option linter.unusedVariables false
set_option linter.unusedSimpArgs false
namespace Go.Proofs.Ytdjmibbgoajcaaa.Fw
open Go Go.Proofs
mutual
def equality_depth' (a0 : Tm) : Option Int :=
  equality_depth_l0' (a0.sub, 0)
  partial_fixpoint
def equality_depth_l0' (p : ((List Tm) × Int)) : Option Int := match p with
  | (rest0, t3_0) =>
    match rest0 with
    | [] =>
      bind (some (IntKind.wrap .i64 (t3_0 + 1))) fun v3 =>
      some v3
    | v1 :: rest0 =>
      bind (equality_depth' v1) fun v2 =>
      equality_depth_l0' (rest0, (max t3_0 v2))
  partial_fixpoint
end
def equality_depth (a0 : Tm) : Option Int := equality_depth' a0
def equality_depth_l0 (rest0 : (List Tm)) (t3_0 : Int) : Option Int := equality_depth_l0' (rest0, t3_0)
theorem equality_depth_eq (a0 : Tm) : equality_depth a0 =
    equality_depth_l0 a0.sub 0 := equality_depth'.eq_def a0
theorem equality_depth_l0_eq (rest0 : (List Tm)) (t3_0 : Int) : equality_depth_l0 rest0 t3_0 =
    match rest0 with
    | [] =>
      bind (some (IntKind.wrap .i64 (t3_0 + 1))) fun v3 =>
      some v3
    | v1 :: rest0 =>
      bind (equality_depth v1) fun v2 =>
      equality_depth_l0 rest0 (max t3_0 v2) := equality_depth_l0'.eq_def (rest0, t3_0)

mutual
def types_Twin' (a0 : Ty) : Option Ty :=
  if 0 < ((Ty.Ds a0.args).length : Int) then
    bind (mkn (Ty.mk false ByteArray.empty []) ((Ty.Ds a0.args).length : Int)) fun v2 =>
    types_Twin_j0' (a0, v2)
  else
  types_Twin_j0b' a0
  partial_fixpoint
def types_Twin_j0' (p : (Ty × (List Ty))) : Option Ty := match p with
  | (a0, v2) =>
    types_Twin_l0' (a0.args, 0, v2, a0)
  partial_fixpoint
def types_Twin_l0' (p : ((List Ty) × Nat × (List Ty) × Ty)) : Option Ty := match p with
  | (rest0, k0, a2_0, a0) =>
    match rest0 with
    | [] =>
      some (Ty.mk a0.v a0.name a2_0)
    | v3 :: rest0 =>
      bind (types_Twin' v3) fun v4 =>
      bind (wantb (0 ≤ (k0 : Int) ∧ (k0 : Int) < (a2_0.length : Int))) fun g6 =>
      bind (seti a2_0 (k0 : Int) v4) fun v7 =>
      types_Twin_l0' (rest0, k0 + 1, v7, a0)
  partial_fixpoint
def types_Twin_j0b' (a0 : Ty) : Option Ty :=
  types_Twin_l0b' (a0.args, a0)
  partial_fixpoint
def types_Twin_l0b' (p : ((List Ty) × Ty)) : Option Ty := match p with
  | (rest0, a0) =>
    match rest0 with
    | [] =>
      some (Ty.mk a0.v a0.name ([] : List Ty))
    | v8 :: rest0 =>
      bind (types_Twin' v8) fun v9 =>
      none
  partial_fixpoint
end
def types_Twin (a0 : Ty) : Option Ty := types_Twin' a0
def types_Twin_j0 (a0 : Ty) (v2 : (List Ty)) : Option Ty := types_Twin_j0' (a0, v2)
def types_Twin_l0 (rest0 : (List Ty)) (k0 : Nat) (a2_0 : (List Ty)) (a0 : Ty) : Option Ty := types_Twin_l0' (rest0, k0, a2_0, a0)
def types_Twin_j0b (a0 : Ty) : Option Ty := types_Twin_j0b' a0
def types_Twin_l0b (rest0 : (List Ty)) (a0 : Ty) : Option Ty := types_Twin_l0b' (rest0, a0)
theorem types_Twin_eq (a0 : Ty) : types_Twin a0 =
    if 0 < ((Ty.Ds a0.args).length : Int) then
      bind (mkn (Ty.mk false ByteArray.empty []) ((Ty.Ds a0.args).length : Int)) fun v2 =>
      types_Twin_j0 a0 v2
    else
    types_Twin_j0b a0 := types_Twin'.eq_def a0
theorem types_Twin_j0_eq (a0 : Ty) (v2 : (List Ty)) : types_Twin_j0 a0 v2 =
    types_Twin_l0 a0.args 0 v2 a0 := types_Twin_j0'.eq_def (a0, v2)
theorem types_Twin_l0_eq (rest0 : (List Ty)) (k0 : Nat) (a2_0 : (List Ty)) (a0 : Ty) : types_Twin_l0 rest0 k0 a2_0 a0 =
    match rest0 with
    | [] =>
      some (Ty.mk a0.v a0.name a2_0)
    | v3 :: rest0 =>
      bind (types_Twin v3) fun v4 =>
      bind (wantb (0 ≤ (k0 : Int) ∧ (k0 : Int) < (a2_0.length : Int))) fun g6 =>
      bind (seti a2_0 (k0 : Int) v4) fun v7 =>
      types_Twin_l0 rest0 (k0 + 1) v7 a0 := types_Twin_l0'.eq_def (rest0, k0, a2_0, a0)
theorem types_Twin_j0b_eq (a0 : Ty) : types_Twin_j0b a0 =
    types_Twin_l0b a0.args a0 := types_Twin_j0b'.eq_def a0
theorem types_Twin_l0b_eq (rest0 : (List Ty)) (a0 : Ty) : types_Twin_l0b rest0 a0 =
    match rest0 with
    | [] =>
      some (Ty.mk a0.v a0.name ([] : List Ty))
    | v8 :: rest0 =>
      bind (types_Twin v8) fun v9 =>
      none := types_Twin_l0b'.eq_def (rest0, a0)

def types_Fun (a0 : Ty) (a1 : Ty) : Option Ty :=
  bind (types_Twin a0) fun v1 =>
  bind (types_Twin a1) fun v2 =>
  some (Ty.mk false (ByteArray.mk #[102, 117, 110]) ([v1, v2]))

mutual
def types_Size' (a0 : Ty) : Option Int :=
  types_Size_l0' (a0.args, 1)
  partial_fixpoint
def types_Size_l0' (p : ((List Ty) × Int)) : Option Int := match p with
  | (rest0, t3_0) =>
    match rest0 with
    | [] =>
      some t3_0
    | v1 :: rest0 =>
      bind (types_Size' v1) fun v2 =>
      bind (some (IntKind.wrap .i64 (t3_0 + v2))) fun v3 =>
      types_Size_l0' (rest0, v3)
  partial_fixpoint
end
def types_Size (a0 : Ty) : Option Int := types_Size' a0
def types_Size_l0 (rest0 : (List Ty)) (t3_0 : Int) : Option Int := types_Size_l0' (rest0, t3_0)
theorem types_Size_eq (a0 : Ty) : types_Size a0 =
    types_Size_l0 a0.args 1 := types_Size'.eq_def a0
theorem types_Size_l0_eq (rest0 : (List Ty)) (t3_0 : Int) : types_Size_l0 rest0 t3_0 =
    match rest0 with
    | [] =>
      some t3_0
    | v1 :: rest0 =>
      bind (types_Size v1) fun v2 =>
      bind (some (IntKind.wrap .i64 (t3_0 + v2))) fun v3 =>
      types_Size_l0 rest0 v3 := types_Size_l0'.eq_def (rest0, t3_0)

def equality_thin_j0 (a0 : Tm) (v19 : (Ty × Bool)) : Option (Ty × Bool) :=
  if v19.2 = true then
    bind (types_Fun a0.ty v19.1) fun v21 =>
    bind (types_Size v21) fun v22 =>
    some (v21, (decide (v22 ≤ 100)))
  else
  some (a0.ty, false)

def types_DestFun (a0 : Ty) : Option (Ty × Ty × Bool) :=
  if a0.v = true then
    some ((Ty.mk false ByteArray.empty ([] : List Ty)), (Ty.mk false ByteArray.empty ([] : List Ty)), false)
  else
  if ¬ a0.name = (ByteArray.mk #[102, 117, 110]) then
    some ((Ty.mk false ByteArray.empty ([] : List Ty)), (Ty.mk false ByteArray.empty ([] : List Ty)), false)
  else
  if ¬ ((Ty.Ds a0.args).length : Int) = 2 then
    some ((Ty.mk false ByteArray.empty ([] : List Ty)), (Ty.mk false ByteArray.empty ([] : List Ty)), false)
  else
  bind (geti a0.args 0) fun v4 =>
  bind (geti a0.args 1) fun v5 =>
  bind (types_Twin v4) fun v6 =>
  bind (types_Twin v5) fun v7 =>
  some (v6, v7, true)

def equality_thin' (p : (Tm × (List Ty))) : Option (Ty × Bool) := match p with
  | (a0, a1) =>
    if a0.kind = 3 then
      bind (some (IntKind.wrap .i64 (((Ty.Ds a1).length : Int) - 1))) fun v2 =>
      bind (some (IntKind.wrap .i64 (v2 - a0.index))) fun v3 =>
      bind (geti a1 v3) fun v4 =>
      bind (types_Size v4) fun v5 =>
      some (v4, (decide (v5 ≤ 100)))
    else
    if a0.kind = 4 then
      bind (geti a0.sub 0) fun v7 =>
      bind (equality_thin' (v7, a1)) fun v8 =>
      if v8.2 = true then
        bind (geti a0.sub 1) fun v10 =>
        bind (equality_thin' (v10, a1)) fun v11 =>
        if v11.2 = true then
          bind (types_DestFun v8.1) fun v13 =>
          bind (types_Size v13.2.1) fun v14 =>
          some (v13.2.1, (decide (v14 ≤ 100)))
        else
        some (a0.ty, false)
      else
      some (a0.ty, false)
    else
    if a0.kind = 5 then
      bind (geti a0.sub 0) fun v16 =>
      bind (cut a1 0 ((Ty.Ds a1).length : Int)) fun v17 =>
      bind (app v17 ([a0.ty])) fun v18 =>
      bind (equality_thin' (v16, v18)) fun v19 =>
      equality_thin_j0 a0 v19
    else
    bind (types_Size a0.ty) fun v26 =>
    some (a0.ty, (decide (v26 ≤ 100)))
  partial_fixpoint
def equality_thin (a0 : Tm) (a1 : (List Ty)) : Option (Ty × Bool) := equality_thin' (a0, a1)
theorem equality_thin_eq (a0 : Tm) (a1 : (List Ty)) : equality_thin a0 a1 =
    if a0.kind = 3 then
      bind (some (IntKind.wrap .i64 (((Ty.Ds a1).length : Int) - 1))) fun v2 =>
      bind (some (IntKind.wrap .i64 (v2 - a0.index))) fun v3 =>
      bind (geti a1 v3) fun v4 =>
      bind (types_Size v4) fun v5 =>
      some (v4, (decide (v5 ≤ 100)))
    else
    if a0.kind = 4 then
      bind (geti a0.sub 0) fun v7 =>
      bind (equality_thin v7 a1) fun v8 =>
      if v8.2 = true then
        bind (geti a0.sub 1) fun v10 =>
        bind (equality_thin v10 a1) fun v11 =>
        if v11.2 = true then
          bind (types_DestFun v8.1) fun v13 =>
          bind (types_Size v13.2.1) fun v14 =>
          some (v13.2.1, (decide (v14 ≤ 100)))
        else
        some (a0.ty, false)
      else
      some (a0.ty, false)
    else
    if a0.kind = 5 then
      bind (geti a0.sub 0) fun v16 =>
      bind (cut a1 0 ((Ty.Ds a1).length : Int)) fun v17 =>
      bind (app v17 ([a0.ty])) fun v18 =>
      bind (equality_thin v16 v18) fun v19 =>
      equality_thin_j0 a0 v19
    else
    bind (types_Size a0.ty) fun v26 =>
    some (a0.ty, (decide (v26 ≤ 100))) := equality_thin'.eq_def (a0, a1)

mutual
def terms_Size' (a0 : Tm) : Option Int :=
  terms_Size_l0' (a0.sub, 1)
  partial_fixpoint
def terms_Size_l0' (p : ((List Tm) × Int)) : Option Int := match p with
  | (rest0, t3_0) =>
    match rest0 with
    | [] =>
      some t3_0
    | v1 :: rest0 =>
      bind (terms_Size' v1) fun v2 =>
      bind (some (IntKind.wrap .i64 (t3_0 + v2))) fun v3 =>
      terms_Size_l0' (rest0, v3)
  partial_fixpoint
end
def terms_Size (a0 : Tm) : Option Int := terms_Size' a0
def terms_Size_l0 (rest0 : (List Tm)) (t3_0 : Int) : Option Int := terms_Size_l0' (rest0, t3_0)
theorem terms_Size_eq (a0 : Tm) : terms_Size a0 =
    terms_Size_l0 a0.sub 1 := terms_Size'.eq_def a0
theorem terms_Size_l0_eq (rest0 : (List Tm)) (t3_0 : Int) : terms_Size_l0 rest0 t3_0 =
    match rest0 with
    | [] =>
      some t3_0
    | v1 :: rest0 =>
      bind (terms_Size v1) fun v2 =>
      bind (some (IntKind.wrap .i64 (t3_0 + v2))) fun v3 =>
      terms_Size_l0 rest0 v3 := terms_Size_l0'.eq_def (rest0, t3_0)

def equality_fits (a0 : Tm) : Option Bool :=
  bind (terms_Size a0) fun v1 =>
  if 2000 < v1 then
    some false
  else
  bind (equality_depth a0) fun v3 =>
  if 100 < v3 then
    some false
  else
  bind (equality_thin a0 ([] : List Ty)) fun v5 =>
  some v5.2

def types_name_l0' (p : (Int × ByteArray)) : Option Bool := match p with
  | (t7_0, a0) =>
    if t7_0 < (a0.size : Int) then
      bind (getb a0 t7_0) fun v2 =>
      if v2 = 40 then
        some false
      else
      if v2 = 41 then
        some false
      else
      if v2 = 44 then
        some false
      else
      if v2 = 58 then
        some false
      else
      if v2 = 92 then
        some false
      else
      if v2 = 46 then
        some false
      else
      if v2 = 34 then
        some false
      else
      if v2 < 33 then
        some false
      else
      if 126 < v2 then
        some false
      else
      bind (some (IntKind.wrap .i64 (t7_0 + 1))) fun v12 =>
      types_name_l0' (v12, a0)
    else
    if ¬ a0 = ByteArray.empty then
      some (decide ((a0.size : Int) ≤ 30))
    else
    some false
  partial_fixpoint
def types_name_l0 (t7_0 : Int) (a0 : ByteArray) : Option Bool := types_name_l0' (t7_0, a0)
theorem types_name_l0_eq (t7_0 : Int) (a0 : ByteArray) : types_name_l0 t7_0 a0 =
    if t7_0 < (a0.size : Int) then
      bind (getb a0 t7_0) fun v2 =>
      if v2 = 40 then
        some false
      else
      if v2 = 41 then
        some false
      else
      if v2 = 44 then
        some false
      else
      if v2 = 58 then
        some false
      else
      if v2 = 92 then
        some false
      else
      if v2 = 46 then
        some false
      else
      if v2 = 34 then
        some false
      else
      if v2 < 33 then
        some false
      else
      if 126 < v2 then
        some false
      else
      bind (some (IntKind.wrap .i64 (t7_0 + 1))) fun v12 =>
      types_name_l0 v12 a0
    else
    if ¬ a0 = ByteArray.empty then
      some (decide ((a0.size : Int) ≤ 30))
    else
    some false := types_name_l0'.eq_def (t7_0, a0)

def types_name (a0 : ByteArray) : Option Bool :=
  types_name_l0 0 a0

def types_variable (a0 : ByteArray) : Option Bool :=
  bind (types_name a0) fun v1 =>
  if v1 = true then
    bind (getb a0 0) fun v3 =>
    some (decide (v3 = 39))
  else
  some false

mutual
def types_measure' (a0 : Ty) : Option (Int × Int × Bool) :=
  if a0.v = true then
    bind (types_variable a0.name) fun v2 =>
    if v2 = true then
      if ((Ty.Ds a0.args).length : Int) = 0 then
        types_measure_j0' (true, a0)
      else
      types_measure_j0' (false, a0)
    else
    types_measure_j0' (false, a0)
  else
  bind (types_name a0.name) fun v10 =>
  if v10 = true then
    bind (getb a0.name 0) fun v12 =>
    if ¬ v12 = 39 then
      if ((Ty.Ds a0.args).length : Int) ≤ 8 then
        types_measure_j0' (true, a0)
      else
      types_measure_j0' (false, a0)
    else
    types_measure_j0' (false, a0)
  else
  types_measure_j0' (false, a0)
  partial_fixpoint
def types_measure_j0' (p : (Bool × Ty)) : Option (Int × Int × Bool) := match p with
  | (t4_1, a0) =>
    types_measure_l0' (a0.args, 1, 0, t4_1)
  partial_fixpoint
def types_measure_l0' (p : ((List Ty) × Int × Int × Bool)) : Option (Int × Int × Bool) := match p with
  | (rest0, t2_0, t3_0, t4_0) =>
    match rest0 with
    | [] =>
      bind (some (IntKind.wrap .i64 (t3_0 + 1))) fun v9 =>
      some (t2_0, v9, t4_0)
    | v5 :: rest0 =>
      bind (types_measure' v5) fun v6 =>
      bind (some (IntKind.wrap .i64 (t2_0 + v6.1))) fun v7 =>
      if t4_0 = true then
        types_measure_l0' (rest0, v7, (max t3_0 v6.2.1), v6.2.2)
      else
      types_measure_l0' (rest0, v7, (max t3_0 v6.2.1), false)
  partial_fixpoint
end
def types_measure (a0 : Ty) : Option (Int × Int × Bool) := types_measure' a0
def types_measure_j0 (t4_1 : Bool) (a0 : Ty) : Option (Int × Int × Bool) := types_measure_j0' (t4_1, a0)
def types_measure_l0 (rest0 : (List Ty)) (t2_0 : Int) (t3_0 : Int) (t4_0 : Bool) : Option (Int × Int × Bool) := types_measure_l0' (rest0, t2_0, t3_0, t4_0)
theorem types_measure_eq (a0 : Ty) : types_measure a0 =
    if a0.v = true then
      bind (types_variable a0.name) fun v2 =>
      if v2 = true then
        if ((Ty.Ds a0.args).length : Int) = 0 then
          types_measure_j0 true a0
        else
        types_measure_j0 false a0
      else
      types_measure_j0 false a0
    else
    bind (types_name a0.name) fun v10 =>
    if v10 = true then
      bind (getb a0.name 0) fun v12 =>
      if ¬ v12 = 39 then
        if ((Ty.Ds a0.args).length : Int) ≤ 8 then
          types_measure_j0 true a0
        else
        types_measure_j0 false a0
      else
      types_measure_j0 false a0
    else
    types_measure_j0 false a0 := types_measure'.eq_def a0
theorem types_measure_j0_eq (t4_1 : Bool) (a0 : Ty) : types_measure_j0 t4_1 a0 =
    types_measure_l0 a0.args 1 0 t4_1 := types_measure_j0'.eq_def (t4_1, a0)
theorem types_measure_l0_eq (rest0 : (List Ty)) (t2_0 : Int) (t3_0 : Int) (t4_0 : Bool) : types_measure_l0 rest0 t2_0 t3_0 t4_0 =
    match rest0 with
    | [] =>
      bind (some (IntKind.wrap .i64 (t3_0 + 1))) fun v9 =>
      some (t2_0, v9, t4_0)
    | v5 :: rest0 =>
      bind (types_measure v5) fun v6 =>
      bind (some (IntKind.wrap .i64 (t2_0 + v6.1))) fun v7 =>
      if t4_0 = true then
        types_measure_l0 rest0 v7 (max t3_0 v6.2.1) v6.2.2
      else
      types_measure_l0 rest0 v7 (max t3_0 v6.2.1) false := types_measure_l0'.eq_def (rest0, t2_0, t3_0, t4_0)

def types_Check (a0 : Ty) : Option Int :=
  bind (types_measure a0) fun v1 =>
  if v1.2.2 = true then
    if 500 < v1.1 then
      some 10
    else
    if 200 < v1.2.1 then
      some 10
    else
    some 0
  else
  some 10

def terms_formed_j0 (a0 : Tm) (v52 : (Ty × Bool)) : Option (Ty × Bool) :=
  if v52.2 = true then
    bind (types_Check (Ty.mk false (ByteArray.mk #[102, 117, 110]) ([a0.ty, v52.1]))) fun v54 =>
    some ((Ty.mk false (ByteArray.mk #[102, 117, 110]) ([a0.ty, v52.1])), (decide (v54 = 0)))
  else
  some ((Ty.mk false ByteArray.empty ([] : List Ty)), false)

def terms_named (a0 : ByteArray) : Option Bool :=
  bind (types_Check (Ty.mk false a0 ([] : List Ty))) fun v1 =>
  some (decide (v1 = 0))

def terms_plain (a0 : Tm) (a1 : Bool) (a2 : Bool) (a3 : Bool) : Option Bool :=
  if a1 = true then
    if a2 = true then
      if a3 = true then
        some true
      else
      some (decide (a0.index = 0))
    else
    if a0.ty.v = true then
      some false
    else
    if a0.ty.name = ByteArray.empty then
      if ((Ty.Ds a0.ty.args).length : Int) = 0 then
        if a3 = true then
          some true
        else
        some (decide (a0.index = 0))
      else
      some false
    else
    some false
  else
  if a0.name = ByteArray.empty then
    if a2 = true then
      if a3 = true then
        some true
      else
      some (decide (a0.index = 0))
    else
    if a0.ty.v = true then
      some false
    else
    if a0.ty.name = ByteArray.empty then
      if ((Ty.Ds a0.ty.args).length : Int) = 0 then
        if a3 = true then
          some true
        else
        some (decide (a0.index = 0))
      else
      some false
    else
    some false
  else
  some false

def cmp_isNaN_int (a0 : Int) : Option Bool :=
  some (decide (¬ a0 = a0))

def cmp_Compare_int (a0 : Int) (a1 : Int) : Option Int :=
  bind (cmp_isNaN_int a0) fun v1 =>
  bind (cmp_isNaN_int a1) fun v2 =>
  if v1 = true then
    if v2 = true then
      some 0
    else
    some (-1)
  else
  if v2 = true then
    some 1
  else
  if a0 < a1 then
    some (-1)
  else
  if a1 < a0 then
    some 1
  else
  some 0

def cmp_Or_int_l0' (rest0 : (List Int)) : Option Int :=
  match rest0 with
  | [] =>
    some 0
  | v1 :: rest0 =>
    if ¬ v1 = 0 then
      some v1
    else
    cmp_Or_int_l0' rest0
  partial_fixpoint
def cmp_Or_int_l0 (rest0 : (List Int)) : Option Int := cmp_Or_int_l0' rest0
theorem cmp_Or_int_l0_eq (rest0 : (List Int)) : cmp_Or_int_l0 rest0 =
    match rest0 with
    | [] =>
      some 0
    | v1 :: rest0 =>
      if ¬ v1 = 0 then
        some v1
      else
      cmp_Or_int_l0 rest0 := cmp_Or_int_l0'.eq_def rest0

def cmp_Or_int (a0 : (List Int)) : Option Int :=
  cmp_Or_int_l0 a0

def bytealg_CompareString (a0 : ByteArray) (a1 : ByteArray) : Option Int :=
  bind (cmpstr a0 a1) fun v1 =>
  some v1

def strings_Compare (a0 : ByteArray) (a1 : ByteArray) : Option Int :=
  bind (bytealg_CompareString a0 a1) fun v1 =>
  some v1

def types_rank (a0 : Ty) : Option Int :=
  if a0.v = true then
    some 0
  else
  some 1

mutual
def types_Compare' (p : (Ty × Ty)) : Option Int := match p with
  | (a0, a1) =>
    bind (types_rank a0) fun v1 =>
    bind (types_rank a1) fun v2 =>
    bind (cmp_Compare_int v1 v2) fun v3 =>
    bind (strings_Compare a0.name a1.name) fun v4 =>
    bind (cmp_Compare_int ((Ty.Ds a0.args).length : Int) ((Ty.Ds a1.args).length : Int)) fun v5 =>
    bind (cmp_Or_int ([v3, v4, v5])) fun v6 =>
    if ¬ v6 = 0 then
      some v6
    else
    bind (slices_CompareFunc_Type_Type_Type_Type__types_Compare' (a0.args, a1.args)) fun v8 =>
    some v8
  partial_fixpoint
def slices_CompareFunc_Type_Type_Type_Type__types_Compare' (p : ((List Ty) × (List Ty))) : Option Int := match p with
  | (a0, a1) =>
    slices_CompareFunc_Type_Type_Type_Type__types_Compare_l0' (a0, 0, a0, a1)
  partial_fixpoint
def slices_CompareFunc_Type_Type_Type_Type__types_Compare_l0' (p : ((List Ty) × Nat × (List Ty) × (List Ty))) : Option Int := match p with
  | (rest0, k0, a0, a1) =>
    match rest0 with
    | [] =>
      if ((Ty.Ds a0).length : Int) < ((Ty.Ds a1).length : Int) then
        some (-1)
      else
      some 0
    | v1 :: rest0 =>
      if ((Ty.Ds a1).length : Int) ≤ (k0 : Int) then
        some 1
      else
      bind (geti a1 (k0 : Int)) fun v3 =>
      bind (types_Compare' (v1, v3)) fun v4 =>
      if ¬ v4 = 0 then
        some v4
      else
      slices_CompareFunc_Type_Type_Type_Type__types_Compare_l0' (rest0, k0 + 1, a0, a1)
  partial_fixpoint
end
def types_Compare (a0 : Ty) (a1 : Ty) : Option Int := types_Compare' (a0, a1)
def slices_CompareFunc_Type_Type_Type_Type__types_Compare (a0 : (List Ty)) (a1 : (List Ty)) : Option Int := slices_CompareFunc_Type_Type_Type_Type__types_Compare' (a0, a1)
def slices_CompareFunc_Type_Type_Type_Type__types_Compare_l0 (rest0 : (List Ty)) (k0 : Nat) (a0 : (List Ty)) (a1 : (List Ty)) : Option Int := slices_CompareFunc_Type_Type_Type_Type__types_Compare_l0' (rest0, k0, a0, a1)
theorem types_Compare_eq (a0 : Ty) (a1 : Ty) : types_Compare a0 a1 =
    bind (types_rank a0) fun v1 =>
    bind (types_rank a1) fun v2 =>
    bind (cmp_Compare_int v1 v2) fun v3 =>
    bind (strings_Compare a0.name a1.name) fun v4 =>
    bind (cmp_Compare_int ((Ty.Ds a0.args).length : Int) ((Ty.Ds a1.args).length : Int)) fun v5 =>
    bind (cmp_Or_int ([v3, v4, v5])) fun v6 =>
    if ¬ v6 = 0 then
      some v6
    else
    bind (slices_CompareFunc_Type_Type_Type_Type__types_Compare a0.args a1.args) fun v8 =>
    some v8 := types_Compare'.eq_def (a0, a1)
theorem slices_CompareFunc_Type_Type_Type_Type__types_Compare_eq (a0 : (List Ty)) (a1 : (List Ty)) : slices_CompareFunc_Type_Type_Type_Type__types_Compare a0 a1 =
    slices_CompareFunc_Type_Type_Type_Type__types_Compare_l0 a0 0 a0 a1 := slices_CompareFunc_Type_Type_Type_Type__types_Compare'.eq_def (a0, a1)
theorem slices_CompareFunc_Type_Type_Type_Type__types_Compare_l0_eq (rest0 : (List Ty)) (k0 : Nat) (a0 : (List Ty)) (a1 : (List Ty)) : slices_CompareFunc_Type_Type_Type_Type__types_Compare_l0 rest0 k0 a0 a1 =
    match rest0 with
    | [] =>
      if ((Ty.Ds a0).length : Int) < ((Ty.Ds a1).length : Int) then
        some (-1)
      else
      some 0
    | v1 :: rest0 =>
      if ((Ty.Ds a1).length : Int) ≤ (k0 : Int) then
        some 1
      else
      bind (geti a1 (k0 : Int)) fun v3 =>
      bind (types_Compare v1 v3) fun v4 =>
      if ¬ v4 = 0 then
        some v4
      else
      slices_CompareFunc_Type_Type_Type_Type__types_Compare_l0 rest0 (k0 + 1) a0 a1 := slices_CompareFunc_Type_Type_Type_Type__types_Compare_l0'.eq_def (rest0, k0, a0, a1)

def types_Same (a0 : Ty) (a1 : Ty) : Option Bool :=
  bind (types_Compare a0 a1) fun v1 =>
  some (decide (v1 = 0))

def terms_formed' (p : (Tm × (List Ty))) : Option (Ty × Bool) := match p with
  | (a0, a1) =>
    if a0.kind = 1 then
      bind (terms_plain a0 true true false) fun v2 =>
      if v2 = true then
        bind (terms_named a0.name) fun v4 =>
        if v4 = true then
          if ((Tm.Ds a0.sub).length : Int) = 0 then
            bind (types_Check a0.ty) fun v7 =>
            some (a0.ty, (decide (v7 = 0)))
          else
          some (a0.ty, false)
        else
        some (a0.ty, false)
      else
      some (a0.ty, false)
    else
    if a0.kind = 2 then
      bind (terms_plain a0 true true false) fun v9 =>
      if v9 = true then
        bind (terms_named a0.name) fun v11 =>
        if v11 = true then
          if ((Tm.Ds a0.sub).length : Int) = 0 then
            bind (types_Check a0.ty) fun v14 =>
            some (a0.ty, (decide (v14 = 0)))
          else
          some (a0.ty, false)
        else
        some (a0.ty, false)
      else
      some (a0.ty, false)
    else
    if a0.kind = 3 then
      bind (terms_plain a0 false false true) fun v16 =>
      if v16 = true then
        if 0 < ((Tm.Ds a0.sub).length : Int) then
          some ((Ty.mk false ByteArray.empty ([] : List Ty)), false)
        else
        if a0.index < 0 then
          some ((Ty.mk false ByteArray.empty ([] : List Ty)), false)
        else
        if ((Ty.Ds a1).length : Int) ≤ a0.index then
          some ((Ty.mk false ByteArray.empty ([] : List Ty)), false)
        else
        bind (some (IntKind.wrap .i64 (((Ty.Ds a1).length : Int) - 1))) fun v21 =>
        bind (some (IntKind.wrap .i64 (v21 - a0.index))) fun v22 =>
        bind (geti a1 v22) fun v23 =>
        some (v23, true)
      else
      some ((Ty.mk false ByteArray.empty ([] : List Ty)), false)
    else
    if a0.kind = 4 then
      bind (terms_plain a0 false false false) fun v25 =>
      if v25 = true then
        if ¬ ((Tm.Ds a0.sub).length : Int) = 2 then
          some ((Ty.mk false ByteArray.empty ([] : List Ty)), false)
        else
        bind (geti a0.sub 0) fun v28 =>
        bind (terms_formed' (v28, a1)) fun v29 =>
        bind (geti a0.sub 1) fun v30 =>
        bind (terms_formed' (v30, a1)) fun v31 =>
        if v29.2 = true then
          if v31.2 = true then
            if v29.1.v = true then
              some ((Ty.mk false ByteArray.empty ([] : List Ty)), false)
            else
            if ¬ v29.1.name = (ByteArray.mk #[102, 117, 110]) then
              some ((Ty.mk false ByteArray.empty ([] : List Ty)), false)
            else
            if ¬ ((Ty.Ds v29.1.args).length : Int) = 2 then
              some ((Ty.mk false ByteArray.empty ([] : List Ty)), false)
            else
            bind (geti v29.1.args 0) fun v37 =>
            bind (types_Same v37 v31.1) fun v38 =>
            if v38 = true then
              bind (geti v29.1.args 1) fun v40 =>
              some (v40, true)
            else
            some ((Ty.mk false ByteArray.empty ([] : List Ty)), false)
          else
          some ((Ty.mk false ByteArray.empty ([] : List Ty)), false)
        else
        some ((Ty.mk false ByteArray.empty ([] : List Ty)), false)
      else
      some ((Ty.mk false ByteArray.empty ([] : List Ty)), false)
    else
    if a0.kind = 5 then
      bind (terms_plain a0 true true false) fun v42 =>
      if v42 = true then
        if ¬ ((Tm.Ds a0.sub).length : Int) = 1 then
          some ((Ty.mk false ByteArray.empty ([] : List Ty)), false)
        else
        bind (terms_named a0.name) fun v45 =>
        if v45 = true then
          bind (types_Check a0.ty) fun v47 =>
          if ¬ v47 = 0 then
            some ((Ty.mk false ByteArray.empty ([] : List Ty)), false)
          else
          bind (geti a0.sub 0) fun v49 =>
          bind (cut a1 0 ((Ty.Ds a1).length : Int)) fun v50 =>
          bind (app v50 ([a0.ty])) fun v51 =>
          bind (terms_formed' (v49, v51)) fun v52 =>
          terms_formed_j0 a0 v52
        else
        some ((Ty.mk false ByteArray.empty ([] : List Ty)), false)
      else
      some ((Ty.mk false ByteArray.empty ([] : List Ty)), false)
    else
    some ((Ty.mk false ByteArray.empty ([] : List Ty)), false)
  partial_fixpoint
def terms_formed (a0 : Tm) (a1 : (List Ty)) : Option (Ty × Bool) := terms_formed' (a0, a1)
theorem terms_formed_eq (a0 : Tm) (a1 : (List Ty)) : terms_formed a0 a1 =
    if a0.kind = 1 then
      bind (terms_plain a0 true true false) fun v2 =>
      if v2 = true then
        bind (terms_named a0.name) fun v4 =>
        if v4 = true then
          if ((Tm.Ds a0.sub).length : Int) = 0 then
            bind (types_Check a0.ty) fun v7 =>
            some (a0.ty, (decide (v7 = 0)))
          else
          some (a0.ty, false)
        else
        some (a0.ty, false)
      else
      some (a0.ty, false)
    else
    if a0.kind = 2 then
      bind (terms_plain a0 true true false) fun v9 =>
      if v9 = true then
        bind (terms_named a0.name) fun v11 =>
        if v11 = true then
          if ((Tm.Ds a0.sub).length : Int) = 0 then
            bind (types_Check a0.ty) fun v14 =>
            some (a0.ty, (decide (v14 = 0)))
          else
          some (a0.ty, false)
        else
        some (a0.ty, false)
      else
      some (a0.ty, false)
    else
    if a0.kind = 3 then
      bind (terms_plain a0 false false true) fun v16 =>
      if v16 = true then
        if 0 < ((Tm.Ds a0.sub).length : Int) then
          some ((Ty.mk false ByteArray.empty ([] : List Ty)), false)
        else
        if a0.index < 0 then
          some ((Ty.mk false ByteArray.empty ([] : List Ty)), false)
        else
        if ((Ty.Ds a1).length : Int) ≤ a0.index then
          some ((Ty.mk false ByteArray.empty ([] : List Ty)), false)
        else
        bind (some (IntKind.wrap .i64 (((Ty.Ds a1).length : Int) - 1))) fun v21 =>
        bind (some (IntKind.wrap .i64 (v21 - a0.index))) fun v22 =>
        bind (geti a1 v22) fun v23 =>
        some (v23, true)
      else
      some ((Ty.mk false ByteArray.empty ([] : List Ty)), false)
    else
    if a0.kind = 4 then
      bind (terms_plain a0 false false false) fun v25 =>
      if v25 = true then
        if ¬ ((Tm.Ds a0.sub).length : Int) = 2 then
          some ((Ty.mk false ByteArray.empty ([] : List Ty)), false)
        else
        bind (geti a0.sub 0) fun v28 =>
        bind (terms_formed v28 a1) fun v29 =>
        bind (geti a0.sub 1) fun v30 =>
        bind (terms_formed v30 a1) fun v31 =>
        if v29.2 = true then
          if v31.2 = true then
            if v29.1.v = true then
              some ((Ty.mk false ByteArray.empty ([] : List Ty)), false)
            else
            if ¬ v29.1.name = (ByteArray.mk #[102, 117, 110]) then
              some ((Ty.mk false ByteArray.empty ([] : List Ty)), false)
            else
            if ¬ ((Ty.Ds v29.1.args).length : Int) = 2 then
              some ((Ty.mk false ByteArray.empty ([] : List Ty)), false)
            else
            bind (geti v29.1.args 0) fun v37 =>
            bind (types_Same v37 v31.1) fun v38 =>
            if v38 = true then
              bind (geti v29.1.args 1) fun v40 =>
              some (v40, true)
            else
            some ((Ty.mk false ByteArray.empty ([] : List Ty)), false)
          else
          some ((Ty.mk false ByteArray.empty ([] : List Ty)), false)
        else
        some ((Ty.mk false ByteArray.empty ([] : List Ty)), false)
      else
      some ((Ty.mk false ByteArray.empty ([] : List Ty)), false)
    else
    if a0.kind = 5 then
      bind (terms_plain a0 true true false) fun v42 =>
      if v42 = true then
        if ¬ ((Tm.Ds a0.sub).length : Int) = 1 then
          some ((Ty.mk false ByteArray.empty ([] : List Ty)), false)
        else
        bind (terms_named a0.name) fun v45 =>
        if v45 = true then
          bind (types_Check a0.ty) fun v47 =>
          if ¬ v47 = 0 then
            some ((Ty.mk false ByteArray.empty ([] : List Ty)), false)
          else
          bind (geti a0.sub 0) fun v49 =>
          bind (cut a1 0 ((Ty.Ds a1).length : Int)) fun v50 =>
          bind (app v50 ([a0.ty])) fun v51 =>
          bind (terms_formed v49 v51) fun v52 =>
          terms_formed_j0 a0 v52
        else
        some ((Ty.mk false ByteArray.empty ([] : List Ty)), false)
      else
      some ((Ty.mk false ByteArray.empty ([] : List Ty)), false)
    else
    some ((Ty.mk false ByteArray.empty ([] : List Ty)), false) := terms_formed'.eq_def (a0, a1)

mutual
def terms_extent' (a0 : Tm) : Option (Int × Int) :=
  terms_extent_l0' (a0.sub, 1, 0)
  partial_fixpoint
def terms_extent_l0' (p : ((List Tm) × Int × Int)) : Option (Int × Int) := match p with
  | (rest0, t2_0, t3_0) =>
    match rest0 with
    | [] =>
      bind (some (IntKind.wrap .i64 (t3_0 + 1))) fun v4 =>
      some (t2_0, v4)
    | v1 :: rest0 =>
      bind (terms_extent' v1) fun v2 =>
      bind (some (IntKind.wrap .i64 (t2_0 + v2.1))) fun v3 =>
      terms_extent_l0' (rest0, v3, (max t3_0 v2.2))
  partial_fixpoint
end
def terms_extent (a0 : Tm) : Option (Int × Int) := terms_extent' a0
def terms_extent_l0 (rest0 : (List Tm)) (t2_0 : Int) (t3_0 : Int) : Option (Int × Int) := terms_extent_l0' (rest0, t2_0, t3_0)
theorem terms_extent_eq (a0 : Tm) : terms_extent a0 =
    terms_extent_l0 a0.sub 1 0 := terms_extent'.eq_def a0
theorem terms_extent_l0_eq (rest0 : (List Tm)) (t2_0 : Int) (t3_0 : Int) : terms_extent_l0 rest0 t2_0 t3_0 =
    match rest0 with
    | [] =>
      bind (some (IntKind.wrap .i64 (t3_0 + 1))) fun v4 =>
      some (t2_0, v4)
    | v1 :: rest0 =>
      bind (terms_extent v1) fun v2 =>
      bind (some (IntKind.wrap .i64 (t2_0 + v2.1))) fun v3 =>
      terms_extent_l0 rest0 v3 (max t3_0 v2.2) := terms_extent_l0'.eq_def (rest0, t2_0, t3_0)

def terms_great (a0 : Tm) : Option Bool :=
  bind (terms_extent a0) fun v1 =>
  if 32000 < v1.1 then
    some true
  else
  some (decide (300 < v1.2))

def terms_typed (a0 : Tm) : Option (Ty × Int) :=
  bind (terms_great a0) fun v1 =>
  if v1 = true then
    some ((Ty.mk false ByteArray.empty ([] : List Ty)), 21)
  else
  bind (terms_formed a0 ([] : List Ty)) fun v3 =>
  if v3.2 = true then
    some (v3.1, 0)
  else
  some ((Ty.mk false ByteArray.empty ([] : List Ty)), 20)

def terms_Check (a0 : Tm) : Option Int :=
  bind (terms_typed a0) fun v1 =>
  some v1.2

def equality_CheckTerm (a0 : Tm) : Option Int :=
  bind (terms_Check a0) fun v1 =>
  if ¬ v1 = 0 then
    some v1
  else
  bind (equality_fits a0) fun v3 =>
  if v3 = true then
    some 0
  else
  some 21

def num_check_l0' (rest0 : (List Tm)) : Option Int :=
  match rest0 with
  | [] =>
    some 0
  | v1 :: rest0 =>
    bind (equality_CheckTerm v1) fun v2 =>
    if ¬ v2 = 0 then
      some v2
    else
    num_check_l0' rest0
  partial_fixpoint
def num_check_l0 (rest0 : (List Tm)) : Option Int := num_check_l0' rest0
theorem num_check_l0_eq (rest0 : (List Tm)) : num_check_l0 rest0 =
    match rest0 with
    | [] =>
      some 0
    | v1 :: rest0 =>
      bind (equality_CheckTerm v1) fun v2 =>
      if ¬ v2 = 0 then
        some v2
      else
      num_check_l0 rest0 := num_check_l0'.eq_def rest0

def num_check (a0 : (List Tm)) : Option Int :=
  num_check_l0 a0

def num_Type : Option Ty :=
  some (Ty.mk false (ByteArray.mk #[110, 117, 109]) ([] : List Ty))

def terms_TypeOf (a0 : Tm) : Option (Ty × Int) :=
  bind (terms_typed a0) fun v1 =>
  bind (types_Twin v1.1) fun v2 =>
  some (v2, v1.2)

def num_numbers_l0' (rest0 : (List Tm)) : Option Int :=
  match rest0 with
  | [] =>
    some 0
  | v1 :: rest0 =>
    bind (terms_TypeOf v1) fun v2 =>
    bind (num_Type) fun v3 =>
    bind (types_Same v2.1 v3) fun v4 =>
    if v4 = true then
      num_numbers_l0' rest0
    else
    some 50
  partial_fixpoint
def num_numbers_l0 (rest0 : (List Tm)) : Option Int := num_numbers_l0' rest0
theorem num_numbers_l0_eq (rest0 : (List Tm)) : num_numbers_l0 rest0 =
    match rest0 with
    | [] =>
      some 0
    | v1 :: rest0 =>
      bind (terms_TypeOf v1) fun v2 =>
      bind (num_Type) fun v3 =>
      bind (types_Same v2.1 v3) fun v4 =>
      if v4 = true then
        num_numbers_l0 rest0
      else
      some 50 := num_numbers_l0'.eq_def rest0

def num_numbers (a0 : (List Tm)) : Option Int :=
  num_numbers_l0 a0

def num_constant (a0 : ByteArray) (a1 : Ty) : Option Tm :=
  some (Tm.mk 2 a0 a1 0 ([] : List Tm))

def types_Bool : Option Ty :=
  some (Ty.mk false (ByteArray.mk #[98, 111, 111, 108]) ([] : List Ty))

def num_operator (a0 : ByteArray) : Option (Tm × Bool) :=
  bind (num_Type) fun v1 =>
  if a0 = (ByteArray.mk #[43]) then
    bind (types_Fun v1 v1) fun v3 =>
    bind (types_Fun v1 v3) fun v4 =>
    bind (num_constant a0 v4) fun v5 =>
    some (v5, true)
  else
  if a0 = (ByteArray.mk #[42]) then
    bind (types_Fun v1 v1) fun v7 =>
    bind (types_Fun v1 v7) fun v8 =>
    bind (num_constant a0 v8) fun v9 =>
    some (v9, true)
  else
  if a0 = (ByteArray.mk #[60, 61]) then
    bind (types_Bool) fun v11 =>
    bind (types_Fun v1 v11) fun v12 =>
    bind (types_Fun v1 v12) fun v13 =>
    bind (num_constant a0 v13) fun v14 =>
    some (v14, true)
  else
  if a0 = (ByteArray.mk #[60]) then
    bind (types_Bool) fun v16 =>
    bind (types_Fun v1 v16) fun v17 =>
    bind (types_Fun v1 v17) fun v18 =>
    bind (num_constant a0 v18) fun v19 =>
    some (v19, true)
  else
  some ((Tm.mk 0 ByteArray.empty (Ty.mk false ByteArray.empty ([] : List Ty)) 0 ([] : List Tm)), false)

mutual
def terms_Twin' (a0 : Tm) : Option Tm :=
  bind (types_Twin a0.ty) fun v1 =>
  if 0 < ((Tm.Ds a0.sub).length : Int) then
    bind (mkn (Tm.mk 0 ByteArray.empty (Ty.mk false ByteArray.empty []) 0 []) ((Tm.Ds a0.sub).length : Int)) fun v3 =>
    terms_Twin_j0' (a0, v1, v3)
  else
  terms_Twin_j0b' (a0, v1)
  partial_fixpoint
def terms_Twin_j0' (p : (Tm × Ty × (List Tm))) : Option Tm := match p with
  | (a0, v1, v3) =>
    terms_Twin_l0' (a0.sub, 0, v3, a0, v1)
  partial_fixpoint
def terms_Twin_l0' (p : ((List Tm) × Nat × (List Tm) × Tm × Ty)) : Option Tm := match p with
  | (rest0, k0, a2_0, a0, v1) =>
    match rest0 with
    | [] =>
      some (Tm.mk a0.kind a0.name v1 a0.index a2_0)
    | v4 :: rest0 =>
      bind (terms_Twin' v4) fun v5 =>
      bind (wantb (0 ≤ (k0 : Int) ∧ (k0 : Int) < (a2_0.length : Int))) fun g7 =>
      bind (seti a2_0 (k0 : Int) v5) fun v8 =>
      terms_Twin_l0' (rest0, k0 + 1, v8, a0, v1)
  partial_fixpoint
def terms_Twin_j0b' (p : (Tm × Ty)) : Option Tm := match p with
  | (a0, v1) =>
    terms_Twin_l0b' (a0.sub, a0, v1)
  partial_fixpoint
def terms_Twin_l0b' (p : ((List Tm) × Tm × Ty)) : Option Tm := match p with
  | (rest0, a0, v1) =>
    match rest0 with
    | [] =>
      some (Tm.mk a0.kind a0.name v1 a0.index ([] : List Tm))
    | v9 :: rest0 =>
      bind (terms_Twin' v9) fun v10 =>
      none
  partial_fixpoint
end
def terms_Twin (a0 : Tm) : Option Tm := terms_Twin' a0
def terms_Twin_j0 (a0 : Tm) (v1 : Ty) (v3 : (List Tm)) : Option Tm := terms_Twin_j0' (a0, v1, v3)
def terms_Twin_l0 (rest0 : (List Tm)) (k0 : Nat) (a2_0 : (List Tm)) (a0 : Tm) (v1 : Ty) : Option Tm := terms_Twin_l0' (rest0, k0, a2_0, a0, v1)
def terms_Twin_j0b (a0 : Tm) (v1 : Ty) : Option Tm := terms_Twin_j0b' (a0, v1)
def terms_Twin_l0b (rest0 : (List Tm)) (a0 : Tm) (v1 : Ty) : Option Tm := terms_Twin_l0b' (rest0, a0, v1)
theorem terms_Twin_eq (a0 : Tm) : terms_Twin a0 =
    bind (types_Twin a0.ty) fun v1 =>
    if 0 < ((Tm.Ds a0.sub).length : Int) then
      bind (mkn (Tm.mk 0 ByteArray.empty (Ty.mk false ByteArray.empty []) 0 []) ((Tm.Ds a0.sub).length : Int)) fun v3 =>
      terms_Twin_j0 a0 v1 v3
    else
    terms_Twin_j0b a0 v1 := terms_Twin'.eq_def a0
theorem terms_Twin_j0_eq (a0 : Tm) (v1 : Ty) (v3 : (List Tm)) : terms_Twin_j0 a0 v1 v3 =
    terms_Twin_l0 a0.sub 0 v3 a0 v1 := terms_Twin_j0'.eq_def (a0, v1, v3)
theorem terms_Twin_l0_eq (rest0 : (List Tm)) (k0 : Nat) (a2_0 : (List Tm)) (a0 : Tm) (v1 : Ty) : terms_Twin_l0 rest0 k0 a2_0 a0 v1 =
    match rest0 with
    | [] =>
      some (Tm.mk a0.kind a0.name v1 a0.index a2_0)
    | v4 :: rest0 =>
      bind (terms_Twin v4) fun v5 =>
      bind (wantb (0 ≤ (k0 : Int) ∧ (k0 : Int) < (a2_0.length : Int))) fun g7 =>
      bind (seti a2_0 (k0 : Int) v5) fun v8 =>
      terms_Twin_l0 rest0 (k0 + 1) v8 a0 v1 := terms_Twin_l0'.eq_def (rest0, k0, a2_0, a0, v1)
theorem terms_Twin_j0b_eq (a0 : Tm) (v1 : Ty) : terms_Twin_j0b a0 v1 =
    terms_Twin_l0b a0.sub a0 v1 := terms_Twin_j0b'.eq_def (a0, v1)
theorem terms_Twin_l0b_eq (rest0 : (List Tm)) (a0 : Tm) (v1 : Ty) : terms_Twin_l0b rest0 a0 v1 =
    match rest0 with
    | [] =>
      some (Tm.mk a0.kind a0.name v1 a0.index ([] : List Tm))
    | v9 :: rest0 =>
      bind (terms_Twin v9) fun v10 =>
      none := terms_Twin_l0b'.eq_def (rest0, a0, v1)

def terms_Comb (a0 : Tm) (a1 : Tm) : Option (Tm × Int) :=
  bind (terms_typed a0) fun v1 =>
  if ¬ v1.2 = 0 then
    some ((Tm.mk 0 ByteArray.empty (Ty.mk false ByteArray.empty ([] : List Ty)) 0 ([] : List Tm)), v1.2)
  else
  bind (terms_typed a1) fun v3 =>
  if ¬ v3.2 = 0 then
    some ((Tm.mk 0 ByteArray.empty (Ty.mk false ByteArray.empty ([] : List Ty)) 0 ([] : List Tm)), v3.2)
  else
  if v1.1.v = true then
    some ((Tm.mk 0 ByteArray.empty (Ty.mk false ByteArray.empty ([] : List Ty)) 0 ([] : List Tm)), 20)
  else
  if ¬ v1.1.name = (ByteArray.mk #[102, 117, 110]) then
    some ((Tm.mk 0 ByteArray.empty (Ty.mk false ByteArray.empty ([] : List Ty)) 0 ([] : List Tm)), 20)
  else
  if ¬ ((Ty.Ds v1.1.args).length : Int) = 2 then
    some ((Tm.mk 0 ByteArray.empty (Ty.mk false ByteArray.empty ([] : List Ty)) 0 ([] : List Tm)), 20)
  else
  bind (geti v1.1.args 0) fun v8 =>
  bind (types_Same v8 v3.1) fun v9 =>
  if v9 = true then
    bind (terms_great (Tm.mk 4 ByteArray.empty (Ty.mk false ByteArray.empty ([] : List Ty)) 0 ([a0, a1]))) fun v11 =>
    if v11 = true then
      some ((Tm.mk 0 ByteArray.empty (Ty.mk false ByteArray.empty ([] : List Ty)) 0 ([] : List Tm)), 21)
    else
    bind (terms_Twin (Tm.mk 4 ByteArray.empty (Ty.mk false ByteArray.empty ([] : List Ty)) 0 ([a0, a1]))) fun v13 =>
    some (v13, 0)
  else
  some ((Tm.mk 0 ByteArray.empty (Ty.mk false ByteArray.empty ([] : List Ty)) 0 ([] : List Tm)), 20)

def num_Mk (a0 : ByteArray) (a1 : Tm) (a2 : Tm) : Option (Tm × Int) :=
  bind (num_check ([a1, a2])) fun v1 =>
  if ¬ v1 = 0 then
    some ((Tm.mk 0 ByteArray.empty (Ty.mk false ByteArray.empty ([] : List Ty)) 0 ([] : List Tm)), v1)
  else
  bind (num_operator a0) fun v3 =>
  if v3.2 = true then
    bind (num_numbers ([a1, a2])) fun v5 =>
    if ¬ v5 = 0 then
      some ((Tm.mk 0 ByteArray.empty (Ty.mk false ByteArray.empty ([] : List Ty)) 0 ([] : List Tm)), v5)
    else
    bind (terms_Comb v3.1 a1) fun v7 =>
    if ¬ v7.2 = 0 then
      some ((Tm.mk 0 ByteArray.empty (Ty.mk false ByteArray.empty ([] : List Ty)) 0 ([] : List Tm)), v7.2)
    else
    bind (terms_Comb v7.1 a2) fun v9 =>
    some (v9.1, v9.2)
  else
  some ((Tm.mk 0 ByteArray.empty (Ty.mk false ByteArray.empty ([] : List Ty)) 0 ([] : List Tm)), 6)

def num_successor : Option Tm :=
  bind (num_Type) fun v1 =>
  bind (num_Type) fun v2 =>
  bind (types_Fun v1 v2) fun v3 =>
  bind (num_constant (ByteArray.mk #[83, 85, 67]) v3) fun v4 =>
  some v4

def num_MkSuc (a0 : Tm) : Option (Tm × Int) :=
  bind (num_check ([a0])) fun v1 =>
  if ¬ v1 = 0 then
    some ((Tm.mk 0 ByteArray.empty (Ty.mk false ByteArray.empty ([] : List Ty)) 0 ([] : List Tm)), v1)
  else
  bind (num_numbers ([a0])) fun v3 =>
  if ¬ v3 = 0 then
    some ((Tm.mk 0 ByteArray.empty (Ty.mk false ByteArray.empty ([] : List Ty)) 0 ([] : List Tm)), v3)
  else
  bind (num_successor) fun v5 =>
  bind (terms_Comb v5 a0) fun v6 =>
  some (v6.1, v6.2)

def sequentref01_Bool : Option Ty :=
  some (Ty.mk false (ByteArray.mk #[98, 111, 111, 108]) ([] : List Ty))

def sequentref09_Constant (a0 : ByteArray) (a1 : Ty) : Option Tm :=
  some (Tm.mk 2 a0 a1 0 ([] : List Tm))

def sequentref09_T : Option Tm :=
  bind (sequentref01_Bool) fun v1 =>
  bind (sequentref09_Constant (ByteArray.mk #[84]) v1) fun v2 =>
  some v2

def sequentref09_Variable (a0 : ByteArray) (a1 : Ty) : Option Tm :=
  some (Tm.mk 1 a0 a1 0 ([] : List Tm))

def sequentref21_N : Option Ty :=
  some (Ty.mk false (ByteArray.mk #[110, 117, 109]) ([] : List Ty))

def sequentref21_V (a0 : ByteArray) : Option Tm :=
  bind (sequentref21_N) fun v1 =>
  bind (sequentref09_Variable a0 v1) fun v2 =>
  some v2

def sequentlaw21_woke : Option Bool :=
  bind (sequentref09_T) fun v1 =>
  bind (num_MkSuc v1) fun v2 =>
  bind (sequentref21_V (ByteArray.mk #[110])) fun v3 =>
  bind (num_Mk (ByteArray.mk #[45]) v3 v3) fun v4 =>
  if v2.2 = 50 then
    some (decide (v4.2 = 6))
  else
  some false

mutual
def sequentref02_Depth' (a0 : Tm) : Option Int :=
  sequentref02_Depth_l0' (a0.sub, 0)
  partial_fixpoint
def sequentref02_Depth_l0' (p : ((List Tm) × Int)) : Option Int := match p with
  | (rest0, t3_0) =>
    match rest0 with
    | [] =>
      bind (some (IntKind.wrap .i64 (1 + t3_0))) fun v3 =>
      some v3
    | v1 :: rest0 =>
      bind (sequentref02_Depth' v1) fun v2 =>
      sequentref02_Depth_l0' (rest0, (max t3_0 v2))
  partial_fixpoint
end
def sequentref02_Depth (a0 : Tm) : Option Int := sequentref02_Depth' a0
def sequentref02_Depth_l0 (rest0 : (List Tm)) (t3_0 : Int) : Option Int := sequentref02_Depth_l0' (rest0, t3_0)
theorem sequentref02_Depth_eq (a0 : Tm) : sequentref02_Depth a0 =
    sequentref02_Depth_l0 a0.sub 0 := sequentref02_Depth'.eq_def a0
theorem sequentref02_Depth_l0_eq (rest0 : (List Tm)) (t3_0 : Int) : sequentref02_Depth_l0 rest0 t3_0 =
    match rest0 with
    | [] =>
      bind (some (IntKind.wrap .i64 (1 + t3_0))) fun v3 =>
      some v3
    | v1 :: rest0 =>
      bind (sequentref02_Depth v1) fun v2 =>
      sequentref02_Depth_l0 rest0 (max t3_0 v2) := sequentref02_Depth_l0'.eq_def (rest0, t3_0)

mutual
def sequentref02_Size' (a0 : Tm) : Option Int :=
  sequentref02_Size_l0' (a0.sub, 1)
  partial_fixpoint
def sequentref02_Size_l0' (p : ((List Tm) × Int)) : Option Int := match p with
  | (rest0, t3_0) =>
    match rest0 with
    | [] =>
      some t3_0
    | v1 :: rest0 =>
      bind (sequentref02_Size' v1) fun v2 =>
      bind (some (IntKind.wrap .i64 (t3_0 + v2))) fun v3 =>
      sequentref02_Size_l0' (rest0, v3)
  partial_fixpoint
end
def sequentref02_Size (a0 : Tm) : Option Int := sequentref02_Size' a0
def sequentref02_Size_l0 (rest0 : (List Tm)) (t3_0 : Int) : Option Int := sequentref02_Size_l0' (rest0, t3_0)
theorem sequentref02_Size_eq (a0 : Tm) : sequentref02_Size a0 =
    sequentref02_Size_l0 a0.sub 1 := sequentref02_Size'.eq_def a0
theorem sequentref02_Size_l0_eq (rest0 : (List Tm)) (t3_0 : Int) : sequentref02_Size_l0 rest0 t3_0 =
    match rest0 with
    | [] =>
      some t3_0
    | v1 :: rest0 =>
      bind (sequentref02_Size v1) fun v2 =>
      bind (some (IntKind.wrap .i64 (t3_0 + v2))) fun v3 =>
      sequentref02_Size_l0 rest0 v3 := sequentref02_Size_l0'.eq_def (rest0, t3_0)

def sequentref02_Small (a0 : Tm) : Option Bool :=
  bind (sequentref02_Size a0) fun v1 =>
  if v1 ≤ 32000 then
    bind (sequentref02_Depth a0) fun v3 =>
    some (decide (v3 ≤ 300))
  else
  some false

mutual
def sequentref01_count' (p : (Ty × Int × Int)) : Option Int := match p with
  | (a0, a1, a2) =>
    if a2 = 0 then
      some 0
    else
    bind (some (IntKind.wrap .i64 (a1 - 1))) fun v2 =>
    bind (some (IntKind.wrap .i64 (Int.tdiv (a0.name.size : Int) 100))) fun v3 =>
    bind (some (IntKind.wrap .i64 (v2 - v3))) fun v4 =>
    sequentref01_count_l0' (a0.args, v4, a2)
  partial_fixpoint
def sequentref01_count_l0' (p : ((List Ty) × Int × Int)) : Option Int := match p with
  | (rest0, t1_0, a2) =>
    match rest0 with
    | [] =>
      some t1_0
    | v5 :: rest0 =>
      if 0 < t1_0 then
        bind (some (IntKind.wrap .i64 (a2 - 1))) fun v7 =>
        bind (sequentref01_count' (v5, t1_0, v7)) fun v8 =>
        sequentref01_count_l0' (rest0, v8, a2)
      else
      some t1_0
  partial_fixpoint
end
def sequentref01_count (a0 : Ty) (a1 : Int) (a2 : Int) : Option Int := sequentref01_count' (a0, a1, a2)
def sequentref01_count_l0 (rest0 : (List Ty)) (t1_0 : Int) (a2 : Int) : Option Int := sequentref01_count_l0' (rest0, t1_0, a2)
theorem sequentref01_count_eq (a0 : Ty) (a1 : Int) (a2 : Int) : sequentref01_count a0 a1 a2 =
    if a2 = 0 then
      some 0
    else
    bind (some (IntKind.wrap .i64 (a1 - 1))) fun v2 =>
    bind (some (IntKind.wrap .i64 (Int.tdiv (a0.name.size : Int) 100))) fun v3 =>
    bind (some (IntKind.wrap .i64 (v2 - v3))) fun v4 =>
    sequentref01_count_l0 a0.args v4 a2 := sequentref01_count'.eq_def (a0, a1, a2)
theorem sequentref01_count_l0_eq (rest0 : (List Ty)) (t1_0 : Int) (a2 : Int) : sequentref01_count_l0 rest0 t1_0 a2 =
    match rest0 with
    | [] =>
      some t1_0
    | v5 :: rest0 =>
      if 0 < t1_0 then
        bind (some (IntKind.wrap .i64 (a2 - 1))) fun v7 =>
        bind (sequentref01_count v5 t1_0 v7) fun v8 =>
        sequentref01_count_l0 rest0 v8 a2
      else
      some t1_0 := sequentref01_count_l0'.eq_def (rest0, t1_0, a2)

def sequentref01_Great (a0 : Ty) : Option Bool :=
  bind (sequentref01_count a0 1500 500) fun v1 =>
  some (decide (v1 ≤ 0))

mutual
def sequentref02_count' (p : (Tm × Int × Int)) : Option Int := match p with
  | (a0, a1, a2) =>
    if a2 = 0 then
      some 0
    else
    bind (sequentref01_Great a0.ty) fun v2 =>
    if v2 = true then
      some 0
    else
    bind (some (IntKind.wrap .i64 (a1 - 1))) fun v4 =>
    bind (some (IntKind.wrap .i64 (Int.tdiv (a0.name.size : Int) 100))) fun v5 =>
    bind (some (IntKind.wrap .i64 (v4 - v5))) fun v6 =>
    sequentref02_count_l0' (a0.sub, v6, a2)
  partial_fixpoint
def sequentref02_count_l0' (p : ((List Tm) × Int × Int)) : Option Int := match p with
  | (rest0, t1_0, a2) =>
    match rest0 with
    | [] =>
      some t1_0
    | v7 :: rest0 =>
      if 0 < t1_0 then
        bind (some (IntKind.wrap .i64 (a2 - 1))) fun v9 =>
        bind (sequentref02_count' (v7, t1_0, v9)) fun v10 =>
        sequentref02_count_l0' (rest0, v10, a2)
      else
      some t1_0
  partial_fixpoint
end
def sequentref02_count (a0 : Tm) (a1 : Int) (a2 : Int) : Option Int := sequentref02_count' (a0, a1, a2)
def sequentref02_count_l0 (rest0 : (List Tm)) (t1_0 : Int) (a2 : Int) : Option Int := sequentref02_count_l0' (rest0, t1_0, a2)
theorem sequentref02_count_eq (a0 : Tm) (a1 : Int) (a2 : Int) : sequentref02_count a0 a1 a2 =
    if a2 = 0 then
      some 0
    else
    bind (sequentref01_Great a0.ty) fun v2 =>
    if v2 = true then
      some 0
    else
    bind (some (IntKind.wrap .i64 (a1 - 1))) fun v4 =>
    bind (some (IntKind.wrap .i64 (Int.tdiv (a0.name.size : Int) 100))) fun v5 =>
    bind (some (IntKind.wrap .i64 (v4 - v5))) fun v6 =>
    sequentref02_count_l0 a0.sub v6 a2 := sequentref02_count'.eq_def (a0, a1, a2)
theorem sequentref02_count_l0_eq (rest0 : (List Tm)) (t1_0 : Int) (a2 : Int) : sequentref02_count_l0 rest0 t1_0 a2 =
    match rest0 with
    | [] =>
      some t1_0
    | v7 :: rest0 =>
      if 0 < t1_0 then
        bind (some (IntKind.wrap .i64 (a2 - 1))) fun v9 =>
        bind (sequentref02_count v7 t1_0 v9) fun v10 =>
        sequentref02_count_l0 rest0 v10 a2
      else
      some t1_0 := sequentref02_count_l0'.eq_def (rest0, t1_0, a2)

def sequentref02_Great (a0 : Tm) : Option Bool :=
  bind (sequentref02_count a0 2000 400) fun v1 =>
  if 0 < v1 then
    some false
  else
  bind (sequentref02_count a0 40000 400) fun v3 =>
  if v3 ≤ 0 then
    some true
  else
  bind (sequentref02_Small a0) fun v5 =>
  some v5

mutual
def sequentref01_Compare' (p : (Ty × Ty)) : Option Int := match p with
  | (a0, a1) =>
    if ¬ a0.v = a1.v then
      if a0.v = true then
        some (-1)
      else
      some 1
    else
    if ¬ a0.name = a1.name then
      if Op.bytesLess a0.name.toList a1.name.toList = true then
        some (-1)
      else
      some 1
    else
    if ¬ ((Ty.Ds a0.args).length : Int) = ((Ty.Ds a1.args).length : Int) then
      if ((Ty.Ds a0.args).length : Int) < ((Ty.Ds a1.args).length : Int) then
        some (-1)
      else
      some 1
    else
    sequentref01_Compare_l0' (a0.args, 0, a1)
  partial_fixpoint
def sequentref01_Compare_l0' (p : ((List Ty) × Nat × Ty)) : Option Int := match p with
  | (rest0, k0, a1) =>
    match rest0 with
    | [] =>
      some 0
    | v7 :: rest0 =>
      bind (geti a1.args (k0 : Int)) fun v8 =>
      bind (sequentref01_Compare' (v7, v8)) fun v9 =>
      if ¬ v9 = 0 then
        some v9
      else
      sequentref01_Compare_l0' (rest0, k0 + 1, a1)
  partial_fixpoint
end
def sequentref01_Compare (a0 : Ty) (a1 : Ty) : Option Int := sequentref01_Compare' (a0, a1)
def sequentref01_Compare_l0 (rest0 : (List Ty)) (k0 : Nat) (a1 : Ty) : Option Int := sequentref01_Compare_l0' (rest0, k0, a1)
theorem sequentref01_Compare_eq (a0 : Ty) (a1 : Ty) : sequentref01_Compare a0 a1 =
    if ¬ a0.v = a1.v then
      if a0.v = true then
        some (-1)
      else
      some 1
    else
    if ¬ a0.name = a1.name then
      if Op.bytesLess a0.name.toList a1.name.toList = true then
        some (-1)
      else
      some 1
    else
    if ¬ ((Ty.Ds a0.args).length : Int) = ((Ty.Ds a1.args).length : Int) then
      if ((Ty.Ds a0.args).length : Int) < ((Ty.Ds a1.args).length : Int) then
        some (-1)
      else
      some 1
    else
    sequentref01_Compare_l0 a0.args 0 a1 := sequentref01_Compare'.eq_def (a0, a1)
theorem sequentref01_Compare_l0_eq (rest0 : (List Ty)) (k0 : Nat) (a1 : Ty) : sequentref01_Compare_l0 rest0 k0 a1 =
    match rest0 with
    | [] =>
      some 0
    | v7 :: rest0 =>
      bind (geti a1.args (k0 : Int)) fun v8 =>
      bind (sequentref01_Compare v7 v8) fun v9 =>
      if ¬ v9 = 0 then
        some v9
      else
      sequentref01_Compare_l0 rest0 (k0 + 1) a1 := sequentref01_Compare_l0'.eq_def (rest0, k0, a1)

def sequentref02_sign (a0 : Bool) (a1 : Bool) : Option Int :=
  if a1 = true then
    some 0
  else
  if a0 = true then
    some (-1)
  else
  some 1

mutual
def sequentref02_Compare' (p : (Tm × Tm)) : Option Int := match p with
  | (a0, a1) =>
    bind (sequentref02_sign (decide (a0.kind < a1.kind)) (decide (a0.kind = a1.kind))) fun v1 =>
    if v1 = 0 then
      if ¬ a0.kind = 5 then
        bind (sequentref02_sign (decide (Op.bytesLess a0.name.toList a1.name.toList = true)) (decide (a0.name = a1.name))) fun v4 =>
        sequentref02_Compare_j0' (v4, a0, a1)
      else
      sequentref02_Compare_j0' (v1, a0, a1)
    else
    sequentref02_Compare_j0' (v1, a0, a1)
  partial_fixpoint
def sequentref02_Compare_j0' (p : (Int × Tm × Tm)) : Option Int := match p with
  | (t5_1, a0, a1) =>
    if t5_1 = 0 then
      bind (sequentref01_Compare a0.ty a1.ty) fun v6 =>
      sequentref02_Compare_j1' (v6, a0, a1)
    else
    sequentref02_Compare_j1' (t5_1, a0, a1)
  partial_fixpoint
def sequentref02_Compare_j1' (p : (Int × Tm × Tm)) : Option Int := match p with
  | (t5_2, a0, a1) =>
    if t5_2 = 0 then
      bind (sequentref02_sign (decide (a0.index < a1.index)) (decide (a0.index = a1.index))) fun v8 =>
      sequentref02_Compare_j2' (v8, a0, a1)
    else
    sequentref02_Compare_j2' (t5_2, a0, a1)
  partial_fixpoint
def sequentref02_Compare_j2' (p : (Int × Tm × Tm)) : Option Int := match p with
  | (t5_3, a0, a1) =>
    if t5_3 = 0 then
      bind (sequentref02_sign (decide (((Tm.Ds a0.sub).length : Int) < ((Tm.Ds a1.sub).length : Int))) (decide (((Tm.Ds a0.sub).length : Int) = ((Tm.Ds a1.sub).length : Int)))) fun v10 =>
      sequentref02_Compare_j3' (v10, a0, a1)
    else
    sequentref02_Compare_j3' (t5_3, a0, a1)
  partial_fixpoint
def sequentref02_Compare_j3' (p : (Int × Tm × Tm)) : Option Int := match p with
  | (t5_4, a0, a1) =>
    sequentref02_Compare_l0' (t5_4, 0, a0, a1)
  partial_fixpoint
def sequentref02_Compare_l0' (p : (Int × Int × Tm × Tm)) : Option Int := match p with
  | (t5_0, t6_0, a0, a1) =>
    if t5_0 = 0 then
      if t6_0 < ((Tm.Ds a0.sub).length : Int) then
        bind (geti a0.sub t6_0) fun v13 =>
        bind (geti a1.sub t6_0) fun v14 =>
        bind (sequentref02_Compare' (v13, v14)) fun v15 =>
        bind (some (IntKind.wrap .i64 (t6_0 + 1))) fun v16 =>
        sequentref02_Compare_l0' (v15, v16, a0, a1)
      else
      some t5_0
    else
    some t5_0
  partial_fixpoint
end
def sequentref02_Compare (a0 : Tm) (a1 : Tm) : Option Int := sequentref02_Compare' (a0, a1)
def sequentref02_Compare_j0 (t5_1 : Int) (a0 : Tm) (a1 : Tm) : Option Int := sequentref02_Compare_j0' (t5_1, a0, a1)
def sequentref02_Compare_j1 (t5_2 : Int) (a0 : Tm) (a1 : Tm) : Option Int := sequentref02_Compare_j1' (t5_2, a0, a1)
def sequentref02_Compare_j2 (t5_3 : Int) (a0 : Tm) (a1 : Tm) : Option Int := sequentref02_Compare_j2' (t5_3, a0, a1)
def sequentref02_Compare_j3 (t5_4 : Int) (a0 : Tm) (a1 : Tm) : Option Int := sequentref02_Compare_j3' (t5_4, a0, a1)
def sequentref02_Compare_l0 (t5_0 : Int) (t6_0 : Int) (a0 : Tm) (a1 : Tm) : Option Int := sequentref02_Compare_l0' (t5_0, t6_0, a0, a1)
theorem sequentref02_Compare_eq (a0 : Tm) (a1 : Tm) : sequentref02_Compare a0 a1 =
    bind (sequentref02_sign (decide (a0.kind < a1.kind)) (decide (a0.kind = a1.kind))) fun v1 =>
    if v1 = 0 then
      if ¬ a0.kind = 5 then
        bind (sequentref02_sign (decide (Op.bytesLess a0.name.toList a1.name.toList = true)) (decide (a0.name = a1.name))) fun v4 =>
        sequentref02_Compare_j0 v4 a0 a1
      else
      sequentref02_Compare_j0 v1 a0 a1
    else
    sequentref02_Compare_j0 v1 a0 a1 := sequentref02_Compare'.eq_def (a0, a1)
theorem sequentref02_Compare_j0_eq (t5_1 : Int) (a0 : Tm) (a1 : Tm) : sequentref02_Compare_j0 t5_1 a0 a1 =
    if t5_1 = 0 then
      bind (sequentref01_Compare a0.ty a1.ty) fun v6 =>
      sequentref02_Compare_j1 v6 a0 a1
    else
    sequentref02_Compare_j1 t5_1 a0 a1 := sequentref02_Compare_j0'.eq_def (t5_1, a0, a1)
theorem sequentref02_Compare_j1_eq (t5_2 : Int) (a0 : Tm) (a1 : Tm) : sequentref02_Compare_j1 t5_2 a0 a1 =
    if t5_2 = 0 then
      bind (sequentref02_sign (decide (a0.index < a1.index)) (decide (a0.index = a1.index))) fun v8 =>
      sequentref02_Compare_j2 v8 a0 a1
    else
    sequentref02_Compare_j2 t5_2 a0 a1 := sequentref02_Compare_j1'.eq_def (t5_2, a0, a1)
theorem sequentref02_Compare_j2_eq (t5_3 : Int) (a0 : Tm) (a1 : Tm) : sequentref02_Compare_j2 t5_3 a0 a1 =
    if t5_3 = 0 then
      bind (sequentref02_sign (decide (((Tm.Ds a0.sub).length : Int) < ((Tm.Ds a1.sub).length : Int))) (decide (((Tm.Ds a0.sub).length : Int) = ((Tm.Ds a1.sub).length : Int)))) fun v10 =>
      sequentref02_Compare_j3 v10 a0 a1
    else
    sequentref02_Compare_j3 t5_3 a0 a1 := sequentref02_Compare_j2'.eq_def (t5_3, a0, a1)
theorem sequentref02_Compare_j3_eq (t5_4 : Int) (a0 : Tm) (a1 : Tm) : sequentref02_Compare_j3 t5_4 a0 a1 =
    sequentref02_Compare_l0 t5_4 0 a0 a1 := sequentref02_Compare_j3'.eq_def (t5_4, a0, a1)
theorem sequentref02_Compare_l0_eq (t5_0 : Int) (t6_0 : Int) (a0 : Tm) (a1 : Tm) : sequentref02_Compare_l0 t5_0 t6_0 a0 a1 =
    if t5_0 = 0 then
      if t6_0 < ((Tm.Ds a0.sub).length : Int) then
        bind (geti a0.sub t6_0) fun v13 =>
        bind (geti a1.sub t6_0) fun v14 =>
        bind (sequentref02_Compare v13 v14) fun v15 =>
        bind (some (IntKind.wrap .i64 (t6_0 + 1))) fun v16 =>
        sequentref02_Compare_l0 v15 v16 a0 a1
      else
      some t5_0
    else
    some t5_0 := sequentref02_Compare_l0'.eq_def (t5_0, t6_0, a0, a1)

def sequentref02_Same (a0 : Tm) (a1 : Tm) : Option Bool :=
  bind (sequentref02_Compare a0 a1) fun v1 =>
  some (decide (v1 = 0))

def sequentref01_Same (a0 : Ty) (a1 : Ty) : Option Bool :=
  bind (sequentref01_Compare a0 a1) fun v1 =>
  some (decide (v1 = 0))

mutual
def sequentref01_Depth' (a0 : Ty) : Option Int :=
  sequentref01_Depth_l0' (a0.args, 0)
  partial_fixpoint
def sequentref01_Depth_l0' (p : ((List Ty) × Int)) : Option Int := match p with
  | (rest0, t3_0) =>
    match rest0 with
    | [] =>
      bind (some (IntKind.wrap .i64 (1 + t3_0))) fun v3 =>
      some v3
    | v1 :: rest0 =>
      bind (sequentref01_Depth' v1) fun v2 =>
      sequentref01_Depth_l0' (rest0, (max t3_0 v2))
  partial_fixpoint
end
def sequentref01_Depth (a0 : Ty) : Option Int := sequentref01_Depth' a0
def sequentref01_Depth_l0 (rest0 : (List Ty)) (t3_0 : Int) : Option Int := sequentref01_Depth_l0' (rest0, t3_0)
theorem sequentref01_Depth_eq (a0 : Ty) : sequentref01_Depth a0 =
    sequentref01_Depth_l0 a0.args 0 := sequentref01_Depth'.eq_def a0
theorem sequentref01_Depth_l0_eq (rest0 : (List Ty)) (t3_0 : Int) : sequentref01_Depth_l0 rest0 t3_0 =
    match rest0 with
    | [] =>
      bind (some (IntKind.wrap .i64 (1 + t3_0))) fun v3 =>
      some v3
    | v1 :: rest0 =>
      bind (sequentref01_Depth v1) fun v2 =>
      sequentref01_Depth_l0 rest0 (max t3_0 v2) := sequentref01_Depth_l0'.eq_def (rest0, t3_0)

mutual
def sequentref01_Size' (a0 : Ty) : Option Int :=
  sequentref01_Size_l0' (a0.args, 1)
  partial_fixpoint
def sequentref01_Size_l0' (p : ((List Ty) × Int)) : Option Int := match p with
  | (rest0, t3_0) =>
    match rest0 with
    | [] =>
      some t3_0
    | v1 :: rest0 =>
      bind (sequentref01_Size' v1) fun v2 =>
      bind (some (IntKind.wrap .i64 (t3_0 + v2))) fun v3 =>
      sequentref01_Size_l0' (rest0, v3)
  partial_fixpoint
end
def sequentref01_Size (a0 : Ty) : Option Int := sequentref01_Size' a0
def sequentref01_Size_l0 (rest0 : (List Ty)) (t3_0 : Int) : Option Int := sequentref01_Size_l0' (rest0, t3_0)
theorem sequentref01_Size_eq (a0 : Ty) : sequentref01_Size a0 =
    sequentref01_Size_l0 a0.args 1 := sequentref01_Size'.eq_def a0
theorem sequentref01_Size_l0_eq (rest0 : (List Ty)) (t3_0 : Int) : sequentref01_Size_l0 rest0 t3_0 =
    match rest0 with
    | [] =>
      some t3_0
    | v1 :: rest0 =>
      bind (sequentref01_Size v1) fun v2 =>
      bind (some (IntKind.wrap .i64 (t3_0 + v2))) fun v3 =>
      sequentref01_Size_l0 rest0 v3 := sequentref01_Size_l0'.eq_def (rest0, t3_0)

def sequentref01_Small (a0 : Ty) : Option Bool :=
  bind (sequentref01_Size a0) fun v1 =>
  if v1 ≤ 500 then
    bind (sequentref01_Depth a0) fun v3 =>
    some (decide (v3 ≤ 200))
  else
  some false

def sequentref01_Name_l0' (p : (Int × ByteArray)) : Option Bool := match p with
  | (t3_0, a0) =>
    if t3_0 < (a0.size : Int) then
      bind (getb a0 t3_0) fun v4 =>
      if v4 < 33 then
        some false
      else
      if 126 < v4 then
        some false
      else
      if v4 = 40 then
        some false
      else
      if v4 = 41 then
        some false
      else
      if v4 = 44 then
        some false
      else
      if v4 = 58 then
        some false
      else
      if v4 = 92 then
        some false
      else
      if v4 = 46 then
        some false
      else
      if v4 = 34 then
        some false
      else
      bind (some (IntKind.wrap .i64 (t3_0 + 1))) fun v14 =>
      sequentref01_Name_l0' (v14, a0)
    else
    some true
  partial_fixpoint
def sequentref01_Name_l0 (t3_0 : Int) (a0 : ByteArray) : Option Bool := sequentref01_Name_l0' (t3_0, a0)
theorem sequentref01_Name_l0_eq (t3_0 : Int) (a0 : ByteArray) : sequentref01_Name_l0 t3_0 a0 =
    if t3_0 < (a0.size : Int) then
      bind (getb a0 t3_0) fun v4 =>
      if v4 < 33 then
        some false
      else
      if 126 < v4 then
        some false
      else
      if v4 = 40 then
        some false
      else
      if v4 = 41 then
        some false
      else
      if v4 = 44 then
        some false
      else
      if v4 = 58 then
        some false
      else
      if v4 = 92 then
        some false
      else
      if v4 = 46 then
        some false
      else
      if v4 = 34 then
        some false
      else
      bind (some (IntKind.wrap .i64 (t3_0 + 1))) fun v14 =>
      sequentref01_Name_l0 v14 a0
    else
    some true := sequentref01_Name_l0'.eq_def (t3_0, a0)

def sequentref01_Name (a0 : ByteArray) : Option Bool :=
  if (a0.size : Int) < 1 then
    some false
  else
  if 30 < (a0.size : Int) then
    some false
  else
  sequentref01_Name_l0 0 a0

mutual
def sequentref01_shape' (a0 : Ty) : Option Bool :=
  bind (sequentref01_Name a0.name) fun v1 =>
  if v1 = true then
    bind (getb a0.name 0) fun v3 =>
    if ¬ a0.v = (decide (v3 = 39)) then
      some false
    else
    if a0.v = true then
      if 0 < ((Ty.Ds a0.args).length : Int) then
        some false
      else
      if 8 < ((Ty.Ds a0.args).length : Int) then
        some false
      else
      sequentref01_shape_j0' a0
    else
    if 8 < ((Ty.Ds a0.args).length : Int) then
      some false
    else
    sequentref01_shape_j0' a0
  else
  some false
  partial_fixpoint
def sequentref01_shape_j0' (a0 : Ty) : Option Bool :=
  sequentref01_shape_l0' a0.args
  partial_fixpoint
def sequentref01_shape_l0' (rest0 : (List Ty)) : Option Bool :=
  match rest0 with
  | [] =>
    some true
  | v8 :: rest0 =>
    bind (sequentref01_shape' v8) fun v9 =>
    if v9 = true then
      sequentref01_shape_l0' rest0
    else
    some false
  partial_fixpoint
end
def sequentref01_shape (a0 : Ty) : Option Bool := sequentref01_shape' a0
def sequentref01_shape_j0 (a0 : Ty) : Option Bool := sequentref01_shape_j0' a0
def sequentref01_shape_l0 (rest0 : (List Ty)) : Option Bool := sequentref01_shape_l0' rest0
theorem sequentref01_shape_eq (a0 : Ty) : sequentref01_shape a0 =
    bind (sequentref01_Name a0.name) fun v1 =>
    if v1 = true then
      bind (getb a0.name 0) fun v3 =>
      if ¬ a0.v = (decide (v3 = 39)) then
        some false
      else
      if a0.v = true then
        if 0 < ((Ty.Ds a0.args).length : Int) then
          some false
        else
        if 8 < ((Ty.Ds a0.args).length : Int) then
          some false
        else
        sequentref01_shape_j0 a0
      else
      if 8 < ((Ty.Ds a0.args).length : Int) then
        some false
      else
      sequentref01_shape_j0 a0
    else
    some false := sequentref01_shape'.eq_def a0
theorem sequentref01_shape_j0_eq (a0 : Ty) : sequentref01_shape_j0 a0 =
    sequentref01_shape_l0 a0.args := sequentref01_shape_j0'.eq_def a0
theorem sequentref01_shape_l0_eq (rest0 : (List Ty)) : sequentref01_shape_l0 rest0 =
    match rest0 with
    | [] =>
      some true
    | v8 :: rest0 =>
      bind (sequentref01_shape v8) fun v9 =>
      if v9 = true then
        sequentref01_shape_l0 rest0
      else
      some false := sequentref01_shape_l0'.eq_def rest0

def sequentref01_Valid (a0 : Ty) : Option Bool :=
  bind (sequentref01_Small a0) fun v1 =>
  if v1 = true then
    bind (sequentref01_shape a0) fun v3 =>
    some v3
  else
  some false

mutual
def sequentref01_Twin' (a0 : Ty) : Option Ty :=
  sequentref01_Twin_l0' (a0.args, ([] : List Ty), a0)
  partial_fixpoint
def sequentref01_Twin_l0' (p : ((List Ty) × (List Ty) × Ty)) : Option Ty := match p with
  | (rest0, c2_2_0, a0) =>
    match rest0 with
    | [] =>
      some (Ty.mk a0.v a0.name c2_2_0)
    | v4 :: rest0 =>
      bind (sequentref01_Twin' v4) fun v5 =>
      bind (app c2_2_0 ([v5])) fun v6 =>
      sequentref01_Twin_l0' (rest0, v6, a0)
  partial_fixpoint
end
def sequentref01_Twin (a0 : Ty) : Option Ty := sequentref01_Twin' a0
def sequentref01_Twin_l0 (rest0 : (List Ty)) (c2_2_0 : (List Ty)) (a0 : Ty) : Option Ty := sequentref01_Twin_l0' (rest0, c2_2_0, a0)
theorem sequentref01_Twin_eq (a0 : Ty) : sequentref01_Twin a0 =
    sequentref01_Twin_l0 a0.args ([] : List Ty) a0 := sequentref01_Twin'.eq_def a0
theorem sequentref01_Twin_l0_eq (rest0 : (List Ty)) (c2_2_0 : (List Ty)) (a0 : Ty) : sequentref01_Twin_l0 rest0 c2_2_0 a0 =
    match rest0 with
    | [] =>
      some (Ty.mk a0.v a0.name c2_2_0)
    | v4 :: rest0 =>
      bind (sequentref01_Twin v4) fun v5 =>
      bind (app c2_2_0 ([v5])) fun v6 =>
      sequentref01_Twin_l0 rest0 v6 a0 := sequentref01_Twin_l0'.eq_def (rest0, c2_2_0, a0)

def sequentref01_Fun (a0 : Ty) (a1 : Ty) : Option Ty :=
  bind (sequentref01_Twin a0) fun v1 =>
  bind (sequentref01_Twin a1) fun v2 =>
  some (Ty.mk false (ByteArray.mk #[102, 117, 110]) ([v1, v2]))

def sequentref02_Formed_j0 (a0 : Tm) (v49 : (Ty × Bool)) : Option (Ty × Bool) :=
  bind (sequentref01_Fun a0.ty v49.1) fun v50 =>
  if v49.2 = true then
    bind (sequentref01_Valid v50) fun v52 =>
    some (v50, v52)
  else
  some (v50, false)

def sequentref02_Name (a0 : ByteArray) : Option Bool :=
  bind (sequentref01_Name a0) fun v1 =>
  if v1 = true then
    bind (getb a0 0) fun v3 =>
    some (decide (¬ v3 = 39))
  else
  some false

def sequentref02_none (a0 : Ty) : Option Bool :=
  if a0.v = true then
    some false
  else
  if a0.name = ByteArray.empty then
    some (decide (((Ty.Ds a0.args).length : Int) = 0))
  else
  some false

def sequentref02_Formed' (p : (Tm × (List Ty))) : Option (Ty × Bool) := match p with
  | (a0, a1) =>
    if a0.kind = 1 then
      bind (sequentref02_Name a0.name) fun v2 =>
      if v2 = true then
        bind (sequentref01_Valid a0.ty) fun v4 =>
        if v4 = true then
          if a0.index = 0 then
            some (a0.ty, (decide (((Tm.Ds a0.sub).length : Int) = 0)))
          else
          some (a0.ty, false)
        else
        some (a0.ty, false)
      else
      some (a0.ty, false)
    else
    if a0.kind = 2 then
      bind (sequentref02_Name a0.name) fun v8 =>
      if v8 = true then
        bind (sequentref01_Valid a0.ty) fun v10 =>
        if v10 = true then
          if a0.index = 0 then
            some (a0.ty, (decide (((Tm.Ds a0.sub).length : Int) = 0)))
          else
          some (a0.ty, false)
        else
        some (a0.ty, false)
      else
      some (a0.ty, false)
    else
    if a0.kind = 3 then
      if ¬ a0.name = ByteArray.empty then
        some ((Ty.mk false ByteArray.empty ([] : List Ty)), false)
      else
      bind (sequentref02_none a0.ty) fun v15 =>
      if v15 = true then
        if ¬ ((Tm.Ds a0.sub).length : Int) = 0 then
          some ((Ty.mk false ByteArray.empty ([] : List Ty)), false)
        else
        if a0.index < 0 then
          some ((Ty.mk false ByteArray.empty ([] : List Ty)), false)
        else
        if ((Ty.Ds a1).length : Int) ≤ a0.index then
          some ((Ty.mk false ByteArray.empty ([] : List Ty)), false)
        else
        bind (geti a1 a0.index) fun v20 =>
        some (v20, true)
      else
      some ((Ty.mk false ByteArray.empty ([] : List Ty)), false)
    else
    if a0.kind = 4 then
      if ¬ a0.name = ByteArray.empty then
        some ((Ty.mk false ByteArray.empty ([] : List Ty)), false)
      else
      bind (sequentref02_none a0.ty) fun v23 =>
      if v23 = true then
        if ¬ a0.index = 0 then
          some ((Ty.mk false ByteArray.empty ([] : List Ty)), false)
        else
        if ¬ ((Tm.Ds a0.sub).length : Int) = 2 then
          some ((Ty.mk false ByteArray.empty ([] : List Ty)), false)
        else
        bind (geti a0.sub 0) fun v27 =>
        bind (sequentref02_Formed' (v27, a1)) fun v28 =>
        bind (geti a0.sub 1) fun v29 =>
        bind (sequentref02_Formed' (v29, a1)) fun v30 =>
        if v28.2 = true then
          if v30.2 = true then
            if v28.1.v = true then
              some ((Ty.mk false ByteArray.empty ([] : List Ty)), false)
            else
            if ¬ v28.1.name = (ByteArray.mk #[102, 117, 110]) then
              some ((Ty.mk false ByteArray.empty ([] : List Ty)), false)
            else
            if ¬ ((Ty.Ds v28.1.args).length : Int) = 2 then
              some ((Ty.mk false ByteArray.empty ([] : List Ty)), false)
            else
            bind (geti v28.1.args 0) fun v36 =>
            bind (sequentref01_Same v36 v30.1) fun v37 =>
            if v37 = true then
              bind (geti v28.1.args 1) fun v39 =>
              some (v39, true)
            else
            some ((Ty.mk false ByteArray.empty ([] : List Ty)), false)
          else
          some ((Ty.mk false ByteArray.empty ([] : List Ty)), false)
        else
        some ((Ty.mk false ByteArray.empty ([] : List Ty)), false)
      else
      some ((Ty.mk false ByteArray.empty ([] : List Ty)), false)
    else
    if a0.kind = 5 then
      bind (sequentref02_Name a0.name) fun v41 =>
      if v41 = true then
        bind (sequentref01_Valid a0.ty) fun v43 =>
        if v43 = true then
          if ¬ a0.index = 0 then
            some ((Ty.mk false ByteArray.empty ([] : List Ty)), false)
          else
          if ¬ ((Tm.Ds a0.sub).length : Int) = 1 then
            some ((Ty.mk false ByteArray.empty ([] : List Ty)), false)
          else
          bind (geti a0.sub 0) fun v47 =>
          bind (app ([a0.ty]) a1) fun v48 =>
          bind (sequentref02_Formed' (v47, v48)) fun v49 =>
          sequentref02_Formed_j0 a0 v49
        else
        some ((Ty.mk false ByteArray.empty ([] : List Ty)), false)
      else
      some ((Ty.mk false ByteArray.empty ([] : List Ty)), false)
    else
    some ((Ty.mk false ByteArray.empty ([] : List Ty)), false)
  partial_fixpoint
def sequentref02_Formed (a0 : Tm) (a1 : (List Ty)) : Option (Ty × Bool) := sequentref02_Formed' (a0, a1)
theorem sequentref02_Formed_eq (a0 : Tm) (a1 : (List Ty)) : sequentref02_Formed a0 a1 =
    if a0.kind = 1 then
      bind (sequentref02_Name a0.name) fun v2 =>
      if v2 = true then
        bind (sequentref01_Valid a0.ty) fun v4 =>
        if v4 = true then
          if a0.index = 0 then
            some (a0.ty, (decide (((Tm.Ds a0.sub).length : Int) = 0)))
          else
          some (a0.ty, false)
        else
        some (a0.ty, false)
      else
      some (a0.ty, false)
    else
    if a0.kind = 2 then
      bind (sequentref02_Name a0.name) fun v8 =>
      if v8 = true then
        bind (sequentref01_Valid a0.ty) fun v10 =>
        if v10 = true then
          if a0.index = 0 then
            some (a0.ty, (decide (((Tm.Ds a0.sub).length : Int) = 0)))
          else
          some (a0.ty, false)
        else
        some (a0.ty, false)
      else
      some (a0.ty, false)
    else
    if a0.kind = 3 then
      if ¬ a0.name = ByteArray.empty then
        some ((Ty.mk false ByteArray.empty ([] : List Ty)), false)
      else
      bind (sequentref02_none a0.ty) fun v15 =>
      if v15 = true then
        if ¬ ((Tm.Ds a0.sub).length : Int) = 0 then
          some ((Ty.mk false ByteArray.empty ([] : List Ty)), false)
        else
        if a0.index < 0 then
          some ((Ty.mk false ByteArray.empty ([] : List Ty)), false)
        else
        if ((Ty.Ds a1).length : Int) ≤ a0.index then
          some ((Ty.mk false ByteArray.empty ([] : List Ty)), false)
        else
        bind (geti a1 a0.index) fun v20 =>
        some (v20, true)
      else
      some ((Ty.mk false ByteArray.empty ([] : List Ty)), false)
    else
    if a0.kind = 4 then
      if ¬ a0.name = ByteArray.empty then
        some ((Ty.mk false ByteArray.empty ([] : List Ty)), false)
      else
      bind (sequentref02_none a0.ty) fun v23 =>
      if v23 = true then
        if ¬ a0.index = 0 then
          some ((Ty.mk false ByteArray.empty ([] : List Ty)), false)
        else
        if ¬ ((Tm.Ds a0.sub).length : Int) = 2 then
          some ((Ty.mk false ByteArray.empty ([] : List Ty)), false)
        else
        bind (geti a0.sub 0) fun v27 =>
        bind (sequentref02_Formed v27 a1) fun v28 =>
        bind (geti a0.sub 1) fun v29 =>
        bind (sequentref02_Formed v29 a1) fun v30 =>
        if v28.2 = true then
          if v30.2 = true then
            if v28.1.v = true then
              some ((Ty.mk false ByteArray.empty ([] : List Ty)), false)
            else
            if ¬ v28.1.name = (ByteArray.mk #[102, 117, 110]) then
              some ((Ty.mk false ByteArray.empty ([] : List Ty)), false)
            else
            if ¬ ((Ty.Ds v28.1.args).length : Int) = 2 then
              some ((Ty.mk false ByteArray.empty ([] : List Ty)), false)
            else
            bind (geti v28.1.args 0) fun v36 =>
            bind (sequentref01_Same v36 v30.1) fun v37 =>
            if v37 = true then
              bind (geti v28.1.args 1) fun v39 =>
              some (v39, true)
            else
            some ((Ty.mk false ByteArray.empty ([] : List Ty)), false)
          else
          some ((Ty.mk false ByteArray.empty ([] : List Ty)), false)
        else
        some ((Ty.mk false ByteArray.empty ([] : List Ty)), false)
      else
      some ((Ty.mk false ByteArray.empty ([] : List Ty)), false)
    else
    if a0.kind = 5 then
      bind (sequentref02_Name a0.name) fun v41 =>
      if v41 = true then
        bind (sequentref01_Valid a0.ty) fun v43 =>
        if v43 = true then
          if ¬ a0.index = 0 then
            some ((Ty.mk false ByteArray.empty ([] : List Ty)), false)
          else
          if ¬ ((Tm.Ds a0.sub).length : Int) = 1 then
            some ((Ty.mk false ByteArray.empty ([] : List Ty)), false)
          else
          bind (geti a0.sub 0) fun v47 =>
          bind (app ([a0.ty]) a1) fun v48 =>
          bind (sequentref02_Formed v47 v48) fun v49 =>
          sequentref02_Formed_j0 a0 v49
        else
        some ((Ty.mk false ByteArray.empty ([] : List Ty)), false)
      else
      some ((Ty.mk false ByteArray.empty ([] : List Ty)), false)
    else
    some ((Ty.mk false ByteArray.empty ([] : List Ty)), false) := sequentref02_Formed'.eq_def (a0, a1)

def sequentref02_Check (a0 : Tm) : Option Int :=
  bind (sequentref02_Small a0) fun v1 =>
  if v1 = true then
    bind (sequentref02_Formed a0 ([] : List Ty)) fun v3 =>
    if v3.2 = true then
      some 0
    else
    some 20
  else
  some 21

def sequentref08_thin_j0 (a0 : Tm) (v16 : (Ty × Bool)) : Option (Ty × Bool) :=
  if v16.2 = true then
    bind (sequentref01_Fun a0.ty v16.1) fun v18 =>
    bind (sequentref01_Size v18) fun v19 =>
    some (v18, (decide (v19 ≤ 100)))
  else
  some (v16.1, false)

def sequentref08_thin' (p : (Tm × (List Ty))) : Option (Ty × Bool) := match p with
  | (a0, a1) =>
    if a0.kind = 3 then
      bind (geti a1 a0.index) fun v2 =>
      bind (sequentref01_Size v2) fun v3 =>
      some (v2, (decide (v3 ≤ 100)))
    else
    if a0.kind = 4 then
      bind (geti a0.sub 0) fun v5 =>
      bind (sequentref08_thin' (v5, a1)) fun v6 =>
      bind (geti a0.sub 1) fun v7 =>
      bind (sequentref08_thin' (v7, a1)) fun v8 =>
      if v6.2 = true then
        if v8.2 = true then
          bind (geti v6.1.args 1) fun v11 =>
          bind (sequentref01_Size v11) fun v12 =>
          some (v11, (decide (v12 ≤ 100)))
        else
        some (v6.1, false)
      else
      some (v6.1, false)
    else
    if a0.kind = 5 then
      bind (geti a0.sub 0) fun v14 =>
      bind (app ([a0.ty]) a1) fun v15 =>
      bind (sequentref08_thin' (v14, v15)) fun v16 =>
      sequentref08_thin_j0 a0 v16
    else
    bind (sequentref01_Size a0.ty) fun v23 =>
    some (a0.ty, (decide (v23 ≤ 100)))
  partial_fixpoint
def sequentref08_thin (a0 : Tm) (a1 : (List Ty)) : Option (Ty × Bool) := sequentref08_thin' (a0, a1)
theorem sequentref08_thin_eq (a0 : Tm) (a1 : (List Ty)) : sequentref08_thin a0 a1 =
    if a0.kind = 3 then
      bind (geti a1 a0.index) fun v2 =>
      bind (sequentref01_Size v2) fun v3 =>
      some (v2, (decide (v3 ≤ 100)))
    else
    if a0.kind = 4 then
      bind (geti a0.sub 0) fun v5 =>
      bind (sequentref08_thin v5 a1) fun v6 =>
      bind (geti a0.sub 1) fun v7 =>
      bind (sequentref08_thin v7 a1) fun v8 =>
      if v6.2 = true then
        if v8.2 = true then
          bind (geti v6.1.args 1) fun v11 =>
          bind (sequentref01_Size v11) fun v12 =>
          some (v11, (decide (v12 ≤ 100)))
        else
        some (v6.1, false)
      else
      some (v6.1, false)
    else
    if a0.kind = 5 then
      bind (geti a0.sub 0) fun v14 =>
      bind (app ([a0.ty]) a1) fun v15 =>
      bind (sequentref08_thin v14 v15) fun v16 =>
      sequentref08_thin_j0 a0 v16
    else
    bind (sequentref01_Size a0.ty) fun v23 =>
    some (a0.ty, (decide (v23 ≤ 100))) := sequentref08_thin'.eq_def (a0, a1)

def sequentref08_Fits (a0 : Tm) : Option Bool :=
  bind (sequentref02_Size a0) fun v1 =>
  if 2000 < v1 then
    some false
  else
  bind (sequentref02_Depth a0) fun v3 =>
  if 100 < v3 then
    some false
  else
  bind (sequentref08_thin a0 ([] : List Ty)) fun v5 =>
  some v5.2

def sequentref08_CheckTerm (a0 : Tm) : Option Int :=
  bind (sequentref02_Check a0) fun v1 =>
  if v1 = 0 then
    bind (sequentref08_Fits a0) fun v3 =>
    if v3 = true then
      some v1
    else
    some 21
  else
  some v1

def sequentref02_Type (a0 : Tm) : Option Ty :=
  bind (sequentref02_Formed a0 ([] : List Ty)) fun v1 =>
  bind (sequentref01_Twin v1.1) fun v2 =>
  some v2

def sequentref21_Checks_l1' (p : ((List Tm) × Bool)) : Option Int := match p with
  | (rest1, a1) =>
    match rest1 with
    | [] =>
      some 0
    | v4 :: rest1 =>
      if a1 = true then
        bind (sequentref02_Type v4) fun v6 =>
        bind (sequentref21_N) fun v7 =>
        bind (sequentref01_Same v6 v7) fun v8 =>
        if v8 = true then
          sequentref21_Checks_l1' (rest1, a1)
        else
        some 50
      else
      some 0
  partial_fixpoint
def sequentref21_Checks_l1 (rest1 : (List Tm)) (a1 : Bool) : Option Int := sequentref21_Checks_l1' (rest1, a1)
theorem sequentref21_Checks_l1_eq (rest1 : (List Tm)) (a1 : Bool) : sequentref21_Checks_l1 rest1 a1 =
    match rest1 with
    | [] =>
      some 0
    | v4 :: rest1 =>
      if a1 = true then
        bind (sequentref02_Type v4) fun v6 =>
        bind (sequentref21_N) fun v7 =>
        bind (sequentref01_Same v6 v7) fun v8 =>
        if v8 = true then
          sequentref21_Checks_l1 rest1 a1
        else
        some 50
      else
      some 0 := sequentref21_Checks_l1'.eq_def (rest1, a1)

def sequentref21_Checks_l0' (p : ((List Tm) × (List Tm) × Bool)) : Option Int := match p with
  | (rest0, a0, a1) =>
    match rest0 with
    | [] =>
      sequentref21_Checks_l1 a0 a1
    | v1 :: rest0 =>
      bind (sequentref08_CheckTerm v1) fun v2 =>
      if ¬ v2 = 0 then
        some v2
      else
      sequentref21_Checks_l0' (rest0, a0, a1)
  partial_fixpoint
def sequentref21_Checks_l0 (rest0 : (List Tm)) (a0 : (List Tm)) (a1 : Bool) : Option Int := sequentref21_Checks_l0' (rest0, a0, a1)
theorem sequentref21_Checks_l0_eq (rest0 : (List Tm)) (a0 : (List Tm)) (a1 : Bool) : sequentref21_Checks_l0 rest0 a0 a1 =
    match rest0 with
    | [] =>
      sequentref21_Checks_l1 a0 a1
    | v1 :: rest0 =>
      bind (sequentref08_CheckTerm v1) fun v2 =>
      if ¬ v2 = 0 then
        some v2
      else
      sequentref21_Checks_l0 rest0 a0 a1 := sequentref21_Checks_l0'.eq_def (rest0, a0, a1)

def sequentref21_Checks (a0 : (List Tm)) (a1 : Bool) : Option Int :=
  sequentref21_Checks_l0 a0 a0 a1

def sequentref21_IsOp (a0 : ByteArray) : Option Bool :=
  if a0 = (ByteArray.mk #[43]) then
    some true
  else
  if a0 = (ByteArray.mk #[42]) then
    some true
  else
  if a0 = (ByteArray.mk #[60, 61]) then
    some true
  else
  some (decide (a0 = (ByteArray.mk #[60])))

def sequentref02_App (a0 : Tm) (a1 : Tm) : Option Tm :=
  some (Tm.mk 4 ByteArray.empty (Ty.mk false ByteArray.empty ([] : List Ty)) 0 ([a0, a1]))

def sequentref21_Op_j0 (c3_0_0 : Bool) (c3_1_0 : ByteArray) (c3_2_0 : (List Ty)) (a0 : ByteArray) (a1 : Tm) (a2 : Tm) : Option Tm :=
  bind (sequentref21_N) fun v4 =>
  bind (sequentref21_N) fun v5 =>
  bind (sequentref01_Fun v5 (Ty.mk c3_0_0 c3_1_0 c3_2_0)) fun v6 =>
  bind (sequentref01_Fun v4 v6) fun v7 =>
  bind (sequentref09_Constant a0 v7) fun v8 =>
  bind (sequentref02_App v8 a1) fun v9 =>
  bind (sequentref02_App v9 a2) fun v10 =>
  some v10

def sequentref21_Op (a0 : ByteArray) (a1 : Tm) (a2 : Tm) : Option Tm :=
  bind (sequentref21_N) fun v1 =>
  if a0 = (ByteArray.mk #[60, 61]) then
    bind (sequentref01_Bool) fun v3 =>
    sequentref21_Op_j0 v3.v v3.name v3.args a0 a1 a2
  else
  if a0 = (ByteArray.mk #[60]) then
    bind (sequentref01_Bool) fun v22 =>
    sequentref21_Op_j0 v22.v v22.name v22.args a0 a1 a2
  else
  sequentref21_Op_j0 v1.v v1.name v1.args a0 a1 a2

def sequentref21_Mk_j1 (t8_1 : Int) (a0 : ByteArray) (a1 : Tm) (a2 : Tm) : Option (Tm × Int) :=
  if ¬ t8_1 = 0 then
    some ((Tm.mk 0 ByteArray.empty (Ty.mk false ByteArray.empty ([] : List Ty)) 0 ([] : List Tm)), t8_1)
  else
  bind (sequentref21_Op a0 a1 a2) fun v8 =>
  some (v8, 0)

def sequentref21_Mk_j0 (t8_0 : Int) (a0 : ByteArray) (a1 : Tm) (a2 : Tm) : Option (Tm × Int) :=
  if t8_0 = 0 then
    bind (sequentref21_Checks ([a1, a2]) true) fun v6 =>
    sequentref21_Mk_j1 v6 a0 a1 a2
  else
  sequentref21_Mk_j1 t8_0 a0 a1 a2

def sequentref21_Mk (a0 : ByteArray) (a1 : Tm) (a2 : Tm) : Option (Tm × Int) :=
  bind (sequentref21_Checks ([a1, a2]) false) fun v1 =>
  if v1 = 0 then
    bind (sequentref21_IsOp a0) fun v3 =>
    if v3 = true then
      sequentref21_Mk_j0 v1 a0 a1 a2
    else
    sequentref21_Mk_j0 6 a0 a1 a2
  else
  sequentref21_Mk_j0 v1 a0 a1 a2

def sequentref21_Suc (a0 : Tm) : Option Tm :=
  bind (sequentref21_N) fun v1 =>
  bind (sequentref21_N) fun v2 =>
  bind (sequentref01_Fun v1 v2) fun v3 =>
  bind (sequentref09_Constant (ByteArray.mk #[83, 85, 67]) v3) fun v4 =>
  bind (sequentref02_App v4 a0) fun v5 =>
  some v5

def sequentref21_MkSuc (a0 : Tm) : Option (Tm × Int) :=
  bind (sequentref21_Checks ([a0]) true) fun v1 =>
  if ¬ v1 = 0 then
    some ((Tm.mk 0 ByteArray.empty (Ty.mk false ByteArray.empty ([] : List Ty)) 0 ([] : List Tm)), v1)
  else
  bind (sequentref21_Suc a0) fun v3 =>
  some (v3, 0)

def sequentlaw21_NumTerms (a0 : ByteArray) (a1 : Tm) (a2 : Tm) : Option Bool :=
  if 1000 < (a0.size : Int) then
    bind (sequentlaw21_woke) fun v2 =>
    some v2
  else
  bind (sequentref02_Great a1) fun v3 =>
  if v3 = true then
    bind (sequentlaw21_woke) fun v5 =>
    some v5
  else
  bind (sequentref02_Great a2) fun v6 =>
  if v6 = true then
    bind (sequentlaw21_woke) fun v8 =>
    some v8
  else
  bind (num_MkSuc a1) fun v9 =>
  bind (sequentref21_MkSuc a1) fun v10 =>
  bind (num_Mk a0 a1 a2) fun v11 =>
  bind (sequentref21_Mk a0 a1 a2) fun v12 =>
  bind (sequentref02_Same v9.1 v10.1) fun v13 =>
  if v13 = true then
    if v9.2 = v10.2 then
      bind (sequentref02_Same v11.1 v12.1) fun v16 =>
      if v16 = true then
        if v11.2 = v12.2 then
          bind (sequentlaw21_woke) fun v19 =>
          some v19
        else
        some false
      else
      some false
    else
    some false
  else
  some false

end Go.Proofs.Ytdjmibbgoajcaaa.Fw
