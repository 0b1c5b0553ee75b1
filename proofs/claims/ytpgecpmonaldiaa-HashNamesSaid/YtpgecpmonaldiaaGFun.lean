/- Functions. -/
import Derived.Test.YtpgecpmonaldiaaGData
set_option autoImplicit false
set_option linter.unusedVariables false
set_option linter.unusedSimpArgs false
namespace Go.Proofs.Ytpgecpmonaldiaa.Fw
open Go Go.Proofs
mutual
def types_Twin' (a0 : Ty) : Option Ty :=
  if 0 < ((Ty.Ds a0.args).length : Int) then
    bind (mkn (Ty.mk false ByteArray.empty []) ((Ty.Ds a0.args).length : Int)) fun v2 =>
    types_Twin_j0' (a0, v2)
  else
  types_Twin_j0b' a0
  partial_fixpoint
def types_Twin_j0' (p : (Ty × (List Ty))) : Option Ty := match p with
  | (a0, v2) =>
    types_Twin_l0' (0, v2, a0)
  partial_fixpoint
def types_Twin_l0' (p : (Int × (List Ty) × Ty)) : Option Ty := match p with
  | (t18_0, a2_0, a0) =>
    if t18_0 < ((Ty.Ds a0.args).length : Int) then
      bind (geti a0.args t18_0) fun v20 =>
      bind (types_Twin' v20) fun v21 =>
      bind (wantb (0 ≤ t18_0 ∧ t18_0 < (a2_0.length : Int))) fun g23 =>
      bind (seti a2_0 t18_0 v21) fun v24 =>
      bind (some (IntKind.wrap .i64 (t18_0 + 1))) fun v25 =>
      types_Twin_l0' (v25, v24, a0)
    else
    some (Ty.mk a0.v a0.name a2_0)
  partial_fixpoint
def types_Twin_j0b' (a0 : Ty) : Option Ty :=
  types_Twin_l0b' a0
  partial_fixpoint
def types_Twin_l0b' (a0 : Ty) : Option Ty :=
  if 0 < ((Ty.Ds a0.args).length : Int) then
    bind (geti a0.args 0) fun v20 =>
    bind (types_Twin' v20) fun v21 =>
    none
  else
  some (Ty.mk a0.v a0.name ([] : List Ty))
  partial_fixpoint
end
def types_Twin (a0 : Ty) : Option Ty := types_Twin' a0
def types_Twin_j0 (a0 : Ty) (v2 : (List Ty)) : Option Ty := types_Twin_j0' (a0, v2)
def types_Twin_l0 (t18_0 : Int) (a2_0 : (List Ty)) (a0 : Ty) : Option Ty := types_Twin_l0' (t18_0, a2_0, a0)
def types_Twin_j0b (a0 : Ty) : Option Ty := types_Twin_j0b' a0
def types_Twin_l0b (a0 : Ty) : Option Ty := types_Twin_l0b' a0
theorem types_Twin_eq (a0 : Ty) : types_Twin a0 =
    if 0 < ((Ty.Ds a0.args).length : Int) then
      bind (mkn (Ty.mk false ByteArray.empty []) ((Ty.Ds a0.args).length : Int)) fun v2 =>
      types_Twin_j0 a0 v2
    else
    types_Twin_j0b a0 := types_Twin'.eq_def a0
theorem types_Twin_j0_eq (a0 : Ty) (v2 : (List Ty)) : types_Twin_j0 a0 v2 =
    types_Twin_l0 0 v2 a0 := types_Twin_j0'.eq_def (a0, v2)
theorem types_Twin_l0_eq (t18_0 : Int) (a2_0 : (List Ty)) (a0 : Ty) : types_Twin_l0 t18_0 a2_0 a0 =
    if t18_0 < ((Ty.Ds a0.args).length : Int) then
      bind (geti a0.args t18_0) fun v20 =>
      bind (types_Twin v20) fun v21 =>
      bind (wantb (0 ≤ t18_0 ∧ t18_0 < (a2_0.length : Int))) fun g23 =>
      bind (seti a2_0 t18_0 v21) fun v24 =>
      bind (some (IntKind.wrap .i64 (t18_0 + 1))) fun v25 =>
      types_Twin_l0 v25 v24 a0
    else
    some (Ty.mk a0.v a0.name a2_0) := types_Twin_l0'.eq_def (t18_0, a2_0, a0)
theorem types_Twin_j0b_eq (a0 : Ty) : types_Twin_j0b a0 =
    types_Twin_l0b a0 := types_Twin_j0b'.eq_def a0
theorem types_Twin_l0b_eq (a0 : Ty) : types_Twin_l0b a0 =
    if 0 < ((Ty.Ds a0.args).length : Int) then
      bind (geti a0.args 0) fun v20 =>
      bind (types_Twin v20) fun v21 =>
      none
    else
    some (Ty.mk a0.v a0.name ([] : List Ty)) := types_Twin_l0b'.eq_def a0

def types_Fun (a0 : Ty) (a1 : Ty) : Option Ty :=
  bind (types_Twin a0) fun v1 =>
  bind (types_Twin a1) fun v2 =>
  some (Ty.mk false (ByteArray.mk #[102, 117, 110]) ([v1, v2]))

def sequentlaw31_leaf (a0 : ByteArray) (a1 : Ty) : Option Tm :=
  some (Tm.mk 1 a0 a1 0 ([] : List Tm))

def sequentlaw31_comb (a0 : Tm) (a1 : Tm) : Option Tm :=
  some (Tm.mk 4 ByteArray.empty (Ty.mk false ByteArray.empty ([] : List Ty)) 0 ([a0, a1]))

def sequentlaw31_twice : Option Tm :=
  bind (types_Fun (Ty.mk true (ByteArray.mk #[39, 97]) ([] : List Ty)) (Ty.mk true (ByteArray.mk #[39, 97]) ([] : List Ty))) fun v1 =>
  bind (sequentlaw31_leaf (ByteArray.mk #[102]) v1) fun v2 =>
  bind (sequentlaw31_leaf (ByteArray.mk #[120]) (Ty.mk true (ByteArray.mk #[39, 97]) ([] : List Ty))) fun v3 =>
  bind (sequentlaw31_comb v2 v3) fun v4 =>
  bind (sequentlaw31_comb v2 v4) fun v5 =>
  some v5

def slices_Clone_int_int (a0 : (List Int)) : Option (List Int) :=
  bind (
    bind (app ([] : List Int) a0) fun v4 =>
    some v4
  ) fun v2 =>
  if a0 = [] then bind (
    some ([] : List Int)
  ) fun v3 => if v3 = v2 then some v2 else none
  else some v2

def hash_Twin_io_l1' (p : ((List ATermNode) × (List ATermNode) × (List ATypeNode))) : Option ((List ATypeNode) × (List ATermNode)) := match p with
  | (rest1, c2_1_1, c2_0_0) =>
    match rest1 with
    | [] =>
      some (c2_0_0, c2_1_1)
    | v30 :: rest1 =>
      bind (slices_Clone_int_int v30.sub) fun v31 =>
      bind (app c2_1_1 ([(ATermNode.mk v30.kind v30.name v30.type_ v30.index v31)])) fun v32 =>
      hash_Twin_io_l1' (rest1, v32, c2_0_0)
  partial_fixpoint
def hash_Twin_io_l1 (rest1 : (List ATermNode)) (c2_1_1 : (List ATermNode)) (c2_0_0 : (List ATypeNode)) : Option ((List ATypeNode) × (List ATermNode)) := hash_Twin_io_l1' (rest1, c2_1_1, c2_0_0)
theorem hash_Twin_io_l1_eq (rest1 : (List ATermNode)) (c2_1_1 : (List ATermNode)) (c2_0_0 : (List ATypeNode)) : hash_Twin_io_l1 rest1 c2_1_1 c2_0_0 =
    match rest1 with
    | [] =>
      some (c2_0_0, c2_1_1)
    | v30 :: rest1 =>
      bind (slices_Clone_int_int v30.sub) fun v31 =>
      bind (app c2_1_1 ([(ATermNode.mk v30.kind v30.name v30.type_ v30.index v31)])) fun v32 =>
      hash_Twin_io_l1 rest1 v32 c2_0_0 := hash_Twin_io_l1'.eq_def (rest1, c2_1_1, c2_0_0)

def hash_Twin_io_j0 (a0 : AStore) (c2_0_0 : (List ATypeNode)) : Option ((List ATypeNode) × (List ATermNode)) :=
  hash_Twin_io_l1 a0.terms ([] : List ATermNode) c2_0_0

def hash_Twin_io_l0' (p : ((List ATypeNode) × (List ATypeNode) × AStore)) : Option ((List ATypeNode) × (List ATermNode)) := match p with
  | (rest0, c2_0_0, a0) =>
    match rest0 with
    | [] =>
      hash_Twin_io_j0 a0 c2_0_0
    | v12 :: rest0 =>
      bind (slices_Clone_int_int v12.args) fun v13 =>
      bind (app c2_0_0 ([(ATypeNode.mk v12.var v12.name v13)])) fun v14 =>
      hash_Twin_io_l0' (rest0, v14, a0)
  partial_fixpoint
def hash_Twin_io_l0 (rest0 : (List ATypeNode)) (c2_0_0 : (List ATypeNode)) (a0 : AStore) : Option ((List ATypeNode) × (List ATermNode)) := hash_Twin_io_l0' (rest0, c2_0_0, a0)
theorem hash_Twin_io_l0_eq (rest0 : (List ATypeNode)) (c2_0_0 : (List ATypeNode)) (a0 : AStore) : hash_Twin_io_l0 rest0 c2_0_0 a0 =
    match rest0 with
    | [] =>
      hash_Twin_io_j0 a0 c2_0_0
    | v12 :: rest0 =>
      bind (slices_Clone_int_int v12.args) fun v13 =>
      bind (app c2_0_0 ([(ATypeNode.mk v12.var v12.name v13)])) fun v14 =>
      hash_Twin_io_l0 rest0 v14 a0 := hash_Twin_io_l0'.eq_def (rest0, c2_0_0, a0)

def hash_Twin_io (a0 : AStore) : Option ((List ATypeNode) × (List ATermNode)) :=
  hash_Twin_io_l0 a0.types ([] : List ATypeNode) a0

def types_name_l0' (p : (Int × ByteArray)) : Option Bool := match p with
  | (t7_0, a0) =>
    if t7_0 < (a0.size : Int) then
      bind (getb a0 t7_0) fun v9 =>
      if v9 = 40 then
        some false
      else
      if v9 = 41 then
        some false
      else
      if v9 = 44 then
        some false
      else
      if v9 = 58 then
        some false
      else
      if v9 = 92 then
        some false
      else
      if v9 = 46 then
        some false
      else
      if v9 = 34 then
        some false
      else
      if v9 < 33 then
        some false
      else
      if 126 < v9 then
        some false
      else
      bind (some (IntKind.wrap .i64 (t7_0 + 1))) fun v19 =>
      types_name_l0' (v19, a0)
    else
    if ¬ a0 = ByteArray.empty then
      some (decide ((a0.size : Int) ≤ 30))
    else
    some false
  partial_fixpoint
def types_name_l0 (t7_0 : Int) (a0 : ByteArray) : Option Bool := types_name_l0' (t7_0, a0)
theorem types_name_l0_eq (t7_0 : Int) (a0 : ByteArray) : types_name_l0 t7_0 a0 =
    if t7_0 < (a0.size : Int) then
      bind (getb a0 t7_0) fun v9 =>
      if v9 = 40 then
        some false
      else
      if v9 = 41 then
        some false
      else
      if v9 = 44 then
        some false
      else
      if v9 = 58 then
        some false
      else
      if v9 = 92 then
        some false
      else
      if v9 = 46 then
        some false
      else
      if v9 = 34 then
        some false
      else
      if v9 < 33 then
        some false
      else
      if 126 < v9 then
        some false
      else
      bind (some (IntKind.wrap .i64 (t7_0 + 1))) fun v19 =>
      types_name_l0 v19 a0
    else
    if ¬ a0 = ByteArray.empty then
      some (decide ((a0.size : Int) ≤ 30))
    else
    some false := types_name_l0'.eq_def (t7_0, a0)

def types_name (a0 : ByteArray) : Option Bool :=
  types_name_l0 0 a0

def types_variable (a0 : ByteArray) : Option Bool :=
  bind (types_name a0) fun v1 =>
  if v1 = true then
    bind (getb a0 0) fun v3 =>
    some (decide (v3 = 39))
  else
  some false

mutual
def types_measure' (a0 : Ty) : Option (Int × Int × Bool) :=
  if a0.v = true then
    bind (types_variable a0.name) fun v2 =>
    if v2 = true then
      if ((Ty.Ds a0.args).length : Int) = 0 then
        types_measure_j0' (true, a0)
      else
      types_measure_j0' (false, a0)
    else
    types_measure_j0' (false, a0)
  else
  bind (types_name a0.name) fun v2 =>
  if v2 = true then
    bind (getb a0.name 0) fun v4 =>
    if ¬ v4 = 39 then
      if ((Ty.Ds a0.args).length : Int) ≤ 8 then
        types_measure_j0' (true, a0)
      else
      types_measure_j0' (false, a0)
    else
    types_measure_j0' (false, a0)
  else
  types_measure_j0' (false, a0)
  partial_fixpoint
def types_measure_j0' (p : (Bool × Ty)) : Option (Int × Int × Bool) := match p with
  | (t4_1, a0) =>
    types_measure_l0' (a0.args, 1, 0, t4_1)
  partial_fixpoint
def types_measure_l0' (p : ((List Ty) × Int × Int × Bool)) : Option (Int × Int × Bool) := match p with
  | (rest0, t2_0, t3_0, t4_0) =>
    match rest0 with
    | [] =>
      bind (some (IntKind.wrap .i64 (t3_0 + 1))) fun v41 =>
      some (t2_0, v41, t4_0)
    | v40 :: rest0 =>
      bind (types_measure' v40) fun v41 =>
      bind (some (IntKind.wrap .i64 (t2_0 + v41.1))) fun v42 =>
      if t4_0 = true then
        types_measure_l0' (rest0, v42, (max t3_0 v41.2.1), v41.2.2)
      else
      types_measure_l0' (rest0, v42, (max t3_0 v41.2.1), false)
  partial_fixpoint
end
def types_measure (a0 : Ty) : Option (Int × Int × Bool) := types_measure' a0
def types_measure_j0 (t4_1 : Bool) (a0 : Ty) : Option (Int × Int × Bool) := types_measure_j0' (t4_1, a0)
def types_measure_l0 (rest0 : (List Ty)) (t2_0 : Int) (t3_0 : Int) (t4_0 : Bool) : Option (Int × Int × Bool) := types_measure_l0' (rest0, t2_0, t3_0, t4_0)
theorem types_measure_eq (a0 : Ty) : types_measure a0 =
    if a0.v = true then
      bind (types_variable a0.name) fun v2 =>
      if v2 = true then
        if ((Ty.Ds a0.args).length : Int) = 0 then
          types_measure_j0 true a0
        else
        types_measure_j0 false a0
      else
      types_measure_j0 false a0
    else
    bind (types_name a0.name) fun v2 =>
    if v2 = true then
      bind (getb a0.name 0) fun v4 =>
      if ¬ v4 = 39 then
        if ((Ty.Ds a0.args).length : Int) ≤ 8 then
          types_measure_j0 true a0
        else
        types_measure_j0 false a0
      else
      types_measure_j0 false a0
    else
    types_measure_j0 false a0 := types_measure'.eq_def a0
theorem types_measure_j0_eq (t4_1 : Bool) (a0 : Ty) : types_measure_j0 t4_1 a0 =
    types_measure_l0 a0.args 1 0 t4_1 := types_measure_j0'.eq_def (t4_1, a0)
theorem types_measure_l0_eq (rest0 : (List Ty)) (t2_0 : Int) (t3_0 : Int) (t4_0 : Bool) : types_measure_l0 rest0 t2_0 t3_0 t4_0 =
    match rest0 with
    | [] =>
      bind (some (IntKind.wrap .i64 (t3_0 + 1))) fun v41 =>
      some (t2_0, v41, t4_0)
    | v40 :: rest0 =>
      bind (types_measure v40) fun v41 =>
      bind (some (IntKind.wrap .i64 (t2_0 + v41.1))) fun v42 =>
      if t4_0 = true then
        types_measure_l0 rest0 v42 (max t3_0 v41.2.1) v41.2.2
      else
      types_measure_l0 rest0 v42 (max t3_0 v41.2.1) false := types_measure_l0'.eq_def (rest0, t2_0, t3_0, t4_0)

def types_Check (a0 : Ty) : Option Int :=
  bind (types_measure a0) fun v1 =>
  if v1.2.2 = true then
    if 500 < v1.1 then
      some 10
    else
    if 200 < v1.2.1 then
      some 10
    else
    some 0
  else
  some 10

def hash_below_1 (a0 : Int) (a1 : Int) : Option Bool :=
  if a0 < 0 then
    some true
  else
  some (decide (a1 ≤ a0))

def slices_IndexFunc_int_int__hash_below_1_l0' (p : ((List Int) × Nat × Int)) : Option Int := match p with
  | (rest0, k0, a1) =>
    match rest0 with
    | [] =>
      some (-1)
    | v9 :: rest0 =>
      bind (hash_below_1 v9 a1) fun v10 =>
      if v10 = true then
        some (k0 : Int)
      else
      slices_IndexFunc_int_int__hash_below_1_l0' (rest0, k0 + 1, a1)
  partial_fixpoint
def slices_IndexFunc_int_int__hash_below_1_l0 (rest0 : (List Int)) (k0 : Nat) (a1 : Int) : Option Int := slices_IndexFunc_int_int__hash_below_1_l0' (rest0, k0, a1)
theorem slices_IndexFunc_int_int__hash_below_1_l0_eq (rest0 : (List Int)) (k0 : Nat) (a1 : Int) : slices_IndexFunc_int_int__hash_below_1_l0 rest0 k0 a1 =
    match rest0 with
    | [] =>
      some (-1)
    | v9 :: rest0 =>
      bind (hash_below_1 v9 a1) fun v10 =>
      if v10 = true then
        some (k0 : Int)
      else
      slices_IndexFunc_int_int__hash_below_1_l0 rest0 (k0 + 1) a1 := slices_IndexFunc_int_int__hash_below_1_l0'.eq_def (rest0, k0, a1)

def slices_IndexFunc_int_int__hash_below_1 (a0 : (List Int)) (a1 : Int) : Option Int :=
  slices_IndexFunc_int_int__hash_below_1_l0 a0 0 a1

def slices_ContainsFunc_int_int__hash_below_1 (a0 : (List Int)) (a1 : Int) : Option Bool :=
  bind (slices_IndexFunc_int_int__hash_below_1 a0 a1) fun v1 =>
  some (decide (0 ≤ v1))

def hash_below (a0 : (List Int)) (a1 : Int) : Option Bool :=
  bind (slices_ContainsFunc_int_int__hash_below_1 a0 a1) fun v1 =>
  some (!v1)

def hash_measure_l0' (p : ((List Int) × Int × Int × (List Int) × (List Int))) : Option (Int × Int) := match p with
  | (rest0, t6_0, t7_0, a0, a1) =>
    match rest0 with
    | [] =>
      bind (some (IntKind.wrap .i64 (t6_0 + 1))) fun v14 =>
      bind (some (IntKind.wrap .i64 (t7_0 + 1))) fun v15 =>
      some ((min v14 32001), (min v15 301))
    | v13 :: rest0 =>
      bind (geti a0 v13) fun v14 =>
      bind (some (IntKind.wrap .i64 (t6_0 + v14))) fun v15 =>
      bind (geti a1 v13) fun v16 =>
      hash_measure_l0' (rest0, v15, (max t7_0 v16), a0, a1)
  partial_fixpoint
def hash_measure_l0 (rest0 : (List Int)) (t6_0 : Int) (t7_0 : Int) (a0 : (List Int)) (a1 : (List Int)) : Option (Int × Int) := hash_measure_l0' (rest0, t6_0, t7_0, a0, a1)
theorem hash_measure_l0_eq (rest0 : (List Int)) (t6_0 : Int) (t7_0 : Int) (a0 : (List Int)) (a1 : (List Int)) : hash_measure_l0 rest0 t6_0 t7_0 a0 a1 =
    match rest0 with
    | [] =>
      bind (some (IntKind.wrap .i64 (t6_0 + 1))) fun v14 =>
      bind (some (IntKind.wrap .i64 (t7_0 + 1))) fun v15 =>
      some ((min v14 32001), (min v15 301))
    | v13 :: rest0 =>
      bind (geti a0 v13) fun v14 =>
      bind (some (IntKind.wrap .i64 (t6_0 + v14))) fun v15 =>
      bind (geti a1 v13) fun v16 =>
      hash_measure_l0 rest0 v15 (max t7_0 v16) a0 a1 := hash_measure_l0'.eq_def (rest0, t6_0, t7_0, a0, a1)

def hash_measure (a0 : (List Int)) (a1 : (List Int)) (a2 : (List Int)) : Option (Int × Int) :=
  hash_measure_l0 a2 0 0 a0 a1

def hash_keyType (a0 : ATypeNode) : Option HashTypeKey :=
  some (HashTypeKey.mk a0.var a0.name ((intDs_i64 a0.args).length : Int) (Arr8_i64.mk (a0.args.getD 0 0) (a0.args.getD 1 0) (a0.args.getD 2 0) (a0.args.getD 3 0) (a0.args.getD 4 0) (a0.args.getD 5 0) (a0.args.getD 6 0) (a0.args.getD 7 0)))

mutual
def hash_table_addTypes_io_l0' (p : ((List ATypeNode) × Nat × (List Int) × (List Int) × (List (HashTypeKey × Int)) × (List ATypeNode) × (List ATermNode) × (List (HashTermKey × Int)))) : Option (Bool × (List ATypeNode) × (List ATermNode) × (List (HashTypeKey × Int)) × (List (HashTermKey × Int))) := match p with
  | (rest0, k0, t5_0, t6_0, m3_0, b0_0, b0_1, b4) =>
    match rest0 with
    | [] =>
      some (true, b0_0, b0_1, m3_0, b4)
    | v24 :: rest0 =>
      if 8 < ((intDs_i64 v24.args).length : Int) then
        some (false, b0_0, b0_1, m3_0, b4)
      else
      if v24.var = true then
        if 0 < ((intDs_i64 v24.args).length : Int) then
          some (false, b0_0, b0_1, m3_0, b4)
        else
        bind (types_Check (Ty.mk v24.var v24.name ([] : List Ty))) fun v28 =>
        if ¬ v28 = 0 then
          some (false, b0_0, b0_1, m3_0, b4)
        else
        bind (hash_below v24.args (k0 : Int)) fun v30 =>
        if v30 = true then
          hash_table_addTypes_io_j0' (b0_0, b0_1, b4, k0, m3_0, rest0, t5_0, t6_0, v24)
        else
        some (false, b0_0, b0_1, m3_0, b4)
      else
      bind (types_Check (Ty.mk v24.var v24.name ([] : List Ty))) fun v27 =>
      if ¬ v27 = 0 then
        some (false, b0_0, b0_1, m3_0, b4)
      else
      bind (hash_below v24.args (k0 : Int)) fun v29 =>
      if v29 = true then
        hash_table_addTypes_io_j0' (b0_0, b0_1, b4, k0, m3_0, rest0, t5_0, t6_0, v24)
      else
      some (false, b0_0, b0_1, m3_0, b4)
  partial_fixpoint
def hash_table_addTypes_io_j0' (p : ((List ATypeNode) × (List ATermNode) × (List (HashTermKey × Int)) × Nat × (List (HashTypeKey × Int)) × (List ATypeNode) × (List Int) × (List Int) × ATypeNode)) : Option (Bool × (List ATypeNode) × (List ATermNode) × (List (HashTypeKey × Int)) × (List (HashTermKey × Int))) := match p with
  | (b0_0, b0_1, b4, k0, m3_0, rest0, t5_0, t6_0, v24) =>
    bind (hash_measure t5_0 t6_0 v24.args) fun v32 =>
    if 500 < v32.1 then
      some (false, b0_0, b0_1, m3_0, b4)
    else
    if 200 < v32.2 then
      some (false, b0_0, b0_1, m3_0, b4)
    else
    bind (app t5_0 ([v32.1])) fun v35 =>
    bind (app t6_0 ([v32.2])) fun v36 =>
    bind (hash_keyType v24) fun v37 =>
    match mget m3_0 v37 with
    | some v38 =>
      some (false, b0_0, b0_1, m3_0, b4)
    | none =>
      bind (hash_keyType v24) fun v39 =>
      bind (some (mput m3_0 v39 (k0 : Int))) fun v40 =>
      hash_table_addTypes_io_l0' (rest0, k0 + 1, v35, v36, v40, b0_0, b0_1, b4)
  partial_fixpoint
end
def hash_table_addTypes_io_l0 (rest0 : (List ATypeNode)) (k0 : Nat) (t5_0 : (List Int)) (t6_0 : (List Int)) (m3_0 : (List (HashTypeKey × Int))) (b0_0 : (List ATypeNode)) (b0_1 : (List ATermNode)) (b4 : (List (HashTermKey × Int))) : Option (Bool × (List ATypeNode) × (List ATermNode) × (List (HashTypeKey × Int)) × (List (HashTermKey × Int))) := hash_table_addTypes_io_l0' (rest0, k0, t5_0, t6_0, m3_0, b0_0, b0_1, b4)
def hash_table_addTypes_io_j0 (b0_0 : (List ATypeNode)) (b0_1 : (List ATermNode)) (b4 : (List (HashTermKey × Int))) (k0 : Nat) (m3_0 : (List (HashTypeKey × Int))) (rest0 : (List ATypeNode)) (t5_0 : (List Int)) (t6_0 : (List Int)) (v24 : ATypeNode) : Option (Bool × (List ATypeNode) × (List ATermNode) × (List (HashTypeKey × Int)) × (List (HashTermKey × Int))) := hash_table_addTypes_io_j0' (b0_0, b0_1, b4, k0, m3_0, rest0, t5_0, t6_0, v24)
theorem hash_table_addTypes_io_l0_eq (rest0 : (List ATypeNode)) (k0 : Nat) (t5_0 : (List Int)) (t6_0 : (List Int)) (m3_0 : (List (HashTypeKey × Int))) (b0_0 : (List ATypeNode)) (b0_1 : (List ATermNode)) (b4 : (List (HashTermKey × Int))) : hash_table_addTypes_io_l0 rest0 k0 t5_0 t6_0 m3_0 b0_0 b0_1 b4 =
    match rest0 with
    | [] =>
      some (true, b0_0, b0_1, m3_0, b4)
    | v24 :: rest0 =>
      if 8 < ((intDs_i64 v24.args).length : Int) then
        some (false, b0_0, b0_1, m3_0, b4)
      else
      if v24.var = true then
        if 0 < ((intDs_i64 v24.args).length : Int) then
          some (false, b0_0, b0_1, m3_0, b4)
        else
        bind (types_Check (Ty.mk v24.var v24.name ([] : List Ty))) fun v28 =>
        if ¬ v28 = 0 then
          some (false, b0_0, b0_1, m3_0, b4)
        else
        bind (hash_below v24.args (k0 : Int)) fun v30 =>
        if v30 = true then
          hash_table_addTypes_io_j0 b0_0 b0_1 b4 k0 m3_0 rest0 t5_0 t6_0 v24
        else
        some (false, b0_0, b0_1, m3_0, b4)
      else
      bind (types_Check (Ty.mk v24.var v24.name ([] : List Ty))) fun v27 =>
      if ¬ v27 = 0 then
        some (false, b0_0, b0_1, m3_0, b4)
      else
      bind (hash_below v24.args (k0 : Int)) fun v29 =>
      if v29 = true then
        hash_table_addTypes_io_j0 b0_0 b0_1 b4 k0 m3_0 rest0 t5_0 t6_0 v24
      else
      some (false, b0_0, b0_1, m3_0, b4) := hash_table_addTypes_io_l0'.eq_def (rest0, k0, t5_0, t6_0, m3_0, b0_0, b0_1, b4)
theorem hash_table_addTypes_io_j0_eq (b0_0 : (List ATypeNode)) (b0_1 : (List ATermNode)) (b4 : (List (HashTermKey × Int))) (k0 : Nat) (m3_0 : (List (HashTypeKey × Int))) (rest0 : (List ATypeNode)) (t5_0 : (List Int)) (t6_0 : (List Int)) (v24 : ATypeNode) : hash_table_addTypes_io_j0 b0_0 b0_1 b4 k0 m3_0 rest0 t5_0 t6_0 v24 =
    bind (hash_measure t5_0 t6_0 v24.args) fun v32 =>
    if 500 < v32.1 then
      some (false, b0_0, b0_1, m3_0, b4)
    else
    if 200 < v32.2 then
      some (false, b0_0, b0_1, m3_0, b4)
    else
    bind (app t5_0 ([v32.1])) fun v35 =>
    bind (app t6_0 ([v32.2])) fun v36 =>
    bind (hash_keyType v24) fun v37 =>
    match mget m3_0 v37 with
    | some v38 =>
      some (false, b0_0, b0_1, m3_0, b4)
    | none =>
      bind (hash_keyType v24) fun v39 =>
      bind (some (mput m3_0 v39 (k0 : Int))) fun v40 =>
      hash_table_addTypes_io_l0 rest0 (k0 + 1) v35 v36 v40 b0_0 b0_1 b4 := hash_table_addTypes_io_j0'.eq_def (b0_0, b0_1, b4, k0, m3_0, rest0, t5_0, t6_0, v24)

def hash_table_addTypes_io (a1 : (List ATypeNode)) (b0_0 : (List ATypeNode)) (b0_1 : (List ATermNode)) (b3 : (List (HashTypeKey × Int))) (b4 : (List (HashTermKey × Int))) : Option (Bool × (List ATypeNode) × (List ATermNode) × (List (HashTypeKey × Int)) × (List (HashTermKey × Int))) :=
  hash_table_addTypes_io_l0 a1 0 ([] : List Int) ([] : List Int) b3 b0_0 b0_1 b4

def types_Bool : Option Ty :=
  some (Ty.mk false (ByteArray.mk #[98, 111, 111, 108]) ([] : List Ty))

def terms_named (a0 : ByteArray) : Option Bool :=
  bind (types_Check (Ty.mk false a0 ([] : List Ty))) fun v1 =>
  some (decide (v1 = 0))

def terms_leaf (a0 : Int) (a1 : ByteArray) (a2 : Ty) : Option (Tm × Int) :=
  bind (types_Check a2) fun v1 =>
  if ¬ v1 = 0 then
    some ((Tm.mk 0 ByteArray.empty (Ty.mk false ByteArray.empty ([] : List Ty)) 0 ([] : List Tm)), v1)
  else
  bind (terms_named a1) fun v3 =>
  if v3 = true then
    bind (types_Twin a2) fun v5 =>
    some ((Tm.mk a0 a1 v5 0 ([] : List Tm)), 0)
  else
  some ((Tm.mk 0 ByteArray.empty (Ty.mk false ByteArray.empty ([] : List Ty)) 0 ([] : List Tm)), 20)

def terms_Var (a0 : ByteArray) (a1 : Ty) : Option (Tm × Int) :=
  bind (terms_leaf 1 a0 a1) fun v1 =>
  some (v1.1, v1.2)

def hash_fine_j2 (a0 : ATermNode) (a2 : Int) (v21 : (Tm × Int)) : Option Bool :=
  if a0.index = 0 then
    if 0 ≤ a0.type_ then
      if a0.type_ < a2 then
        some (decide (v21.2 = 0))
      else
      some false
    else
    some false
  else
  some false

def hash_fine_j1 (t9_1 : Int) (t10_1 : Bool) (a0 : ATermNode) (a1 : Int) (a2 : Int) (t7_0 : Bool) : Option Bool :=
  if t10_1 = true then
    if ¬ ((intDs_i64 a0.sub).length : Int) = t9_1 then
      some false
    else
    bind (hash_below a0.sub a1) fun v16 =>
    if v16 = true then
      if a0.kind = 3 then
        if a0.type_ = (-1) then
          if a0.name = ByteArray.empty then
            if 0 ≤ a0.index then
              some (decide (a0.index < 300))
            else
            some false
          else
          some false
        else
        some false
      else
      if t7_0 = true then
        bind (types_Bool) fun v20 =>
        bind (terms_Var a0.name v20) fun v21 =>
        hash_fine_j2 a0 a2 v21
      else
      if a0.type_ = (-1) then
        if a0.name = ByteArray.empty then
          some (decide (a0.index = 0))
        else
        some false
      else
      some false
    else
    some false
  else
  some false

def hash_fine_j0 (t7_0 : Bool) (a0 : ATermNode) (a1 : Int) (a2 : Int) : Option Bool :=
  bind (some (mput ([] : List (Int × Int)) 1 0)) fun v8 =>
  bind (some (mput v8 2 0)) fun v9 =>
  bind (some (mput v9 3 0)) fun v10 =>
  bind (some (mput v10 4 2)) fun v11 =>
  bind (some (mput v11 5 1)) fun v12 =>
  match mget v12 a0.kind with
  | some v13 =>
    hash_fine_j1 v13 true a0 a1 a2 t7_0
  | none =>
    hash_fine_j1 0 false a0 a1 a2 t7_0

def hash_fine (a0 : ATermNode) (a1 : Int) (a2 : Int) : Option Bool :=
  if ¬ a0.kind = 3 then
    if ¬ a0.kind = 4 then
      hash_fine_j0 true a0 a1 a2
    else
    hash_fine_j0 false a0 a1 a2
  else
  hash_fine_j0 false a0 a1 a2

def hash_keyTerm_j1 (c2_5_1 : Int) (a0 : ATermNode) (c2_1_0 : ByteArray) : Option HashTermKey :=
  if 1 < ((intDs_i64 a0.sub).length : Int) then
    bind (geti a0.sub 1) fun v7 =>
    some (HashTermKey.mk a0.kind c2_1_0 a0.type_ a0.index ((intDs_i64 a0.sub).length : Int) c2_5_1 v7)
  else
  some (HashTermKey.mk a0.kind c2_1_0 a0.type_ a0.index ((intDs_i64 a0.sub).length : Int) c2_5_1 0)

def hash_keyTerm_j0 (c2_1_0 : ByteArray) (a0 : ATermNode) : Option HashTermKey :=
  if 0 < ((intDs_i64 a0.sub).length : Int) then
    bind (geti a0.sub 0) fun v4 =>
    hash_keyTerm_j1 v4 a0 c2_1_0
  else
  hash_keyTerm_j1 0 a0 c2_1_0

def hash_keyTerm (a0 : ATermNode) : Option HashTermKey :=
  if a0.kind = 5 then
    hash_keyTerm_j0 ByteArray.empty a0
  else
  hash_keyTerm_j0 a0.name a0

def hash_open_io_l0' (p : ((List ATermNode) × Nat × (List (HashTermKey × Int)) × AStore × (Bool × (List ATypeNode) × (List ATermNode) × (List (HashTypeKey × Int)) × (List (HashTermKey × Int))))) : Option (Unit ⊕ (Unit ⊕ ((List ATypeNode) × (List ATermNode) × (List (HashTypeKey × Int)) × (List (HashTermKey × Int))))) := match p with
  | (rest0, k0, m4_0, a0, v4) =>
    match rest0 with
    | [] =>
      some (.inr (.inr ((v4.2.1, v4.2.2.1, v4.2.2.2.1, m4_0))))
    | v34 :: rest0 =>
      bind (hash_fine v34 (k0 : Int) ((ATypeNode.Ds a0.types).length : Int)) fun v35 =>
      if v35 = true then
        bind (hash_keyTerm v34) fun v37 =>
        match mget m4_0 v37 with
        | some v38 =>
          some (.inr (.inl (())))
        | none =>
          bind (hash_keyTerm v34) fun v39 =>
          bind (some (mput m4_0 v39 (k0 : Int))) fun v40 =>
          hash_open_io_l0' (rest0, k0 + 1, v40, a0, v4)
      else
      some (.inr (.inl (())))
  partial_fixpoint
def hash_open_io_l0 (rest0 : (List ATermNode)) (k0 : Nat) (m4_0 : (List (HashTermKey × Int))) (a0 : AStore) (v4 : (Bool × (List ATypeNode) × (List ATermNode) × (List (HashTypeKey × Int)) × (List (HashTermKey × Int)))) : Option (Unit ⊕ (Unit ⊕ ((List ATypeNode) × (List ATermNode) × (List (HashTypeKey × Int)) × (List (HashTermKey × Int))))) := hash_open_io_l0' (rest0, k0, m4_0, a0, v4)
theorem hash_open_io_l0_eq (rest0 : (List ATermNode)) (k0 : Nat) (m4_0 : (List (HashTermKey × Int))) (a0 : AStore) (v4 : (Bool × (List ATypeNode) × (List ATermNode) × (List (HashTypeKey × Int)) × (List (HashTermKey × Int)))) : hash_open_io_l0 rest0 k0 m4_0 a0 v4 =
    match rest0 with
    | [] =>
      some (.inr (.inr ((v4.2.1, v4.2.2.1, v4.2.2.2.1, m4_0))))
    | v34 :: rest0 =>
      bind (hash_fine v34 (k0 : Int) ((ATypeNode.Ds a0.types).length : Int)) fun v35 =>
      if v35 = true then
        bind (hash_keyTerm v34) fun v37 =>
        match mget m4_0 v37 with
        | some v38 =>
          some (.inr (.inl (())))
        | none =>
          bind (hash_keyTerm v34) fun v39 =>
          bind (some (mput m4_0 v39 (k0 : Int))) fun v40 =>
          hash_open_io_l0 rest0 (k0 + 1) v40 a0 v4
      else
      some (.inr (.inl (()))) := hash_open_io_l0'.eq_def (rest0, k0, m4_0, a0, v4)

def hash_open_io (a0 : AStore) : Option (Unit ⊕ (Unit ⊕ ((List ATypeNode) × (List ATermNode) × (List (HashTypeKey × Int)) × (List (HashTermKey × Int))))) :=
  if 4096 < ((ATypeNode.Ds a0.types).length : Int) then
    some (.inl (()))
  else
  if 4096 < ((ATermNode.Ds a0.terms).length : Int) then
    some (.inl (()))
  else
  bind (hash_Twin_io a0) fun v3 =>
  bind (hash_table_addTypes_io a0.types v3.1 v3.2 ([] : List (HashTypeKey × Int)) ([] : List (HashTermKey × Int))) fun v4 =>
  if v4.1 = true then
    hash_open_io_l0 a0.terms 0 v4.2.2.2.2 a0 v4
  else
  some (.inr (.inl (())))

mutual
def terms_extent' (a0 : Tm) : Option (Int × Int) :=
  terms_extent_l0' (a0.sub, 1, 0)
  partial_fixpoint
def terms_extent_l0' (p : ((List Tm) × Int × Int)) : Option (Int × Int) := match p with
  | (rest0, t2_0, t3_0) =>
    match rest0 with
    | [] =>
      bind (some (IntKind.wrap .i64 (t3_0 + 1))) fun v13 =>
      some (t2_0, v13)
    | v12 :: rest0 =>
      bind (terms_extent' v12) fun v13 =>
      bind (some (IntKind.wrap .i64 (t2_0 + v13.1))) fun v14 =>
      terms_extent_l0' (rest0, v14, (max t3_0 v13.2))
  partial_fixpoint
end
def terms_extent (a0 : Tm) : Option (Int × Int) := terms_extent' a0
def terms_extent_l0 (rest0 : (List Tm)) (t2_0 : Int) (t3_0 : Int) : Option (Int × Int) := terms_extent_l0' (rest0, t2_0, t3_0)
theorem terms_extent_eq (a0 : Tm) : terms_extent a0 =
    terms_extent_l0 a0.sub 1 0 := terms_extent'.eq_def a0
theorem terms_extent_l0_eq (rest0 : (List Tm)) (t2_0 : Int) (t3_0 : Int) : terms_extent_l0 rest0 t2_0 t3_0 =
    match rest0 with
    | [] =>
      bind (some (IntKind.wrap .i64 (t3_0 + 1))) fun v13 =>
      some (t2_0, v13)
    | v12 :: rest0 =>
      bind (terms_extent v12) fun v13 =>
      bind (some (IntKind.wrap .i64 (t2_0 + v13.1))) fun v14 =>
      terms_extent_l0 rest0 v14 (max t3_0 v13.2) := terms_extent_l0'.eq_def (rest0, t2_0, t3_0)

def terms_great (a0 : Tm) : Option Bool :=
  bind (terms_extent a0) fun v1 =>
  if 32000 < v1.1 then
    some true
  else
  some (decide (300 < v1.2))

def terms_plain (a0 : Tm) (a1 : Bool) (a2 : Bool) (a3 : Bool) : Option Bool :=
  if a1 = true then
    if a2 = true then
      if a3 = true then
        some true
      else
      some (decide (a0.index = 0))
    else
    if a0.ty.v = true then
      some false
    else
    if a0.ty.name = ByteArray.empty then
      if ((Ty.Ds a0.ty.args).length : Int) = 0 then
        if a3 = true then
          some true
        else
        some (decide (a0.index = 0))
      else
      some false
    else
    some false
  else
  if a0.name = ByteArray.empty then
    if a2 = true then
      if a3 = true then
        some true
      else
      some (decide (a0.index = 0))
    else
    if a0.ty.v = true then
      some false
    else
    if a0.ty.name = ByteArray.empty then
      if ((Ty.Ds a0.ty.args).length : Int) = 0 then
        if a3 = true then
          some true
        else
        some (decide (a0.index = 0))
      else
      some false
    else
    some false
  else
  some false

def types_rank (a0 : Ty) : Option Int :=
  if a0.v = true then
    some 0
  else
  some 1

def cmp_isNaN_int (a0 : Int) : Option Bool :=
  some (decide (¬ a0 = a0))

def cmp_Compare_int (a0 : Int) (a1 : Int) : Option Int :=
  bind (cmp_isNaN_int a0) fun v1 =>
  bind (cmp_isNaN_int a1) fun v2 =>
  if v1 = true then
    if v2 = true then
      some 0
    else
    some (-1)
  else
  if v2 = true then
    some 1
  else
  if a0 < a1 then
    some (-1)
  else
  if a1 < a0 then
    some 1
  else
  some 0

def bytealg_CompareString (a0 : ByteArray) (a1 : ByteArray) : Option Int :=
  bind (cmpstr a0 a1) fun v1 =>
  some v1

def strings_Compare (a0 : ByteArray) (a1 : ByteArray) : Option Int :=
  bind (bytealg_CompareString a0 a1) fun v1 =>
  some v1

def cmp_Or_int_l0' (rest0 : (List Int)) : Option Int :=
  match rest0 with
  | [] =>
    some 0
  | v9 :: rest0 =>
    if ¬ v9 = 0 then
      some v9
    else
    cmp_Or_int_l0' rest0
  partial_fixpoint
def cmp_Or_int_l0 (rest0 : (List Int)) : Option Int := cmp_Or_int_l0' rest0
theorem cmp_Or_int_l0_eq (rest0 : (List Int)) : cmp_Or_int_l0 rest0 =
    match rest0 with
    | [] =>
      some 0
    | v9 :: rest0 =>
      if ¬ v9 = 0 then
        some v9
      else
      cmp_Or_int_l0 rest0 := cmp_Or_int_l0'.eq_def rest0

def cmp_Or_int (a0 : (List Int)) : Option Int :=
  cmp_Or_int_l0 a0

mutual
def slices_CompareFunc_Type_Type_Type_Type__types_Compare' (p : ((List Ty) × (List Ty))) : Option Int := match p with
  | (a0, a1) =>
    slices_CompareFunc_Type_Type_Type_Type__types_Compare_l0' (a0, 0, a0, a1)
  partial_fixpoint
def slices_CompareFunc_Type_Type_Type_Type__types_Compare_l0' (p : ((List Ty) × Nat × (List Ty) × (List Ty))) : Option Int := match p with
  | (rest0, k0, a0, a1) =>
    match rest0 with
    | [] =>
      if ((Ty.Ds a0).length : Int) < ((Ty.Ds a1).length : Int) then
        some (-1)
      else
      some 0
    | v14 :: rest0 =>
      if ((Ty.Ds a1).length : Int) ≤ (k0 : Int) then
        some 1
      else
      bind (geti a1 (k0 : Int)) fun v16 =>
      bind (types_Compare' (v14, v16)) fun v17 =>
      if ¬ v17 = 0 then
        some v17
      else
      slices_CompareFunc_Type_Type_Type_Type__types_Compare_l0' (rest0, k0 + 1, a0, a1)
  partial_fixpoint
def types_Compare' (p : (Ty × Ty)) : Option Int := match p with
  | (a0, a1) =>
    bind (types_rank a0) fun v1 =>
    bind (types_rank a1) fun v2 =>
    bind (cmp_Compare_int v1 v2) fun v3 =>
    bind (strings_Compare a0.name a1.name) fun v4 =>
    bind (cmp_Compare_int ((Ty.Ds a0.args).length : Int) ((Ty.Ds a1.args).length : Int)) fun v5 =>
    bind (cmp_Or_int ([v3, v4, v5])) fun v6 =>
    if ¬ v6 = 0 then
      some v6
    else
    bind (slices_CompareFunc_Type_Type_Type_Type__types_Compare' (a0.args, a1.args)) fun v8 =>
    some v8
  partial_fixpoint
end
def slices_CompareFunc_Type_Type_Type_Type__types_Compare (a0 : (List Ty)) (a1 : (List Ty)) : Option Int := slices_CompareFunc_Type_Type_Type_Type__types_Compare' (a0, a1)
def slices_CompareFunc_Type_Type_Type_Type__types_Compare_l0 (rest0 : (List Ty)) (k0 : Nat) (a0 : (List Ty)) (a1 : (List Ty)) : Option Int := slices_CompareFunc_Type_Type_Type_Type__types_Compare_l0' (rest0, k0, a0, a1)
def types_Compare (a0 : Ty) (a1 : Ty) : Option Int := types_Compare' (a0, a1)
theorem slices_CompareFunc_Type_Type_Type_Type__types_Compare_eq (a0 : (List Ty)) (a1 : (List Ty)) : slices_CompareFunc_Type_Type_Type_Type__types_Compare a0 a1 =
    slices_CompareFunc_Type_Type_Type_Type__types_Compare_l0 a0 0 a0 a1 := slices_CompareFunc_Type_Type_Type_Type__types_Compare'.eq_def (a0, a1)
theorem slices_CompareFunc_Type_Type_Type_Type__types_Compare_l0_eq (rest0 : (List Ty)) (k0 : Nat) (a0 : (List Ty)) (a1 : (List Ty)) : slices_CompareFunc_Type_Type_Type_Type__types_Compare_l0 rest0 k0 a0 a1 =
    match rest0 with
    | [] =>
      if ((Ty.Ds a0).length : Int) < ((Ty.Ds a1).length : Int) then
        some (-1)
      else
      some 0
    | v14 :: rest0 =>
      if ((Ty.Ds a1).length : Int) ≤ (k0 : Int) then
        some 1
      else
      bind (geti a1 (k0 : Int)) fun v16 =>
      bind (types_Compare v14 v16) fun v17 =>
      if ¬ v17 = 0 then
        some v17
      else
      slices_CompareFunc_Type_Type_Type_Type__types_Compare_l0 rest0 (k0 + 1) a0 a1 := slices_CompareFunc_Type_Type_Type_Type__types_Compare_l0'.eq_def (rest0, k0, a0, a1)
theorem types_Compare_eq (a0 : Ty) (a1 : Ty) : types_Compare a0 a1 =
    bind (types_rank a0) fun v1 =>
    bind (types_rank a1) fun v2 =>
    bind (cmp_Compare_int v1 v2) fun v3 =>
    bind (strings_Compare a0.name a1.name) fun v4 =>
    bind (cmp_Compare_int ((Ty.Ds a0.args).length : Int) ((Ty.Ds a1.args).length : Int)) fun v5 =>
    bind (cmp_Or_int ([v3, v4, v5])) fun v6 =>
    if ¬ v6 = 0 then
      some v6
    else
    bind (slices_CompareFunc_Type_Type_Type_Type__types_Compare a0.args a1.args) fun v8 =>
    some v8 := types_Compare'.eq_def (a0, a1)

def types_Same (a0 : Ty) (a1 : Ty) : Option Bool :=
  bind (types_Compare a0 a1) fun v1 =>
  some (decide (v1 = 0))

def terms_formed_j0 (a0 : Tm) (v16 : (Ty × Bool)) : Option (Ty × Bool) :=
  if v16.2 = true then
    bind (types_Check (Ty.mk false (ByteArray.mk #[102, 117, 110]) ([a0.ty, v16.1]))) fun v18 =>
    some ((Ty.mk false (ByteArray.mk #[102, 117, 110]) ([a0.ty, v16.1])), (decide (v18 = 0)))
  else
  some ((Ty.mk false ByteArray.empty ([] : List Ty)), false)

def terms_formed' (p : (Tm × (List Ty))) : Option (Ty × Bool) := match p with
  | (a0, a1) =>
    if a0.kind = 1 then
      bind (terms_plain a0 true true false) fun v2 =>
      if v2 = true then
        bind (terms_named a0.name) fun v4 =>
        if v4 = true then
          if ((Tm.Ds a0.sub).length : Int) = 0 then
            bind (types_Check a0.ty) fun v7 =>
            some (a0.ty, (decide (v7 = 0)))
          else
          some (a0.ty, false)
        else
        some (a0.ty, false)
      else
      some (a0.ty, false)
    else
    if a0.kind = 2 then
      bind (terms_plain a0 true true false) fun v3 =>
      if v3 = true then
        bind (terms_named a0.name) fun v5 =>
        if v5 = true then
          if ((Tm.Ds a0.sub).length : Int) = 0 then
            bind (types_Check a0.ty) fun v8 =>
            some (a0.ty, (decide (v8 = 0)))
          else
          some (a0.ty, false)
        else
        some (a0.ty, false)
      else
      some (a0.ty, false)
    else
    if a0.kind = 3 then
      bind (terms_plain a0 false false true) fun v4 =>
      if v4 = true then
        if 0 < ((Tm.Ds a0.sub).length : Int) then
          some ((Ty.mk false ByteArray.empty ([] : List Ty)), false)
        else
        if a0.index < 0 then
          some ((Ty.mk false ByteArray.empty ([] : List Ty)), false)
        else
        if ((Ty.Ds a1).length : Int) ≤ a0.index then
          some ((Ty.mk false ByteArray.empty ([] : List Ty)), false)
        else
        bind (some (IntKind.wrap .i64 (((Ty.Ds a1).length : Int) - 1))) fun v9 =>
        bind (some (IntKind.wrap .i64 (v9 - a0.index))) fun v10 =>
        bind (geti a1 v10) fun v11 =>
        some (v11, true)
      else
      some ((Ty.mk false ByteArray.empty ([] : List Ty)), false)
    else
    if a0.kind = 4 then
      bind (terms_plain a0 false false false) fun v5 =>
      if v5 = true then
        if ¬ ((Tm.Ds a0.sub).length : Int) = 2 then
          some ((Ty.mk false ByteArray.empty ([] : List Ty)), false)
        else
        bind (geti a0.sub 0) fun v8 =>
        bind (terms_formed' (v8, a1)) fun v9 =>
        bind (geti a0.sub 1) fun v10 =>
        bind (terms_formed' (v10, a1)) fun v11 =>
        if v9.2 = true then
          if v11.2 = true then
            if v9.1.v = true then
              some ((Ty.mk false ByteArray.empty ([] : List Ty)), false)
            else
            if ¬ v9.1.name = (ByteArray.mk #[102, 117, 110]) then
              some ((Ty.mk false ByteArray.empty ([] : List Ty)), false)
            else
            if ¬ ((Ty.Ds v9.1.args).length : Int) = 2 then
              some ((Ty.mk false ByteArray.empty ([] : List Ty)), false)
            else
            bind (geti v9.1.args 0) fun v17 =>
            bind (types_Same v17 v11.1) fun v18 =>
            if v18 = true then
              bind (geti v9.1.args 1) fun v20 =>
              some (v20, true)
            else
            some ((Ty.mk false ByteArray.empty ([] : List Ty)), false)
          else
          some ((Ty.mk false ByteArray.empty ([] : List Ty)), false)
        else
        some ((Ty.mk false ByteArray.empty ([] : List Ty)), false)
      else
      some ((Ty.mk false ByteArray.empty ([] : List Ty)), false)
    else
    if a0.kind = 5 then
      bind (terms_plain a0 true true false) fun v6 =>
      if v6 = true then
        if ¬ ((Tm.Ds a0.sub).length : Int) = 1 then
          some ((Ty.mk false ByteArray.empty ([] : List Ty)), false)
        else
        bind (terms_named a0.name) fun v9 =>
        if v9 = true then
          bind (types_Check a0.ty) fun v11 =>
          if ¬ v11 = 0 then
            some ((Ty.mk false ByteArray.empty ([] : List Ty)), false)
          else
          bind (geti a0.sub 0) fun v13 =>
          bind (cut a1 0 ((Ty.Ds a1).length : Int)) fun v14 =>
          bind (app v14 ([a0.ty])) fun v15 =>
          bind (terms_formed' (v13, v15)) fun v16 =>
          terms_formed_j0 a0 v16
        else
        some ((Ty.mk false ByteArray.empty ([] : List Ty)), false)
      else
      some ((Ty.mk false ByteArray.empty ([] : List Ty)), false)
    else
    some ((Ty.mk false ByteArray.empty ([] : List Ty)), false)
  partial_fixpoint
def terms_formed (a0 : Tm) (a1 : (List Ty)) : Option (Ty × Bool) := terms_formed' (a0, a1)
theorem terms_formed_eq (a0 : Tm) (a1 : (List Ty)) : terms_formed a0 a1 =
    if a0.kind = 1 then
      bind (terms_plain a0 true true false) fun v2 =>
      if v2 = true then
        bind (terms_named a0.name) fun v4 =>
        if v4 = true then
          if ((Tm.Ds a0.sub).length : Int) = 0 then
            bind (types_Check a0.ty) fun v7 =>
            some (a0.ty, (decide (v7 = 0)))
          else
          some (a0.ty, false)
        else
        some (a0.ty, false)
      else
      some (a0.ty, false)
    else
    if a0.kind = 2 then
      bind (terms_plain a0 true true false) fun v3 =>
      if v3 = true then
        bind (terms_named a0.name) fun v5 =>
        if v5 = true then
          if ((Tm.Ds a0.sub).length : Int) = 0 then
            bind (types_Check a0.ty) fun v8 =>
            some (a0.ty, (decide (v8 = 0)))
          else
          some (a0.ty, false)
        else
        some (a0.ty, false)
      else
      some (a0.ty, false)
    else
    if a0.kind = 3 then
      bind (terms_plain a0 false false true) fun v4 =>
      if v4 = true then
        if 0 < ((Tm.Ds a0.sub).length : Int) then
          some ((Ty.mk false ByteArray.empty ([] : List Ty)), false)
        else
        if a0.index < 0 then
          some ((Ty.mk false ByteArray.empty ([] : List Ty)), false)
        else
        if ((Ty.Ds a1).length : Int) ≤ a0.index then
          some ((Ty.mk false ByteArray.empty ([] : List Ty)), false)
        else
        bind (some (IntKind.wrap .i64 (((Ty.Ds a1).length : Int) - 1))) fun v9 =>
        bind (some (IntKind.wrap .i64 (v9 - a0.index))) fun v10 =>
        bind (geti a1 v10) fun v11 =>
        some (v11, true)
      else
      some ((Ty.mk false ByteArray.empty ([] : List Ty)), false)
    else
    if a0.kind = 4 then
      bind (terms_plain a0 false false false) fun v5 =>
      if v5 = true then
        if ¬ ((Tm.Ds a0.sub).length : Int) = 2 then
          some ((Ty.mk false ByteArray.empty ([] : List Ty)), false)
        else
        bind (geti a0.sub 0) fun v8 =>
        bind (terms_formed v8 a1) fun v9 =>
        bind (geti a0.sub 1) fun v10 =>
        bind (terms_formed v10 a1) fun v11 =>
        if v9.2 = true then
          if v11.2 = true then
            if v9.1.v = true then
              some ((Ty.mk false ByteArray.empty ([] : List Ty)), false)
            else
            if ¬ v9.1.name = (ByteArray.mk #[102, 117, 110]) then
              some ((Ty.mk false ByteArray.empty ([] : List Ty)), false)
            else
            if ¬ ((Ty.Ds v9.1.args).length : Int) = 2 then
              some ((Ty.mk false ByteArray.empty ([] : List Ty)), false)
            else
            bind (geti v9.1.args 0) fun v17 =>
            bind (types_Same v17 v11.1) fun v18 =>
            if v18 = true then
              bind (geti v9.1.args 1) fun v20 =>
              some (v20, true)
            else
            some ((Ty.mk false ByteArray.empty ([] : List Ty)), false)
          else
          some ((Ty.mk false ByteArray.empty ([] : List Ty)), false)
        else
        some ((Ty.mk false ByteArray.empty ([] : List Ty)), false)
      else
      some ((Ty.mk false ByteArray.empty ([] : List Ty)), false)
    else
    if a0.kind = 5 then
      bind (terms_plain a0 true true false) fun v6 =>
      if v6 = true then
        if ¬ ((Tm.Ds a0.sub).length : Int) = 1 then
          some ((Ty.mk false ByteArray.empty ([] : List Ty)), false)
        else
        bind (terms_named a0.name) fun v9 =>
        if v9 = true then
          bind (types_Check a0.ty) fun v11 =>
          if ¬ v11 = 0 then
            some ((Ty.mk false ByteArray.empty ([] : List Ty)), false)
          else
          bind (geti a0.sub 0) fun v13 =>
          bind (cut a1 0 ((Ty.Ds a1).length : Int)) fun v14 =>
          bind (app v14 ([a0.ty])) fun v15 =>
          bind (terms_formed v13 v15) fun v16 =>
          terms_formed_j0 a0 v16
        else
        some ((Ty.mk false ByteArray.empty ([] : List Ty)), false)
      else
      some ((Ty.mk false ByteArray.empty ([] : List Ty)), false)
    else
    some ((Ty.mk false ByteArray.empty ([] : List Ty)), false) := terms_formed'.eq_def (a0, a1)

def terms_typed (a0 : Tm) : Option (Ty × Int) :=
  bind (terms_great a0) fun v1 =>
  if v1 = true then
    some ((Ty.mk false ByteArray.empty ([] : List Ty)), 21)
  else
  bind (terms_formed a0 ([] : List Ty)) fun v3 =>
  if v3.2 = true then
    some (v3.1, 0)
  else
  some ((Ty.mk false ByteArray.empty ([] : List Ty)), 20)

def terms_Check (a0 : Tm) : Option Int :=
  bind (terms_typed a0) fun v1 =>
  some v1.2

def hash_table_addType_io_j1 (t9_2 : Int) (t10_2 : Bool) (a1 : Ty) (c0_0_0 : (List ATypeNode)) (c0_1_0 : (List ATermNode)) (c6_2_0 : (List Int)) (m3_0 : (List (HashTypeKey × Int))) (m4_0 : (List (HashTermKey × Int))) (v20 : HashTypeKey) : Option (Int × (List ATypeNode) × (List ATermNode) × (List (HashTypeKey × Int)) × (List (HashTermKey × Int))) :=
  if t10_2 = true then
    some (t9_2, c0_0_0, c0_1_0, m3_0, m4_0)
  else
  bind (some (mput m3_0 v20 ((ATypeNode.Ds c0_0_0).length : Int))) fun v23 =>
  bind (app c0_0_0 ([(ATypeNode.mk a1.v a1.name c6_2_0)])) fun v24 =>
  some (((ATypeNode.Ds c0_0_0).length : Int), v24, c0_1_0, v23, m4_0)

def hash_table_addType_io_j0 (a1 : Ty) (c0_0_0 : (List ATypeNode)) (c0_1_0 : (List ATermNode)) (c6_2_0 : (List Int)) (m3_0 : (List (HashTypeKey × Int))) (m4_0 : (List (HashTermKey × Int))) : Option (Int × (List ATypeNode) × (List ATermNode) × (List (HashTypeKey × Int)) × (List (HashTermKey × Int))) :=
  bind (hash_keyType (ATypeNode.mk a1.v a1.name c6_2_0)) fun v20 =>
  match mget m3_0 v20 with
  | some v21 =>
    hash_table_addType_io_j1 v21 true a1 c0_0_0 c0_1_0 c6_2_0 m3_0 m4_0 v20
  | none =>
    hash_table_addType_io_j1 0 false a1 c0_0_0 c0_1_0 c6_2_0 m3_0 m4_0 v20

mutual
def hash_table_addType_io' (p : (Ty × (List ATypeNode) × (List ATermNode) × (List (HashTypeKey × Int)) × (List (HashTermKey × Int)))) : Option (Int × (List ATypeNode) × (List ATermNode) × (List (HashTypeKey × Int)) × (List (HashTermKey × Int))) := match p with
  | (a1, b0_0, b0_1, b3, b4) =>
    hash_table_addType_io_l0' (a1.args, b0_0, b0_1, b3, b4, ([] : List Int), a1)
  partial_fixpoint
def hash_table_addType_io_l0' (p : ((List Ty) × (List ATypeNode) × (List ATermNode) × (List (HashTypeKey × Int)) × (List (HashTermKey × Int)) × (List Int) × Ty)) : Option (Int × (List ATypeNode) × (List ATermNode) × (List (HashTypeKey × Int)) × (List (HashTermKey × Int))) := match p with
  | (rest0, c0_0_0, c0_1_0, m3_0, m4_0, c6_2_0, a1) =>
    match rest0 with
    | [] =>
      hash_table_addType_io_j0 a1 c0_0_0 c0_1_0 c6_2_0 m3_0 m4_0
    | v20 :: rest0 =>
      bind (hash_table_addType_io' (v20, c0_0_0, c0_1_0, m3_0, m4_0)) fun v21 =>
      bind (app c6_2_0 ([v21.1])) fun v22 =>
      hash_table_addType_io_l0' (rest0, v21.2.1, v21.2.2.1, v21.2.2.2.1, v21.2.2.2.2, v22, a1)
  partial_fixpoint
end
def hash_table_addType_io (a1 : Ty) (b0_0 : (List ATypeNode)) (b0_1 : (List ATermNode)) (b3 : (List (HashTypeKey × Int))) (b4 : (List (HashTermKey × Int))) : Option (Int × (List ATypeNode) × (List ATermNode) × (List (HashTypeKey × Int)) × (List (HashTermKey × Int))) := hash_table_addType_io' (a1, b0_0, b0_1, b3, b4)
def hash_table_addType_io_l0 (rest0 : (List Ty)) (c0_0_0 : (List ATypeNode)) (c0_1_0 : (List ATermNode)) (m3_0 : (List (HashTypeKey × Int))) (m4_0 : (List (HashTermKey × Int))) (c6_2_0 : (List Int)) (a1 : Ty) : Option (Int × (List ATypeNode) × (List ATermNode) × (List (HashTypeKey × Int)) × (List (HashTermKey × Int))) := hash_table_addType_io_l0' (rest0, c0_0_0, c0_1_0, m3_0, m4_0, c6_2_0, a1)
theorem hash_table_addType_io_eq (a1 : Ty) (b0_0 : (List ATypeNode)) (b0_1 : (List ATermNode)) (b3 : (List (HashTypeKey × Int))) (b4 : (List (HashTermKey × Int))) : hash_table_addType_io a1 b0_0 b0_1 b3 b4 =
    hash_table_addType_io_l0 a1.args b0_0 b0_1 b3 b4 ([] : List Int) a1 := hash_table_addType_io'.eq_def (a1, b0_0, b0_1, b3, b4)
theorem hash_table_addType_io_l0_eq (rest0 : (List Ty)) (c0_0_0 : (List ATypeNode)) (c0_1_0 : (List ATermNode)) (m3_0 : (List (HashTypeKey × Int))) (m4_0 : (List (HashTermKey × Int))) (c6_2_0 : (List Int)) (a1 : Ty) : hash_table_addType_io_l0 rest0 c0_0_0 c0_1_0 m3_0 m4_0 c6_2_0 a1 =
    match rest0 with
    | [] =>
      hash_table_addType_io_j0 a1 c0_0_0 c0_1_0 c6_2_0 m3_0 m4_0
    | v20 :: rest0 =>
      bind (hash_table_addType_io v20 c0_0_0 c0_1_0 m3_0 m4_0) fun v21 =>
      bind (app c6_2_0 ([v21.1])) fun v22 =>
      hash_table_addType_io_l0 rest0 v21.2.1 v21.2.2.1 v21.2.2.2.1 v21.2.2.2.2 v22 a1 := hash_table_addType_io_l0'.eq_def (rest0, c0_0_0, c0_1_0, m3_0, m4_0, c6_2_0, a1)

def hash_table_add_io_j2 (t9_3 : Int) (t10_3 : Bool) (a1 : Tm) (c0_0_0 : (List ATypeNode)) (c0_1_0 : (List ATermNode)) (c6_2_1 : Int) (c6_4_0 : (List Int)) (m3_0 : (List (HashTypeKey × Int))) (m4_0 : (List (HashTermKey × Int))) (v35 : HashTermKey) : Option (Int × (List ATypeNode) × (List ATermNode) × (List (HashTypeKey × Int)) × (List (HashTermKey × Int))) :=
  if t10_3 = true then
    some (t9_3, c0_0_0, c0_1_0, m3_0, m4_0)
  else
  bind (some (mput m4_0 v35 ((ATermNode.Ds c0_1_0).length : Int))) fun v38 =>
  bind (app c0_1_0 ([(ATermNode.mk a1.kind a1.name c6_2_1 a1.index c6_4_0)])) fun v39 =>
  some (((ATermNode.Ds c0_1_0).length : Int), c0_0_0, v39, m3_0, v38)

def hash_table_add_io_j1 (a1 : Tm) (c0_0_0 : (List ATypeNode)) (c0_1_0 : (List ATermNode)) (c6_2_1 : Int) (c6_4_0 : (List Int)) (m3_0 : (List (HashTypeKey × Int))) (m4_0 : (List (HashTermKey × Int))) : Option (Int × (List ATypeNode) × (List ATermNode) × (List (HashTypeKey × Int)) × (List (HashTermKey × Int))) :=
  bind (hash_keyTerm (ATermNode.mk a1.kind a1.name c6_2_1 a1.index c6_4_0)) fun v35 =>
  match mget m4_0 v35 with
  | some v36 =>
    hash_table_add_io_j2 v36 true a1 c0_0_0 c0_1_0 c6_2_1 c6_4_0 m3_0 m4_0 v35
  | none =>
    hash_table_add_io_j2 0 false a1 c0_0_0 c0_1_0 c6_2_1 c6_4_0 m3_0 m4_0 v35

mutual
def hash_table_add_io' (p : (Tm × (List ATypeNode) × (List ATermNode) × (List (HashTypeKey × Int)) × (List (HashTermKey × Int)))) : Option (Int × (List ATypeNode) × (List ATermNode) × (List (HashTypeKey × Int)) × (List (HashTermKey × Int))) := match p with
  | (a1, b0_0, b0_1, b3, b4) =>
    if ¬ a1.kind = 3 then
      if ¬ a1.kind = 4 then
        bind (hash_table_addType_io a1.ty b0_0 b0_1 b3 b4) fun v3 =>
        hash_table_add_io_j0' (v3.2.1, v3.2.2.1, v3.2.2.2.1, v3.2.2.2.2, v3.1, a1)
      else
      hash_table_add_io_j0' (b0_0, b0_1, b3, b4, (-1), a1)
    else
    hash_table_add_io_j0' (b0_0, b0_1, b3, b4, (-1), a1)
  partial_fixpoint
def hash_table_add_io_j0' (p : ((List ATypeNode) × (List ATermNode) × (List (HashTypeKey × Int)) × (List (HashTermKey × Int)) × Int × Tm)) : Option (Int × (List ATypeNode) × (List ATermNode) × (List (HashTypeKey × Int)) × (List (HashTermKey × Int))) := match p with
  | (c0_0_1, c0_1_1, m3_1, m4_1, c6_2_1, a1) =>
    hash_table_add_io_l0' (a1.sub, c0_0_1, c0_1_1, m3_1, m4_1, ([] : List Int), a1, c6_2_1)
  partial_fixpoint
def hash_table_add_io_l0' (p : ((List Tm) × (List ATypeNode) × (List ATermNode) × (List (HashTypeKey × Int)) × (List (HashTermKey × Int)) × (List Int) × Tm × Int)) : Option (Int × (List ATypeNode) × (List ATermNode) × (List (HashTypeKey × Int)) × (List (HashTermKey × Int))) := match p with
  | (rest0, c0_0_0, c0_1_0, m3_0, m4_0, c6_4_0, a1, c6_2_1) =>
    match rest0 with
    | [] =>
      hash_table_add_io_j1 a1 c0_0_0 c0_1_0 c6_2_1 c6_4_0 m3_0 m4_0
    | v35 :: rest0 =>
      bind (hash_table_add_io' (v35, c0_0_0, c0_1_0, m3_0, m4_0)) fun v36 =>
      bind (app c6_4_0 ([v36.1])) fun v37 =>
      hash_table_add_io_l0' (rest0, v36.2.1, v36.2.2.1, v36.2.2.2.1, v36.2.2.2.2, v37, a1, c6_2_1)
  partial_fixpoint
end
def hash_table_add_io (a1 : Tm) (b0_0 : (List ATypeNode)) (b0_1 : (List ATermNode)) (b3 : (List (HashTypeKey × Int))) (b4 : (List (HashTermKey × Int))) : Option (Int × (List ATypeNode) × (List ATermNode) × (List (HashTypeKey × Int)) × (List (HashTermKey × Int))) := hash_table_add_io' (a1, b0_0, b0_1, b3, b4)
def hash_table_add_io_j0 (c0_0_1 : (List ATypeNode)) (c0_1_1 : (List ATermNode)) (m3_1 : (List (HashTypeKey × Int))) (m4_1 : (List (HashTermKey × Int))) (c6_2_1 : Int) (a1 : Tm) : Option (Int × (List ATypeNode) × (List ATermNode) × (List (HashTypeKey × Int)) × (List (HashTermKey × Int))) := hash_table_add_io_j0' (c0_0_1, c0_1_1, m3_1, m4_1, c6_2_1, a1)
def hash_table_add_io_l0 (rest0 : (List Tm)) (c0_0_0 : (List ATypeNode)) (c0_1_0 : (List ATermNode)) (m3_0 : (List (HashTypeKey × Int))) (m4_0 : (List (HashTermKey × Int))) (c6_4_0 : (List Int)) (a1 : Tm) (c6_2_1 : Int) : Option (Int × (List ATypeNode) × (List ATermNode) × (List (HashTypeKey × Int)) × (List (HashTermKey × Int))) := hash_table_add_io_l0' (rest0, c0_0_0, c0_1_0, m3_0, m4_0, c6_4_0, a1, c6_2_1)
theorem hash_table_add_io_eq (a1 : Tm) (b0_0 : (List ATypeNode)) (b0_1 : (List ATermNode)) (b3 : (List (HashTypeKey × Int))) (b4 : (List (HashTermKey × Int))) : hash_table_add_io a1 b0_0 b0_1 b3 b4 =
    if ¬ a1.kind = 3 then
      if ¬ a1.kind = 4 then
        bind (hash_table_addType_io a1.ty b0_0 b0_1 b3 b4) fun v3 =>
        hash_table_add_io_j0 v3.2.1 v3.2.2.1 v3.2.2.2.1 v3.2.2.2.2 v3.1 a1
      else
      hash_table_add_io_j0 b0_0 b0_1 b3 b4 (-1) a1
    else
    hash_table_add_io_j0 b0_0 b0_1 b3 b4 (-1) a1 := hash_table_add_io'.eq_def (a1, b0_0, b0_1, b3, b4)
theorem hash_table_add_io_j0_eq (c0_0_1 : (List ATypeNode)) (c0_1_1 : (List ATermNode)) (m3_1 : (List (HashTypeKey × Int))) (m4_1 : (List (HashTermKey × Int))) (c6_2_1 : Int) (a1 : Tm) : hash_table_add_io_j0 c0_0_1 c0_1_1 m3_1 m4_1 c6_2_1 a1 =
    hash_table_add_io_l0 a1.sub c0_0_1 c0_1_1 m3_1 m4_1 ([] : List Int) a1 c6_2_1 := hash_table_add_io_j0'.eq_def (c0_0_1, c0_1_1, m3_1, m4_1, c6_2_1, a1)
theorem hash_table_add_io_l0_eq (rest0 : (List Tm)) (c0_0_0 : (List ATypeNode)) (c0_1_0 : (List ATermNode)) (m3_0 : (List (HashTypeKey × Int))) (m4_0 : (List (HashTermKey × Int))) (c6_4_0 : (List Int)) (a1 : Tm) (c6_2_1 : Int) : hash_table_add_io_l0 rest0 c0_0_0 c0_1_0 m3_0 m4_0 c6_4_0 a1 c6_2_1 =
    match rest0 with
    | [] =>
      hash_table_add_io_j1 a1 c0_0_0 c0_1_0 c6_2_1 c6_4_0 m3_0 m4_0
    | v35 :: rest0 =>
      bind (hash_table_add_io v35 c0_0_0 c0_1_0 m3_0 m4_0) fun v36 =>
      bind (app c6_4_0 ([v36.1])) fun v37 =>
      hash_table_add_io_l0 rest0 v36.2.1 v36.2.2.1 v36.2.2.2.1 v36.2.2.2.2 v37 a1 c6_2_1 := hash_table_add_io_l0'.eq_def (rest0, c0_0_0, c0_1_0, m3_0, m4_0, c6_4_0, a1, c6_2_1)

def hash_table_done_io (a1 : Int) (b0_0 : (List ATypeNode)) (b0_1 : (List ATermNode)) (b3 : (List (HashTypeKey × Int))) (b4 : (List (HashTermKey × Int))) : Option ((AStore × Int × Int × (List ATypeNode) × (List ATermNode) × (List (HashTypeKey × Int)) × (List (HashTermKey × Int))) ⊕ ((List ATypeNode) × (List ATermNode) × Int × Int × (List ATypeNode) × (List ATermNode) × (List (HashTypeKey × Int)) × (List (HashTermKey × Int)))) :=
  if 4096 < ((ATypeNode.Ds b0_0).length : Int) then
    some (.inl (((AStore.mk ([] : List ATypeNode) ([] : List ATermNode)), 0, 4, b0_0, b0_1, b3, b4)))
  else
  if 4096 < ((ATermNode.Ds b0_1).length : Int) then
    some (.inl (((AStore.mk ([] : List ATypeNode) ([] : List ATermNode)), 0, 4, b0_0, b0_1, b3, b4)))
  else
  some (.inr ((b0_0, b0_1, a1, 0, b0_0, b0_1, b3, b4)))

def hash_Add_j0 : Option (AStore × Int × Int) :=
  some ((AStore.mk ([] : List ATypeNode) ([] : List ATermNode)), 0, 4)

def hash_Add_j0b : Option (AStore × Int × Int) :=
  some ((AStore.mk ([] : List ATypeNode) ([] : List ATermNode)), 0, 8)

def hash_Add_j0c (a1 : Tm) (v4 : ((List ATypeNode) × (List ATermNode) × (List (HashTypeKey × Int)) × (List (HashTermKey × Int)))) : Option (AStore × Int × Int) :=
  bind (terms_Check a1) fun v5 =>
  if ¬ v5 = 0 then
    some ((AStore.mk ([] : List ATypeNode) ([] : List ATermNode)), 0, v5)
  else
  bind (hash_table_add_io a1 v4.1 v4.2.1 v4.2.2.1 v4.2.2.2) fun v7 =>
  bind (hash_table_done_io v7.1 v7.2.1 v7.2.2.1 v7.2.2.2.1 v7.2.2.2.2) fun v8 =>
  match v8 with
  | .inl v9 =>
    some (v9.1, v9.2.1, v9.2.2.1)
  | .inr v10 =>
    some ((AStore.mk v10.1 v10.2.1), v10.2.2.1, v10.2.2.2.1)

def hash_Add (a0 : AStore) (a1 : Tm) : Option (AStore × Int × Int) :=
  bind (hash_open_io a0) fun v1 =>
  match v1 with
  | .inl v2 =>
    hash_Add_j0
  | .inr (.inl v3) =>
    hash_Add_j0b
  | .inr (.inr v4) =>
    hash_Add_j0c a1 v4

def hash_table_size_io_j0 (a1 : Int) (b0_0 : (List ATypeNode)) (b0_1 : (List ATermNode)) (b3 : (List (HashTypeKey × Int))) (b4 : (List (HashTermKey × Int))) (t6_0 : (List Int)) (t7_0 : (List Int)) : Option (Int × Int × (List ATypeNode) × (List ATermNode) × (List (HashTypeKey × Int)) × (List (HashTermKey × Int))) :=
  bind (geti t6_0 a1) fun v34 =>
  if 32000 < v34 then
    some (0, 21, b0_0, b0_1, b3, b4)
  else
  bind (geti t7_0 a1) fun v36 =>
  if 300 < v36 then
    some (0, 21, b0_0, b0_1, b3, b4)
  else
  bind (geti t6_0 a1) fun v38 =>
  some (v38, 0, b0_0, b0_1, b3, b4)

def hash_table_size_io_l0' (p : ((List ATermNode) × (List Int) × (List Int) × Int × (List ATypeNode) × (List ATermNode) × (List (HashTypeKey × Int)) × (List (HashTermKey × Int)))) : Option (Int × Int × (List ATypeNode) × (List ATermNode) × (List (HashTypeKey × Int)) × (List (HashTermKey × Int))) := match p with
  | (rest0, t6_0, t7_0, a1, b0_0, b0_1, b3, b4) =>
    match rest0 with
    | [] =>
      hash_table_size_io_j0 a1 b0_0 b0_1 b3 b4 t6_0 t7_0
    | v34 :: rest0 =>
      bind (hash_measure t6_0 t7_0 v34.sub) fun v35 =>
      bind (app t6_0 ([v35.1])) fun v36 =>
      bind (app t7_0 ([v35.2])) fun v37 =>
      hash_table_size_io_l0' (rest0, v36, v37, a1, b0_0, b0_1, b3, b4)
  partial_fixpoint
def hash_table_size_io_l0 (rest0 : (List ATermNode)) (t6_0 : (List Int)) (t7_0 : (List Int)) (a1 : Int) (b0_0 : (List ATypeNode)) (b0_1 : (List ATermNode)) (b3 : (List (HashTypeKey × Int))) (b4 : (List (HashTermKey × Int))) : Option (Int × Int × (List ATypeNode) × (List ATermNode) × (List (HashTypeKey × Int)) × (List (HashTermKey × Int))) := hash_table_size_io_l0' (rest0, t6_0, t7_0, a1, b0_0, b0_1, b3, b4)
theorem hash_table_size_io_l0_eq (rest0 : (List ATermNode)) (t6_0 : (List Int)) (t7_0 : (List Int)) (a1 : Int) (b0_0 : (List ATypeNode)) (b0_1 : (List ATermNode)) (b3 : (List (HashTypeKey × Int))) (b4 : (List (HashTermKey × Int))) : hash_table_size_io_l0 rest0 t6_0 t7_0 a1 b0_0 b0_1 b3 b4 =
    match rest0 with
    | [] =>
      hash_table_size_io_j0 a1 b0_0 b0_1 b3 b4 t6_0 t7_0
    | v34 :: rest0 =>
      bind (hash_measure t6_0 t7_0 v34.sub) fun v35 =>
      bind (app t6_0 ([v35.1])) fun v36 =>
      bind (app t7_0 ([v35.2])) fun v37 =>
      hash_table_size_io_l0 rest0 v36 v37 a1 b0_0 b0_1 b3 b4 := hash_table_size_io_l0'.eq_def (rest0, t6_0, t7_0, a1, b0_0, b0_1, b3, b4)

def hash_table_size_io (a1 : Int) (b0_0 : (List ATypeNode)) (b0_1 : (List ATermNode)) (b3 : (List (HashTypeKey × Int))) (b4 : (List (HashTermKey × Int))) : Option (Int × Int × (List ATypeNode) × (List ATermNode) × (List (HashTypeKey × Int)) × (List (HashTermKey × Int))) :=
  if a1 < 0 then
    some (0, 6, b0_0, b0_1, b3, b4)
  else
  if ((ATermNode.Ds b0_1).length : Int) ≤ a1 then
    some (0, 6, b0_0, b0_1, b3, b4)
  else
  bind (some (IntKind.wrap .i64 (a1 + 1))) fun v3 =>
  bind (cut b0_1 0 v3) fun v4 =>
  hash_table_size_io_l0 v4 ([] : List Int) ([] : List Int) a1 b0_0 b0_1 b3 b4

def hash_Size_j0 : Option (Int × Int) :=
  some (0, 4)

def hash_Size_j0b : Option (Int × Int) :=
  some (0, 8)

def hash_Size_j0c (a1 : Int) (v4 : ((List ATypeNode) × (List ATermNode) × (List (HashTypeKey × Int)) × (List (HashTermKey × Int)))) : Option (Int × Int) :=
  bind (hash_table_size_io a1 v4.1 v4.2.1 v4.2.2.1 v4.2.2.2) fun v5 =>
  some (v5.1, v5.2.1)

def hash_Size (a0 : AStore) (a1 : Int) : Option (Int × Int) :=
  bind (hash_open_io a0) fun v1 =>
  match v1 with
  | .inl v2 =>
    hash_Size_j0
  | .inr (.inl v3) =>
    hash_Size_j0b
  | .inr (.inr v4) =>
    hash_Size_j0c a1 v4

def hash_Shared_j0 : Option (Int × Int) :=
  some (0, 4)

def hash_Shared_j0b : Option (Int × Int) :=
  some (0, 8)

mutual
def hash_Shared_l0' (p : (Int × Int × (List Bool) × ((List ATypeNode) × (List ATermNode) × (List (HashTypeKey × Int)) × (List (HashTermKey × Int))))) : Option (Int × Int) := match p with
  | (t9_1, t10_1, a6_1, v4) =>
    if 0 ≤ t10_1 then
      bind (wantb (0 ≤ t10_1 ∧ t10_1 < (a6_1.length : Int))) fun g14 =>
      bind (geti a6_1 t10_1) fun v15 =>
      if v15 = true then
        bind (some (IntKind.wrap .i64 (t9_1 + 1))) fun v17 =>
        bind (geti v4.2.1 t10_1) fun v18 =>
        hash_Shared_l1' (v18.sub, a6_1, t10_1, v4, v17)
      else
      bind (some (IntKind.wrap .i64 (t10_1 - 1))) fun v17 =>
      hash_Shared_l0' (t9_1, v17, a6_1, v4)
    else
    some (t9_1, 0)
  partial_fixpoint
def hash_Shared_l1' (p : ((List Int) × (List Bool) × Int × ((List ATypeNode) × (List ATermNode) × (List (HashTypeKey × Int)) × (List (HashTermKey × Int))) × Int)) : Option (Int × Int) := match p with
  | (rest2, a6_2, t10_1, v4, v17) =>
    match rest2 with
    | [] =>
      bind (some (IntKind.wrap .i64 (t10_1 - 1))) fun v63 =>
      hash_Shared_l0' (v17, v63, a6_2, v4)
    | v62 :: rest2 =>
      bind (wantb (0 ≤ v62 ∧ v62 < (a6_2.length : Int))) fun g64 =>
      bind (seti a6_2 v62 true) fun v65 =>
      hash_Shared_l1' (rest2, v65, t10_1, v4, v17)
  partial_fixpoint
end
def hash_Shared_l0 (t9_1 : Int) (t10_1 : Int) (a6_1 : (List Bool)) (v4 : ((List ATypeNode) × (List ATermNode) × (List (HashTypeKey × Int)) × (List (HashTermKey × Int)))) : Option (Int × Int) := hash_Shared_l0' (t9_1, t10_1, a6_1, v4)
def hash_Shared_l1 (rest2 : (List Int)) (a6_2 : (List Bool)) (t10_1 : Int) (v4 : ((List ATypeNode) × (List ATermNode) × (List (HashTypeKey × Int)) × (List (HashTermKey × Int)))) (v17 : Int) : Option (Int × Int) := hash_Shared_l1' (rest2, a6_2, t10_1, v4, v17)
theorem hash_Shared_l0_eq (t9_1 : Int) (t10_1 : Int) (a6_1 : (List Bool)) (v4 : ((List ATypeNode) × (List ATermNode) × (List (HashTypeKey × Int)) × (List (HashTermKey × Int)))) : hash_Shared_l0 t9_1 t10_1 a6_1 v4 =
    if 0 ≤ t10_1 then
      bind (wantb (0 ≤ t10_1 ∧ t10_1 < (a6_1.length : Int))) fun g14 =>
      bind (geti a6_1 t10_1) fun v15 =>
      if v15 = true then
        bind (some (IntKind.wrap .i64 (t9_1 + 1))) fun v17 =>
        bind (geti v4.2.1 t10_1) fun v18 =>
        hash_Shared_l1 v18.sub a6_1 t10_1 v4 v17
      else
      bind (some (IntKind.wrap .i64 (t10_1 - 1))) fun v17 =>
      hash_Shared_l0 t9_1 v17 a6_1 v4
    else
    some (t9_1, 0) := hash_Shared_l0'.eq_def (t9_1, t10_1, a6_1, v4)
theorem hash_Shared_l1_eq (rest2 : (List Int)) (a6_2 : (List Bool)) (t10_1 : Int) (v4 : ((List ATypeNode) × (List ATermNode) × (List (HashTypeKey × Int)) × (List (HashTermKey × Int)))) (v17 : Int) : hash_Shared_l1 rest2 a6_2 t10_1 v4 v17 =
    match rest2 with
    | [] =>
      bind (some (IntKind.wrap .i64 (t10_1 - 1))) fun v63 =>
      hash_Shared_l0 v17 v63 a6_2 v4
    | v62 :: rest2 =>
      bind (wantb (0 ≤ v62 ∧ v62 < (a6_2.length : Int))) fun g64 =>
      bind (seti a6_2 v62 true) fun v65 =>
      hash_Shared_l1 rest2 v65 t10_1 v4 v17 := hash_Shared_l1'.eq_def (rest2, a6_2, t10_1, v4, v17)

def hash_Shared_j0c (a1 : Int) (v4 : ((List ATypeNode) × (List ATermNode) × (List (HashTypeKey × Int)) × (List (HashTermKey × Int)))) : Option (Int × Int) :=
  if a1 < 0 then
    some (0, 6)
  else
  if ((ATermNode.Ds v4.2.1).length : Int) ≤ a1 then
    some (0, 6)
  else
  bind (some (IntKind.wrap .i64 (a1 + 1))) fun v7 =>
  bind (mkn false v7) fun v8 =>
  bind (wantb (0 ≤ a1 ∧ a1 < (v8.length : Int))) fun g10 =>
  bind (seti v8 a1 true) fun v11 =>
  hash_Shared_l0 0 a1 v11 v4

def hash_Shared (a0 : AStore) (a1 : Int) : Option (Int × Int) :=
  bind (hash_open_io a0) fun v1 =>
  match v1 with
  | .inl v2 =>
    hash_Shared_j0
  | .inr (.inl v3) =>
    hash_Shared_j0b
  | .inr (.inr v4) =>
    hash_Shared_j0c a1 v4

mutual
def hash_table_typ_io' (p : (Int × (List ATypeNode) × (List ATermNode) × (List (HashTypeKey × Int)) × (List (HashTermKey × Int)))) : Option (Ty × (List ATypeNode) × (List ATermNode) × (List (HashTypeKey × Int)) × (List (HashTermKey × Int))) := match p with
  | (a1, b0_0, b0_1, b3, b4) =>
    bind (geti b0_0 a1) fun v1 =>
    hash_table_typ_io_l0' (v1.args, b0_0, b0_1, b3, b4, ([] : List Ty), v1)
  partial_fixpoint
def hash_table_typ_io_l0' (p : ((List Int) × (List ATypeNode) × (List ATermNode) × (List (HashTypeKey × Int)) × (List (HashTermKey × Int)) × (List Ty) × ATypeNode)) : Option (Ty × (List ATypeNode) × (List ATermNode) × (List (HashTypeKey × Int)) × (List (HashTermKey × Int))) := match p with
  | (rest0, c0_0_0, c0_1_0, m3_0, m4_0, c7_2_0, v1) =>
    match rest0 with
    | [] =>
      some ((Ty.mk v1.var v1.name c7_2_0), c0_0_0, c0_1_0, m3_0, m4_0)
    | v26 :: rest0 =>
      bind (hash_table_typ_io' (v26, c0_0_0, c0_1_0, m3_0, m4_0)) fun v27 =>
      bind (app c7_2_0 ([v27.1])) fun v28 =>
      hash_table_typ_io_l0' (rest0, v27.2.1, v27.2.2.1, v27.2.2.2.1, v27.2.2.2.2, v28, v1)
  partial_fixpoint
end
def hash_table_typ_io (a1 : Int) (b0_0 : (List ATypeNode)) (b0_1 : (List ATermNode)) (b3 : (List (HashTypeKey × Int))) (b4 : (List (HashTermKey × Int))) : Option (Ty × (List ATypeNode) × (List ATermNode) × (List (HashTypeKey × Int)) × (List (HashTermKey × Int))) := hash_table_typ_io' (a1, b0_0, b0_1, b3, b4)
def hash_table_typ_io_l0 (rest0 : (List Int)) (c0_0_0 : (List ATypeNode)) (c0_1_0 : (List ATermNode)) (m3_0 : (List (HashTypeKey × Int))) (m4_0 : (List (HashTermKey × Int))) (c7_2_0 : (List Ty)) (v1 : ATypeNode) : Option (Ty × (List ATypeNode) × (List ATermNode) × (List (HashTypeKey × Int)) × (List (HashTermKey × Int))) := hash_table_typ_io_l0' (rest0, c0_0_0, c0_1_0, m3_0, m4_0, c7_2_0, v1)
theorem hash_table_typ_io_eq (a1 : Int) (b0_0 : (List ATypeNode)) (b0_1 : (List ATermNode)) (b3 : (List (HashTypeKey × Int))) (b4 : (List (HashTermKey × Int))) : hash_table_typ_io a1 b0_0 b0_1 b3 b4 =
    bind (geti b0_0 a1) fun v1 =>
    hash_table_typ_io_l0 v1.args b0_0 b0_1 b3 b4 ([] : List Ty) v1 := hash_table_typ_io'.eq_def (a1, b0_0, b0_1, b3, b4)
theorem hash_table_typ_io_l0_eq (rest0 : (List Int)) (c0_0_0 : (List ATypeNode)) (c0_1_0 : (List ATermNode)) (m3_0 : (List (HashTypeKey × Int))) (m4_0 : (List (HashTermKey × Int))) (c7_2_0 : (List Ty)) (v1 : ATypeNode) : hash_table_typ_io_l0 rest0 c0_0_0 c0_1_0 m3_0 m4_0 c7_2_0 v1 =
    match rest0 with
    | [] =>
      some ((Ty.mk v1.var v1.name c7_2_0), c0_0_0, c0_1_0, m3_0, m4_0)
    | v26 :: rest0 =>
      bind (hash_table_typ_io v26 c0_0_0 c0_1_0 m3_0 m4_0) fun v27 =>
      bind (app c7_2_0 ([v27.1])) fun v28 =>
      hash_table_typ_io_l0 rest0 v27.2.1 v27.2.2.1 v27.2.2.2.1 v27.2.2.2.2 v28 v1 := hash_table_typ_io_l0'.eq_def (rest0, c0_0_0, c0_1_0, m3_0, m4_0, c7_2_0, v1)

mutual
def hash_table_term_io' (p : (Int × (List ATypeNode) × (List ATermNode) × (List (HashTypeKey × Int)) × (List (HashTermKey × Int)))) : Option (Tm × (List ATypeNode) × (List ATermNode) × (List (HashTypeKey × Int)) × (List (HashTermKey × Int))) := match p with
  | (a1, b0_0, b0_1, b3, b4) =>
    bind (geti b0_1 a1) fun v1 =>
    if 0 ≤ v1.type_ then
      bind (hash_table_typ_io v1.type_ b0_0 b0_1 b3 b4) fun v3 =>
      hash_table_term_io_j0' (v3.2.1, v3.2.2.1, v3.2.2.2.1, v3.2.2.2.2, v3.1.v, v3.1.name, v3.1.args, v1)
    else
    hash_table_term_io_j0' (b0_0, b0_1, b3, b4, false, ByteArray.empty, ([] : List Ty), v1)
  partial_fixpoint
def hash_table_term_io_j0' (p : ((List ATypeNode) × (List ATermNode) × (List (HashTypeKey × Int)) × (List (HashTermKey × Int)) × Bool × ByteArray × (List Ty) × ATermNode)) : Option (Tm × (List ATypeNode) × (List ATermNode) × (List (HashTypeKey × Int)) × (List (HashTermKey × Int))) := match p with
  | (c0_0_1, c0_1_1, m3_1, m4_1, c7_2_1, c7_3_1, c7_4_1, v1) =>
    hash_table_term_io_l0' (v1.sub, c0_0_1, c0_1_1, m3_1, m4_1, ([] : List Tm), c7_2_1, c7_3_1, c7_4_1, v1)
  partial_fixpoint
def hash_table_term_io_l0' (p : ((List Int) × (List ATypeNode) × (List ATermNode) × (List (HashTypeKey × Int)) × (List (HashTermKey × Int)) × (List Tm) × Bool × ByteArray × (List Ty) × ATermNode)) : Option (Tm × (List ATypeNode) × (List ATermNode) × (List (HashTypeKey × Int)) × (List (HashTermKey × Int))) := match p with
  | (rest0, c0_0_0, c0_1_0, m3_0, m4_0, c7_6_0, c7_2_1, c7_3_1, c7_4_1, v1) =>
    match rest0 with
    | [] =>
      some ((Tm.mk v1.kind v1.name (Ty.mk c7_2_1 c7_3_1 c7_4_1) v1.index c7_6_0), c0_0_0, c0_1_0, m3_0, m4_0)
    | v36 :: rest0 =>
      bind (hash_table_term_io' (v36, c0_0_0, c0_1_0, m3_0, m4_0)) fun v37 =>
      bind (app c7_6_0 ([v37.1])) fun v38 =>
      hash_table_term_io_l0' (rest0, v37.2.1, v37.2.2.1, v37.2.2.2.1, v37.2.2.2.2, v38, c7_2_1, c7_3_1, c7_4_1, v1)
  partial_fixpoint
end
def hash_table_term_io (a1 : Int) (b0_0 : (List ATypeNode)) (b0_1 : (List ATermNode)) (b3 : (List (HashTypeKey × Int))) (b4 : (List (HashTermKey × Int))) : Option (Tm × (List ATypeNode) × (List ATermNode) × (List (HashTypeKey × Int)) × (List (HashTermKey × Int))) := hash_table_term_io' (a1, b0_0, b0_1, b3, b4)
def hash_table_term_io_j0 (c0_0_1 : (List ATypeNode)) (c0_1_1 : (List ATermNode)) (m3_1 : (List (HashTypeKey × Int))) (m4_1 : (List (HashTermKey × Int))) (c7_2_1 : Bool) (c7_3_1 : ByteArray) (c7_4_1 : (List Ty)) (v1 : ATermNode) : Option (Tm × (List ATypeNode) × (List ATermNode) × (List (HashTypeKey × Int)) × (List (HashTermKey × Int))) := hash_table_term_io_j0' (c0_0_1, c0_1_1, m3_1, m4_1, c7_2_1, c7_3_1, c7_4_1, v1)
def hash_table_term_io_l0 (rest0 : (List Int)) (c0_0_0 : (List ATypeNode)) (c0_1_0 : (List ATermNode)) (m3_0 : (List (HashTypeKey × Int))) (m4_0 : (List (HashTermKey × Int))) (c7_6_0 : (List Tm)) (c7_2_1 : Bool) (c7_3_1 : ByteArray) (c7_4_1 : (List Ty)) (v1 : ATermNode) : Option (Tm × (List ATypeNode) × (List ATermNode) × (List (HashTypeKey × Int)) × (List (HashTermKey × Int))) := hash_table_term_io_l0' (rest0, c0_0_0, c0_1_0, m3_0, m4_0, c7_6_0, c7_2_1, c7_3_1, c7_4_1, v1)
theorem hash_table_term_io_eq (a1 : Int) (b0_0 : (List ATypeNode)) (b0_1 : (List ATermNode)) (b3 : (List (HashTypeKey × Int))) (b4 : (List (HashTermKey × Int))) : hash_table_term_io a1 b0_0 b0_1 b3 b4 =
    bind (geti b0_1 a1) fun v1 =>
    if 0 ≤ v1.type_ then
      bind (hash_table_typ_io v1.type_ b0_0 b0_1 b3 b4) fun v3 =>
      hash_table_term_io_j0 v3.2.1 v3.2.2.1 v3.2.2.2.1 v3.2.2.2.2 v3.1.v v3.1.name v3.1.args v1
    else
    hash_table_term_io_j0 b0_0 b0_1 b3 b4 false ByteArray.empty ([] : List Ty) v1 := hash_table_term_io'.eq_def (a1, b0_0, b0_1, b3, b4)
theorem hash_table_term_io_j0_eq (c0_0_1 : (List ATypeNode)) (c0_1_1 : (List ATermNode)) (m3_1 : (List (HashTypeKey × Int))) (m4_1 : (List (HashTermKey × Int))) (c7_2_1 : Bool) (c7_3_1 : ByteArray) (c7_4_1 : (List Ty)) (v1 : ATermNode) : hash_table_term_io_j0 c0_0_1 c0_1_1 m3_1 m4_1 c7_2_1 c7_3_1 c7_4_1 v1 =
    hash_table_term_io_l0 v1.sub c0_0_1 c0_1_1 m3_1 m4_1 ([] : List Tm) c7_2_1 c7_3_1 c7_4_1 v1 := hash_table_term_io_j0'.eq_def (c0_0_1, c0_1_1, m3_1, m4_1, c7_2_1, c7_3_1, c7_4_1, v1)
theorem hash_table_term_io_l0_eq (rest0 : (List Int)) (c0_0_0 : (List ATypeNode)) (c0_1_0 : (List ATermNode)) (m3_0 : (List (HashTypeKey × Int))) (m4_0 : (List (HashTermKey × Int))) (c7_6_0 : (List Tm)) (c7_2_1 : Bool) (c7_3_1 : ByteArray) (c7_4_1 : (List Ty)) (v1 : ATermNode) : hash_table_term_io_l0 rest0 c0_0_0 c0_1_0 m3_0 m4_0 c7_6_0 c7_2_1 c7_3_1 c7_4_1 v1 =
    match rest0 with
    | [] =>
      some ((Tm.mk v1.kind v1.name (Ty.mk c7_2_1 c7_3_1 c7_4_1) v1.index c7_6_0), c0_0_0, c0_1_0, m3_0, m4_0)
    | v36 :: rest0 =>
      bind (hash_table_term_io v36 c0_0_0 c0_1_0 m3_0 m4_0) fun v37 =>
      bind (app c7_6_0 ([v37.1])) fun v38 =>
      hash_table_term_io_l0 rest0 v37.2.1 v37.2.2.1 v37.2.2.2.1 v37.2.2.2.2 v38 c7_2_1 c7_3_1 c7_4_1 v1 := hash_table_term_io_l0'.eq_def (rest0, c0_0_0, c0_1_0, m3_0, m4_0, c7_6_0, c7_2_1, c7_3_1, c7_4_1, v1)

def hash_Get_j0 : Option (Tm × Int) :=
  some ((Tm.mk 0 ByteArray.empty (Ty.mk false ByteArray.empty ([] : List Ty)) 0 ([] : List Tm)), 4)

def hash_Get_j0b : Option (Tm × Int) :=
  some ((Tm.mk 0 ByteArray.empty (Ty.mk false ByteArray.empty ([] : List Ty)) 0 ([] : List Tm)), 8)

def hash_Get_j0c (a1 : Int) (v4 : ((List ATypeNode) × (List ATermNode) × (List (HashTypeKey × Int)) × (List (HashTermKey × Int)))) : Option (Tm × Int) :=
  bind (hash_table_size_io a1 v4.1 v4.2.1 v4.2.2.1 v4.2.2.2) fun v5 =>
  if ¬ v5.2.1 = 0 then
    some ((Tm.mk 0 ByteArray.empty (Ty.mk false ByteArray.empty ([] : List Ty)) 0 ([] : List Tm)), v5.2.1)
  else
  bind (hash_table_term_io a1 v5.2.2.1 v5.2.2.2.1 v5.2.2.2.2.1 v5.2.2.2.2.2) fun v7 =>
  bind (terms_Check v7.1) fun v8 =>
  if ¬ v8 = 0 then
    some ((Tm.mk 0 ByteArray.empty (Ty.mk false ByteArray.empty ([] : List Ty)) 0 ([] : List Tm)), v8)
  else
  some (v7.1, 0)

def hash_Get (a0 : AStore) (a1 : Int) : Option (Tm × Int) :=
  bind (hash_open_io a0) fun v1 =>
  match v1 with
  | .inl v2 =>
    hash_Get_j0
  | .inr (.inl v3) =>
    hash_Get_j0b
  | .inr (.inr v4) =>
    hash_Get_j0c a1 v4

def cmp_isNaN_uint8 (a0 : Int) : Option Bool :=
  some (decide (¬ a0 = a0))

def cmp_Compare_uint8 (a0 : Int) (a1 : Int) : Option Int :=
  bind (cmp_isNaN_uint8 a0) fun v1 =>
  bind (cmp_isNaN_uint8 a1) fun v2 =>
  if v1 = true then
    if v2 = true then
      some 0
    else
    some (-1)
  else
  if v2 = true then
    some 1
  else
  if a0 < a1 then
    some (-1)
  else
  if a1 < a0 then
    some 1
  else
  some 0

mutual
def slices_CompareFunc_Term_Term_Term_Term__terms_Compare' (p : ((List Tm) × (List Tm))) : Option Int := match p with
  | (a0, a1) =>
    slices_CompareFunc_Term_Term_Term_Term__terms_Compare_l0' (a0, 0, a0, a1)
  partial_fixpoint
def slices_CompareFunc_Term_Term_Term_Term__terms_Compare_l0' (p : ((List Tm) × Nat × (List Tm) × (List Tm))) : Option Int := match p with
  | (rest0, k0, a0, a1) =>
    match rest0 with
    | [] =>
      if ((Tm.Ds a0).length : Int) < ((Tm.Ds a1).length : Int) then
        some (-1)
      else
      some 0
    | v14 :: rest0 =>
      if ((Tm.Ds a1).length : Int) ≤ (k0 : Int) then
        some 1
      else
      bind (geti a1 (k0 : Int)) fun v16 =>
      bind (terms_Compare' (v14, v16)) fun v17 =>
      if ¬ v17 = 0 then
        some v17
      else
      slices_CompareFunc_Term_Term_Term_Term__terms_Compare_l0' (rest0, k0 + 1, a0, a1)
  partial_fixpoint
def terms_Compare' (p : (Tm × Tm)) : Option Int := match p with
  | (a0, a1) =>
    bind (cmp_Compare_uint8 a0.kind a1.kind) fun v1 =>
    if ¬ v1 = 0 then
      some v1
    else
    bind (strings_Compare a0.name a1.name) fun v3 =>
    if ¬ v3 = 0 then
      if ¬ a0.kind = 5 then
        some v3
      else
      terms_Compare_j0' (a0, a1)
    else
    terms_Compare_j0' (a0, a1)
  partial_fixpoint
def terms_Compare_j0' (p : (Tm × Tm)) : Option Int := match p with
  | (a0, a1) =>
    bind (types_Compare a0.ty a1.ty) fun v4 =>
    bind (cmp_Compare_int a0.index a1.index) fun v5 =>
    bind (cmp_Compare_int ((Tm.Ds a0.sub).length : Int) ((Tm.Ds a1.sub).length : Int)) fun v6 =>
    bind (cmp_Or_int ([v4, v5, v6])) fun v7 =>
    if ¬ v7 = 0 then
      some v7
    else
    bind (slices_CompareFunc_Term_Term_Term_Term__terms_Compare' (a0.sub, a1.sub)) fun v9 =>
    some v9
  partial_fixpoint
end
def slices_CompareFunc_Term_Term_Term_Term__terms_Compare (a0 : (List Tm)) (a1 : (List Tm)) : Option Int := slices_CompareFunc_Term_Term_Term_Term__terms_Compare' (a0, a1)
def slices_CompareFunc_Term_Term_Term_Term__terms_Compare_l0 (rest0 : (List Tm)) (k0 : Nat) (a0 : (List Tm)) (a1 : (List Tm)) : Option Int := slices_CompareFunc_Term_Term_Term_Term__terms_Compare_l0' (rest0, k0, a0, a1)
def terms_Compare (a0 : Tm) (a1 : Tm) : Option Int := terms_Compare' (a0, a1)
def terms_Compare_j0 (a0 : Tm) (a1 : Tm) : Option Int := terms_Compare_j0' (a0, a1)
theorem slices_CompareFunc_Term_Term_Term_Term__terms_Compare_eq (a0 : (List Tm)) (a1 : (List Tm)) : slices_CompareFunc_Term_Term_Term_Term__terms_Compare a0 a1 =
    slices_CompareFunc_Term_Term_Term_Term__terms_Compare_l0 a0 0 a0 a1 := slices_CompareFunc_Term_Term_Term_Term__terms_Compare'.eq_def (a0, a1)
theorem slices_CompareFunc_Term_Term_Term_Term__terms_Compare_l0_eq (rest0 : (List Tm)) (k0 : Nat) (a0 : (List Tm)) (a1 : (List Tm)) : slices_CompareFunc_Term_Term_Term_Term__terms_Compare_l0 rest0 k0 a0 a1 =
    match rest0 with
    | [] =>
      if ((Tm.Ds a0).length : Int) < ((Tm.Ds a1).length : Int) then
        some (-1)
      else
      some 0
    | v14 :: rest0 =>
      if ((Tm.Ds a1).length : Int) ≤ (k0 : Int) then
        some 1
      else
      bind (geti a1 (k0 : Int)) fun v16 =>
      bind (terms_Compare v14 v16) fun v17 =>
      if ¬ v17 = 0 then
        some v17
      else
      slices_CompareFunc_Term_Term_Term_Term__terms_Compare_l0 rest0 (k0 + 1) a0 a1 := slices_CompareFunc_Term_Term_Term_Term__terms_Compare_l0'.eq_def (rest0, k0, a0, a1)
theorem terms_Compare_eq (a0 : Tm) (a1 : Tm) : terms_Compare a0 a1 =
    bind (cmp_Compare_uint8 a0.kind a1.kind) fun v1 =>
    if ¬ v1 = 0 then
      some v1
    else
    bind (strings_Compare a0.name a1.name) fun v3 =>
    if ¬ v3 = 0 then
      if ¬ a0.kind = 5 then
        some v3
      else
      terms_Compare_j0 a0 a1
    else
    terms_Compare_j0 a0 a1 := terms_Compare'.eq_def (a0, a1)
theorem terms_Compare_j0_eq (a0 : Tm) (a1 : Tm) : terms_Compare_j0 a0 a1 =
    bind (types_Compare a0.ty a1.ty) fun v4 =>
    bind (cmp_Compare_int a0.index a1.index) fun v5 =>
    bind (cmp_Compare_int ((Tm.Ds a0.sub).length : Int) ((Tm.Ds a1.sub).length : Int)) fun v6 =>
    bind (cmp_Or_int ([v4, v5, v6])) fun v7 =>
    if ¬ v7 = 0 then
      some v7
    else
    bind (slices_CompareFunc_Term_Term_Term_Term__terms_Compare a0.sub a1.sub) fun v9 =>
    some v9 := terms_Compare_j0'.eq_def (a0, a1)

def terms_Same (a0 : Tm) (a1 : Tm) : Option Bool :=
  bind (terms_Compare a0 a1) fun v1 =>
  some (decide (v1 = 0))

def sequentref31_ints_l0' (p : ((List Int) × Nat × (List Int))) : Option Bool := match p with
  | (rest0, k0, a1) =>
    match rest0 with
    | [] =>
      some true
    | v6 :: rest0 =>
      bind (geti a1 (k0 : Int)) fun v7 =>
      if ¬ v6 = v7 then
        some false
      else
      sequentref31_ints_l0' (rest0, k0 + 1, a1)
  partial_fixpoint
def sequentref31_ints_l0 (rest0 : (List Int)) (k0 : Nat) (a1 : (List Int)) : Option Bool := sequentref31_ints_l0' (rest0, k0, a1)
theorem sequentref31_ints_l0_eq (rest0 : (List Int)) (k0 : Nat) (a1 : (List Int)) : sequentref31_ints_l0 rest0 k0 a1 =
    match rest0 with
    | [] =>
      some true
    | v6 :: rest0 =>
      bind (geti a1 (k0 : Int)) fun v7 =>
      if ¬ v6 = v7 then
        some false
      else
      sequentref31_ints_l0 rest0 (k0 + 1) a1 := sequentref31_ints_l0'.eq_def (rest0, k0, a1)

def sequentref31_ints (a0 : (List Int)) (a1 : (List Int)) : Option Bool :=
  if ¬ ((intDs_i64 a0).length : Int) = ((intDs_i64 a1).length : Int) then
    some false
  else
  sequentref31_ints_l0 a0 0 a1

def sequentref31_sameType (a0 : ATypeNode) (a1 : ATypeNode) : Option Bool :=
  if a0.var = a1.var then
    if a0.name = a1.name then
      bind (sequentref31_ints a0.args a1.args) fun v3 =>
      some v3
    else
    some false
  else
  some false

def sequentref31_sameTerm (a0 : ATermNode) (a1 : ATermNode) : Option Bool :=
  if a0.kind = a1.kind then
    if a0.kind = 5 then
      if a0.type_ = a1.type_ then
        if a0.index = a1.index then
          bind (sequentref31_ints a0.sub a1.sub) fun v5 =>
          some v5
        else
        some false
      else
      some false
    else
    if a0.name = a1.name then
      if a0.type_ = a1.type_ then
        if a0.index = a1.index then
          bind (sequentref31_ints a0.sub a1.sub) fun v6 =>
          some v6
        else
        some false
      else
      some false
    else
    some false
  else
  some false

def sequentref31_Same_l1' (p : ((List ATermNode) × Nat × AStore)) : Option Bool := match p with
  | (rest1, k1, a1) =>
    match rest1 with
    | [] =>
      some true
    | v7 :: rest1 =>
      bind (geti a1.terms (k1 : Int)) fun v8 =>
      bind (sequentref31_sameTerm v7 v8) fun v9 =>
      if v9 = true then
        bind (geti a1.terms (k1 : Int)) fun v11 =>
        if ¬ v7.name = v11.name then
          some false
        else
        sequentref31_Same_l1' (rest1, k1 + 1, a1)
      else
      some false
  partial_fixpoint
def sequentref31_Same_l1 (rest1 : (List ATermNode)) (k1 : Nat) (a1 : AStore) : Option Bool := sequentref31_Same_l1' (rest1, k1, a1)
theorem sequentref31_Same_l1_eq (rest1 : (List ATermNode)) (k1 : Nat) (a1 : AStore) : sequentref31_Same_l1 rest1 k1 a1 =
    match rest1 with
    | [] =>
      some true
    | v7 :: rest1 =>
      bind (geti a1.terms (k1 : Int)) fun v8 =>
      bind (sequentref31_sameTerm v7 v8) fun v9 =>
      if v9 = true then
        bind (geti a1.terms (k1 : Int)) fun v11 =>
        if ¬ v7.name = v11.name then
          some false
        else
        sequentref31_Same_l1 rest1 (k1 + 1) a1
      else
      some false := sequentref31_Same_l1'.eq_def (rest1, k1, a1)

def sequentref31_Same_l0' (p : ((List ATypeNode) × Nat × AStore × AStore)) : Option Bool := match p with
  | (rest0, k0, a0, a1) =>
    match rest0 with
    | [] =>
      sequentref31_Same_l1 a0.terms 0 a1
    | v6 :: rest0 =>
      bind (geti a1.types (k0 : Int)) fun v7 =>
      bind (sequentref31_sameType v6 v7) fun v8 =>
      if v8 = true then
        sequentref31_Same_l0' (rest0, k0 + 1, a0, a1)
      else
      some false
  partial_fixpoint
def sequentref31_Same_l0 (rest0 : (List ATypeNode)) (k0 : Nat) (a0 : AStore) (a1 : AStore) : Option Bool := sequentref31_Same_l0' (rest0, k0, a0, a1)
theorem sequentref31_Same_l0_eq (rest0 : (List ATypeNode)) (k0 : Nat) (a0 : AStore) (a1 : AStore) : sequentref31_Same_l0 rest0 k0 a0 a1 =
    match rest0 with
    | [] =>
      sequentref31_Same_l1 a0.terms 0 a1
    | v6 :: rest0 =>
      bind (geti a1.types (k0 : Int)) fun v7 =>
      bind (sequentref31_sameType v6 v7) fun v8 =>
      if v8 = true then
        sequentref31_Same_l0 rest0 (k0 + 1) a0 a1
      else
      some false := sequentref31_Same_l0'.eq_def (rest0, k0, a0, a1)

def sequentref31_Same (a0 : AStore) (a1 : AStore) : Option Bool :=
  if ¬ ((ATypeNode.Ds a0.types).length : Int) = ((ATypeNode.Ds a1.types).length : Int) then
    some false
  else
  if ¬ ((ATermNode.Ds a0.terms).length : Int) = ((ATermNode.Ds a1.terms).length : Int) then
    some false
  else
  sequentref31_Same_l0 a0.types 0 a0 a1

def sequentlaw31_alive : Option Bool :=
  bind (sequentlaw31_twice) fun v1 =>
  bind (hash_Add (AStore.mk ([] : List ATypeNode) ([] : List ATermNode)) v1) fun v2 =>
  bind (hash_Size v2.1 3) fun v3 =>
  bind (hash_Shared v2.1 3) fun v4 =>
  bind (hash_Get v2.1 3) fun v5 =>
  if v2.2.2 = 0 then
    if v2.2.1 = 3 then
      if v3.2 = 0 then
        if v3.1 = 5 then
          if v4.2 = 0 then
            if v4.1 = 4 then
              if v5.2 = 0 then
                bind (sequentlaw31_twice) fun v13 =>
                bind (terms_Same v5.1 v13) fun v14 =>
                if v14 = true then
                  bind (sequentref31_Same v2.1 (AStore.mk ([(ATypeNode.mk true (ByteArray.mk #[39, 97]) ([] : List Int)), (ATypeNode.mk false (ByteArray.mk #[102, 117, 110]) ([0, 0]))]) ([(ATermNode.mk 1 (ByteArray.mk #[102]) 1 0 ([] : List Int)), (ATermNode.mk 1 (ByteArray.mk #[120]) 0 0 ([] : List Int)), (ATermNode.mk 4 ByteArray.empty (-1) 0 ([0, 1])), (ATermNode.mk 4 ByteArray.empty (-1) 0 ([0, 2]))]))) fun v16 =>
                  some v16
                else
                some false
              else
              some false
            else
            some false
          else
          some false
        else
        some false
      else
      some false
    else
    some false
  else
  some false

def hash_Check (a0 : AStore) : Option Int :=
  bind (hash_open_io a0) fun v1 =>
  match v1 with
  | .inl v2 =>
    some 4
  | .inr (.inl v3) =>
    some 8
  | .inr (.inr v4) =>
    some 0

def sequentlaw31_lambda (a0 : ByteArray) : Option Tm :=
  bind (types_Bool) fun v1 =>
  some (Tm.mk 5 a0 v1 0 ([(Tm.mk 3 ByteArray.empty (Ty.mk false ByteArray.empty ([] : List Ty)) 0 ([] : List Tm))]))

def hash_Find_j0 : Option (Int × Bool × Int) :=
  some (0, false, 4)

def hash_Find_j0b : Option (Int × Bool × Int) :=
  some (0, false, 8)

def hash_Find_j0c (a1 : Tm) (v4 : ((List ATypeNode) × (List ATermNode) × (List (HashTypeKey × Int)) × (List (HashTermKey × Int)))) : Option (Int × Bool × Int) :=
  bind (terms_Check a1) fun v5 =>
  if ¬ v5 = 0 then
    some (0, false, v5)
  else
  bind (hash_table_add_io a1 v4.1 v4.2.1 v4.2.2.1 v4.2.2.2) fun v7 =>
  if v7.1 < ((ATermNode.Ds v4.2.1).length : Int) then
    some (v7.1, true, 0)
  else
  some (0, false, 0)

def hash_Find (a0 : AStore) (a1 : Tm) : Option (Int × Bool × Int) :=
  bind (hash_open_io a0) fun v1 =>
  match v1 with
  | .inl v2 =>
    hash_Find_j0
  | .inr (.inl v3) =>
    hash_Find_j0b
  | .inr (.inr v4) =>
    hash_Find_j0c a1 v4

def slices_Equal_int_int_l0' (p : ((List Int) × Nat × (List Int))) : Option Bool := match p with
  | (rest0, k0, a1) =>
    match rest0 with
    | [] =>
      some true
    | v14 :: rest0 =>
      bind (geti a1 (k0 : Int)) fun v15 =>
      if ¬ v14 = v15 then
        some false
      else
      slices_Equal_int_int_l0' (rest0, k0 + 1, a1)
  partial_fixpoint
def slices_Equal_int_int_l0 (rest0 : (List Int)) (k0 : Nat) (a1 : (List Int)) : Option Bool := slices_Equal_int_int_l0' (rest0, k0, a1)
theorem slices_Equal_int_int_l0_eq (rest0 : (List Int)) (k0 : Nat) (a1 : (List Int)) : slices_Equal_int_int_l0 rest0 k0 a1 =
    match rest0 with
    | [] =>
      some true
    | v14 :: rest0 =>
      bind (geti a1 (k0 : Int)) fun v15 =>
      if ¬ v14 = v15 then
        some false
      else
      slices_Equal_int_int_l0 rest0 (k0 + 1) a1 := slices_Equal_int_int_l0'.eq_def (rest0, k0, a1)

def slices_Equal_int_int (a0 : (List Int)) (a1 : (List Int)) : Option Bool :=
  if ¬ ((intDs_i64 a0).length : Int) = ((intDs_i64 a1).length : Int) then
    some false
  else
  slices_Equal_int_int_l0 a0 0 a1

def hash_Same_1 (a0 : ATypeNode) (a1 : ATypeNode) : Option Bool :=
  if a0.var = a1.var then
    if a0.name = a1.name then
      bind (slices_Equal_int_int a0.args a1.args) fun v3 =>
      some v3
    else
    some false
  else
  some false

def slices_EqualFunc_TypeNode_TypeNode_TypeNode_TypeNode__hash_Same_1_l0' (p : ((List ATypeNode) × Nat × (List ATypeNode))) : Option Bool := match p with
  | (rest0, k0, a1) =>
    match rest0 with
    | [] =>
      some true
    | v18 :: rest0 =>
      bind (geti a1 (k0 : Int)) fun v19 =>
      bind (hash_Same_1 v18 v19) fun v20 =>
      if v20 = true then
        slices_EqualFunc_TypeNode_TypeNode_TypeNode_TypeNode__hash_Same_1_l0' (rest0, k0 + 1, a1)
      else
      some false
  partial_fixpoint
def slices_EqualFunc_TypeNode_TypeNode_TypeNode_TypeNode__hash_Same_1_l0 (rest0 : (List ATypeNode)) (k0 : Nat) (a1 : (List ATypeNode)) : Option Bool := slices_EqualFunc_TypeNode_TypeNode_TypeNode_TypeNode__hash_Same_1_l0' (rest0, k0, a1)
theorem slices_EqualFunc_TypeNode_TypeNode_TypeNode_TypeNode__hash_Same_1_l0_eq (rest0 : (List ATypeNode)) (k0 : Nat) (a1 : (List ATypeNode)) : slices_EqualFunc_TypeNode_TypeNode_TypeNode_TypeNode__hash_Same_1_l0 rest0 k0 a1 =
    match rest0 with
    | [] =>
      some true
    | v18 :: rest0 =>
      bind (geti a1 (k0 : Int)) fun v19 =>
      bind (hash_Same_1 v18 v19) fun v20 =>
      if v20 = true then
        slices_EqualFunc_TypeNode_TypeNode_TypeNode_TypeNode__hash_Same_1_l0 rest0 (k0 + 1) a1
      else
      some false := slices_EqualFunc_TypeNode_TypeNode_TypeNode_TypeNode__hash_Same_1_l0'.eq_def (rest0, k0, a1)

def slices_EqualFunc_TypeNode_TypeNode_TypeNode_TypeNode__hash_Same_1 (a0 : (List ATypeNode)) (a1 : (List ATypeNode)) : Option Bool :=
  if ¬ ((ATypeNode.Ds a0).length : Int) = ((ATypeNode.Ds a1).length : Int) then
    some false
  else
  slices_EqualFunc_TypeNode_TypeNode_TypeNode_TypeNode__hash_Same_1_l0 a0 0 a1

def hash_Same_2 (a0 : ATermNode) (a1 : ATermNode) : Option Bool :=
  if a0.kind = a1.kind then
    if a0.name = a1.name then
      if a0.type_ = a1.type_ then
        if a0.index = a1.index then
          bind (slices_Equal_int_int a0.sub a1.sub) fun v5 =>
          some v5
        else
        some false
      else
      some false
    else
    some false
  else
  some false

def slices_EqualFunc_TermNode_TermNode_TermNode_TermNode__hash_Same_2_l0' (p : ((List ATermNode) × Nat × (List ATermNode))) : Option Bool := match p with
  | (rest0, k0, a1) =>
    match rest0 with
    | [] =>
      some true
    | v18 :: rest0 =>
      bind (geti a1 (k0 : Int)) fun v19 =>
      bind (hash_Same_2 v18 v19) fun v20 =>
      if v20 = true then
        slices_EqualFunc_TermNode_TermNode_TermNode_TermNode__hash_Same_2_l0' (rest0, k0 + 1, a1)
      else
      some false
  partial_fixpoint
def slices_EqualFunc_TermNode_TermNode_TermNode_TermNode__hash_Same_2_l0 (rest0 : (List ATermNode)) (k0 : Nat) (a1 : (List ATermNode)) : Option Bool := slices_EqualFunc_TermNode_TermNode_TermNode_TermNode__hash_Same_2_l0' (rest0, k0, a1)
theorem slices_EqualFunc_TermNode_TermNode_TermNode_TermNode__hash_Same_2_l0_eq (rest0 : (List ATermNode)) (k0 : Nat) (a1 : (List ATermNode)) : slices_EqualFunc_TermNode_TermNode_TermNode_TermNode__hash_Same_2_l0 rest0 k0 a1 =
    match rest0 with
    | [] =>
      some true
    | v18 :: rest0 =>
      bind (geti a1 (k0 : Int)) fun v19 =>
      bind (hash_Same_2 v18 v19) fun v20 =>
      if v20 = true then
        slices_EqualFunc_TermNode_TermNode_TermNode_TermNode__hash_Same_2_l0 rest0 (k0 + 1) a1
      else
      some false := slices_EqualFunc_TermNode_TermNode_TermNode_TermNode__hash_Same_2_l0'.eq_def (rest0, k0, a1)

def slices_EqualFunc_TermNode_TermNode_TermNode_TermNode__hash_Same_2 (a0 : (List ATermNode)) (a1 : (List ATermNode)) : Option Bool :=
  if ¬ ((ATermNode.Ds a0).length : Int) = ((ATermNode.Ds a1).length : Int) then
    some false
  else
  slices_EqualFunc_TermNode_TermNode_TermNode_TermNode__hash_Same_2_l0 a0 0 a1

def hash_Same (a0 : AStore) (a1 : AStore) : Option Bool :=
  bind (slices_EqualFunc_TypeNode_TypeNode_TypeNode_TypeNode__hash_Same_1 a0.types a1.types) fun v1 =>
  if v1 = true then
    bind (slices_EqualFunc_TermNode_TermNode_TermNode_TermNode__hash_Same_2 a0.terms a1.terms) fun v3 =>
    some v3
  else
  some false

def hash_AddType_j0 : Option (AStore × Int × Int) :=
  some ((AStore.mk ([] : List ATypeNode) ([] : List ATermNode)), 0, 4)

def hash_AddType_j0b : Option (AStore × Int × Int) :=
  some ((AStore.mk ([] : List ATypeNode) ([] : List ATermNode)), 0, 8)

def hash_AddType_j0c (a1 : Ty) (v4 : ((List ATypeNode) × (List ATermNode) × (List (HashTypeKey × Int)) × (List (HashTermKey × Int)))) : Option (AStore × Int × Int) :=
  bind (types_Check a1) fun v5 =>
  if ¬ v5 = 0 then
    some ((AStore.mk ([] : List ATypeNode) ([] : List ATermNode)), 0, v5)
  else
  bind (hash_table_addType_io a1 v4.1 v4.2.1 v4.2.2.1 v4.2.2.2) fun v7 =>
  bind (hash_table_done_io v7.1 v7.2.1 v7.2.2.1 v7.2.2.2.1 v7.2.2.2.2) fun v8 =>
  match v8 with
  | .inl v9 =>
    some (v9.1, v9.2.1, v9.2.2.1)
  | .inr v10 =>
    some ((AStore.mk v10.1 v10.2.1), v10.2.2.1, v10.2.2.2.1)

def hash_AddType (a0 : AStore) (a1 : Ty) : Option (AStore × Int × Int) :=
  bind (hash_open_io a0) fun v1 =>
  match v1 with
  | .inl v2 =>
    hash_AddType_j0
  | .inr (.inl v3) =>
    hash_AddType_j0b
  | .inr (.inr v4) =>
    hash_AddType_j0c a1 v4

def hash_GetType_j0 : Option (Ty × Int) :=
  some ((Ty.mk false ByteArray.empty ([] : List Ty)), 4)

def hash_GetType_j0b : Option (Ty × Int) :=
  some ((Ty.mk false ByteArray.empty ([] : List Ty)), 8)

def hash_GetType_j0c (a1 : Int) (v4 : ((List ATypeNode) × (List ATermNode) × (List (HashTypeKey × Int)) × (List (HashTermKey × Int)))) : Option (Ty × Int) :=
  if a1 < 0 then
    some ((Ty.mk false ByteArray.empty ([] : List Ty)), 6)
  else
  if ((ATypeNode.Ds v4.1).length : Int) ≤ a1 then
    some ((Ty.mk false ByteArray.empty ([] : List Ty)), 6)
  else
  bind (hash_table_typ_io a1 v4.1 v4.2.1 v4.2.2.1 v4.2.2.2) fun v7 =>
  some (v7.1, 0)

def hash_GetType (a0 : AStore) (a1 : Int) : Option (Ty × Int) :=
  bind (hash_open_io a0) fun v1 =>
  match v1 with
  | .inl v2 =>
    hash_GetType_j0
  | .inr (.inl v3) =>
    hash_GetType_j0b
  | .inr (.inr v4) =>
    hash_GetType_j0c a1 v4

def sequentlaw31_HashNames_j3 (t1_3 : Bool) : Option Bool :=
  if t1_3 = true then
    bind (hash_Check (AStore.mk ([(ATypeNode.mk false (ByteArray.mk #[98, 111, 111, 108]) ([] : List Int)), (ATypeNode.mk false (ByteArray.mk #[98, 111, 111, 108]) ([] : List Int))]) ([] : List ATermNode))) fun v33 =>
    if v33 = 8 then
      bind (hash_Check (AStore.mk ([(ATypeNode.mk false (ByteArray.mk #[102, 117, 110]) ([0, 0]))]) ([] : List ATermNode))) fun v35 =>
      some (decide (v35 = 8))
    else
    some false
  else
  some false

def sequentlaw31_HashNames_j2 (t1_2 : Bool) (v9 : (AStore × Int × Int)) : Option Bool :=
  bind (hash_Add v9.1 (Tm.mk 0 ByteArray.empty (Ty.mk false ByteArray.empty ([] : List Ty)) 0 ([] : List Tm))) fun v26 =>
  bind (hash_AddType v9.1 (Ty.mk false ByteArray.empty ([] : List Ty))) fun v27 =>
  bind (hash_Get v9.1 2) fun v28 =>
  bind (hash_Get v9.1 0) fun v29 =>
  bind (hash_GetType v9.1 1) fun v30 =>
  bind (hash_Size v9.1 (-1)) fun v31 =>
  if t1_2 = true then
    if v26.2.2 = 20 then
      if v27.2.2 = 10 then
        if v28.2 = 6 then
          if v29.2 = 20 then
            if v30.2 = 6 then
              if v31.2 = 6 then
                sequentlaw31_HashNames_j3 true
              else
              sequentlaw31_HashNames_j3 false
            else
            sequentlaw31_HashNames_j3 false
          else
          sequentlaw31_HashNames_j3 false
        else
        sequentlaw31_HashNames_j3 false
      else
      sequentlaw31_HashNames_j3 false
    else
    sequentlaw31_HashNames_j3 false
  else
  sequentlaw31_HashNames_j3 false

def sequentlaw31_HashNames_j1 (t1_0 : Bool) (v9 : (AStore × Int × Int)) (v11 : (AStore × Int × Int)) : Option Bool :=
  bind (sequentlaw31_lambda (ByteArray.mk #[122])) fun v12 =>
  bind (hash_Find v11.1 v12) fun v13 =>
  if t1_0 = true then
    if v9.2.2 = 0 then
      if v11.2.2 = 0 then
        if v13.2.2 = 0 then
          if v9.2.1 = 1 then
            if v11.2.1 = 1 then
              if v13.2.1 = true then
                if v13.1 = 1 then
                  bind (hash_Same v9.1 v11.1) fun v22 =>
                  if v22 = true then
                    if ((ATermNode.Ds v9.1.terms).length : Int) = 2 then
                      bind (geti v9.1.terms 1) fun v25 =>
                      if v25.name = (ByteArray.mk #[120]) then
                        sequentlaw31_HashNames_j2 true v9
                      else
                      sequentlaw31_HashNames_j2 false v9
                    else
                    sequentlaw31_HashNames_j2 false v9
                  else
                  sequentlaw31_HashNames_j2 false v9
                else
                sequentlaw31_HashNames_j2 false v9
              else
              sequentlaw31_HashNames_j2 false v9
            else
            sequentlaw31_HashNames_j2 false v9
          else
          sequentlaw31_HashNames_j2 false v9
        else
        sequentlaw31_HashNames_j2 false v9
      else
      sequentlaw31_HashNames_j2 false v9
    else
    sequentlaw31_HashNames_j2 false v9
  else
  sequentlaw31_HashNames_j2 false v9

def sequentlaw31_HashNames_j0 (t1_0 : Bool) : Option Bool :=
  bind (sequentlaw31_lambda (ByteArray.mk #[120])) fun v8 =>
  bind (hash_Add (AStore.mk ([] : List ATypeNode) ([] : List ATermNode)) v8) fun v9 =>
  bind (sequentlaw31_lambda (ByteArray.mk #[121])) fun v10 =>
  bind (hash_Add v9.1 v10) fun v11 =>
  sequentlaw31_HashNames_j1 t1_0 v9 v11

def sequentlaw31_HashNames : Option Bool :=
  bind (sequentlaw31_alive) fun v1 =>
  if v1 = true then
    bind (hash_Check (AStore.mk ([] : List ATypeNode) ([] : List ATermNode))) fun v3 =>
    if v3 = 0 then
      bind (hash_Check (AStore.mk ([] : List ATypeNode) (List.replicate 4097 (ATermNode.mk 0 ByteArray.empty 0 0 [])))) fun v5 =>
      if v5 = 4 then
        bind (hash_Check (AStore.mk ([] : List ATypeNode) (List.replicate 1 (ATermNode.mk 0 ByteArray.empty 0 0 [])))) fun v7 =>
        if v7 = 8 then
          sequentlaw31_HashNames_j0 true
        else
        sequentlaw31_HashNames_j0 false
      else
      sequentlaw31_HashNames_j0 false
    else
    sequentlaw31_HashNames_j0 false
  else
  sequentlaw31_HashNames_j0 false

end Go.Proofs.Ytpgecpmonaldiaa.Fw
