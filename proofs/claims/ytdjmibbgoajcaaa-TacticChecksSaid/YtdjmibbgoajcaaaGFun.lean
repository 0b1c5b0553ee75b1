/- Functions. -/
import Derived.Test.YtdjmibbgoajcaaaGData
set_option autoImplicit false
set_option linter.unusedVariables false
set_option linter.unusedSimpArgs false
namespace Go.Proofs.Ytdjmibbgoajcaaa.Fw
open Go Go.Proofs
mutual
def sequentref01_count' (p : (Ty × Int × Int)) : Option Int := match p with
  | (a0, a1, a2) =>
    if a2 = 0 then
      some 0
    else
    bind (some (IntKind.wrap .i64 (a1 - 1))) fun v2 =>
    bind (some (IntKind.wrap .i64 (Int.tdiv (a0.name.size : Int) 100))) fun v3 =>
    bind (some (IntKind.wrap .i64 (v2 - v3))) fun v4 =>
    sequentref01_count_l0' (a0.args, v4, a2)
  partial_fixpoint
def sequentref01_count_l0' (p : ((List Ty) × Int × Int)) : Option Int := match p with
  | (rest0, t1_0, a2) =>
    match rest0 with
    | [] =>
      some t1_0
    | v8 :: rest0 =>
      if 0 < t1_0 then
        bind (some (IntKind.wrap .i64 (a2 - 1))) fun v10 =>
        bind (sequentref01_count' (v8, t1_0, v10)) fun v11 =>
        sequentref01_count_l0' (rest0, v11, a2)
      else
      some t1_0
  partial_fixpoint
end
def sequentref01_count (a0 : Ty) (a1 : Int) (a2 : Int) : Option Int := sequentref01_count' (a0, a1, a2)
def sequentref01_count_l0 (rest0 : (List Ty)) (t1_0 : Int) (a2 : Int) : Option Int := sequentref01_count_l0' (rest0, t1_0, a2)
theorem sequentref01_count_eq (a0 : Ty) (a1 : Int) (a2 : Int) : sequentref01_count a0 a1 a2 =
    if a2 = 0 then
      some 0
    else
    bind (some (IntKind.wrap .i64 (a1 - 1))) fun v2 =>
    bind (some (IntKind.wrap .i64 (Int.tdiv (a0.name.size : Int) 100))) fun v3 =>
    bind (some (IntKind.wrap .i64 (v2 - v3))) fun v4 =>
    sequentref01_count_l0 a0.args v4 a2 := sequentref01_count'.eq_def (a0, a1, a2)
theorem sequentref01_count_l0_eq (rest0 : (List Ty)) (t1_0 : Int) (a2 : Int) : sequentref01_count_l0 rest0 t1_0 a2 =
    match rest0 with
    | [] =>
      some t1_0
    | v8 :: rest0 =>
      if 0 < t1_0 then
        bind (some (IntKind.wrap .i64 (a2 - 1))) fun v10 =>
        bind (sequentref01_count v8 t1_0 v10) fun v11 =>
        sequentref01_count_l0 rest0 v11 a2
      else
      some t1_0 := sequentref01_count_l0'.eq_def (rest0, t1_0, a2)
def sequentref01_Great (a0 : Ty) : Option Bool :=
  bind (sequentref01_count a0 1500 500) fun v1 =>
  some (decide (v1 ≤ 0))
mutual
def sequentref02_count' (p : (Tm × Int × Int)) : Option Int := match p with
  | (a0, a1, a2) =>
    if a2 = 0 then
      some 0
    else
    bind (sequentref01_Great a0.ty) fun v2 =>
    if v2 = true then
      some 0
    else
    bind (some (IntKind.wrap .i64 (a1 - 1))) fun v4 =>
    bind (some (IntKind.wrap .i64 (Int.tdiv (a0.name.size : Int) 100))) fun v5 =>
    bind (some (IntKind.wrap .i64 (v4 - v5))) fun v6 =>
    sequentref02_count_l0' (a0.sub, v6, a2)
  partial_fixpoint
def sequentref02_count_l0' (p : ((List Tm) × Int × Int)) : Option Int := match p with
  | (rest0, t1_0, a2) =>
    match rest0 with
    | [] =>
      some t1_0
    | v8 :: rest0 =>
      if 0 < t1_0 then
        bind (some (IntKind.wrap .i64 (a2 - 1))) fun v10 =>
        bind (sequentref02_count' (v8, t1_0, v10)) fun v11 =>
        sequentref02_count_l0' (rest0, v11, a2)
      else
      some t1_0
  partial_fixpoint
end
def sequentref02_count (a0 : Tm) (a1 : Int) (a2 : Int) : Option Int := sequentref02_count' (a0, a1, a2)
def sequentref02_count_l0 (rest0 : (List Tm)) (t1_0 : Int) (a2 : Int) : Option Int := sequentref02_count_l0' (rest0, t1_0, a2)
theorem sequentref02_count_eq (a0 : Tm) (a1 : Int) (a2 : Int) : sequentref02_count a0 a1 a2 =
    if a2 = 0 then
      some 0
    else
    bind (sequentref01_Great a0.ty) fun v2 =>
    if v2 = true then
      some 0
    else
    bind (some (IntKind.wrap .i64 (a1 - 1))) fun v4 =>
    bind (some (IntKind.wrap .i64 (Int.tdiv (a0.name.size : Int) 100))) fun v5 =>
    bind (some (IntKind.wrap .i64 (v4 - v5))) fun v6 =>
    sequentref02_count_l0 a0.sub v6 a2 := sequentref02_count'.eq_def (a0, a1, a2)
theorem sequentref02_count_l0_eq (rest0 : (List Tm)) (t1_0 : Int) (a2 : Int) : sequentref02_count_l0 rest0 t1_0 a2 =
    match rest0 with
    | [] =>
      some t1_0
    | v8 :: rest0 =>
      if 0 < t1_0 then
        bind (some (IntKind.wrap .i64 (a2 - 1))) fun v10 =>
        bind (sequentref02_count v8 t1_0 v10) fun v11 =>
        sequentref02_count_l0 rest0 v11 a2
      else
      some t1_0 := sequentref02_count_l0'.eq_def (rest0, t1_0, a2)
mutual
def sequentref02_Size' (a0 : Tm) : Option Int :=
  sequentref02_Size_l0' (a0.sub, 1)
  partial_fixpoint
def sequentref02_Size_l0' (p : ((List Tm) × Int)) : Option Int := match p with
  | (rest0, t3_0) =>
    match rest0 with
    | [] =>
      some t3_0
    | v5 :: rest0 =>
      bind (sequentref02_Size' v5) fun v6 =>
      bind (some (IntKind.wrap .i64 (t3_0 + v6))) fun v7 =>
      sequentref02_Size_l0' (rest0, v7)
  partial_fixpoint
end
def sequentref02_Size (a0 : Tm) : Option Int := sequentref02_Size' a0
def sequentref02_Size_l0 (rest0 : (List Tm)) (t3_0 : Int) : Option Int := sequentref02_Size_l0' (rest0, t3_0)
theorem sequentref02_Size_eq (a0 : Tm) : sequentref02_Size a0 =
    sequentref02_Size_l0 a0.sub 1 := sequentref02_Size'.eq_def a0
theorem sequentref02_Size_l0_eq (rest0 : (List Tm)) (t3_0 : Int) : sequentref02_Size_l0 rest0 t3_0 =
    match rest0 with
    | [] =>
      some t3_0
    | v5 :: rest0 =>
      bind (sequentref02_Size v5) fun v6 =>
      bind (some (IntKind.wrap .i64 (t3_0 + v6))) fun v7 =>
      sequentref02_Size_l0 rest0 v7 := sequentref02_Size_l0'.eq_def (rest0, t3_0)
mutual
def sequentref02_Depth' (a0 : Tm) : Option Int :=
  sequentref02_Depth_l0' (a0.sub, 0)
  partial_fixpoint
def sequentref02_Depth_l0' (p : ((List Tm) × Int)) : Option Int := match p with
  | (rest0, t3_0) =>
    match rest0 with
    | [] =>
      bind (some (IntKind.wrap .i64 (1 + t3_0))) fun v6 =>
      some v6
    | v5 :: rest0 =>
      bind (sequentref02_Depth' v5) fun v6 =>
      sequentref02_Depth_l0' (rest0, (max t3_0 v6))
  partial_fixpoint
end
def sequentref02_Depth (a0 : Tm) : Option Int := sequentref02_Depth' a0
def sequentref02_Depth_l0 (rest0 : (List Tm)) (t3_0 : Int) : Option Int := sequentref02_Depth_l0' (rest0, t3_0)
theorem sequentref02_Depth_eq (a0 : Tm) : sequentref02_Depth a0 =
    sequentref02_Depth_l0 a0.sub 0 := sequentref02_Depth'.eq_def a0
theorem sequentref02_Depth_l0_eq (rest0 : (List Tm)) (t3_0 : Int) : sequentref02_Depth_l0 rest0 t3_0 =
    match rest0 with
    | [] =>
      bind (some (IntKind.wrap .i64 (1 + t3_0))) fun v6 =>
      some v6
    | v5 :: rest0 =>
      bind (sequentref02_Depth v5) fun v6 =>
      sequentref02_Depth_l0 rest0 (max t3_0 v6) := sequentref02_Depth_l0'.eq_def (rest0, t3_0)
def sequentref02_Small (a0 : Tm) : Option Bool :=
  bind (sequentref02_Size a0) fun v1 =>
  if v1 ≤ 32000 then
    bind (sequentref02_Depth a0) fun v3 =>
    some (decide (v3 ≤ 300))
  else
  some false
def sequentref02_Great (a0 : Tm) : Option Bool :=
  bind (sequentref02_count a0 2000 400) fun v1 =>
  if 0 < v1 then
    some false
  else
  bind (sequentref02_count a0 40000 400) fun v3 =>
  if v3 ≤ 0 then
    some true
  else
  bind (sequentref02_Small a0) fun v5 =>
  some v5
mutual
def sequentref29_count' (p : (ATactic × Int × Int)) : Option Int := match p with
  | (a0, a1, a2) =>
    bind (some (IntKind.wrap .i64 (a1 - 1))) fun v1 =>
    if v1 < 0 then
      some (-1)
    else
    if a2 ≤ 0 then
      some (-1)
    else
    bind (sequentref02_Great a0.term) fun v4 =>
    if v4 = true then
      some (-1)
    else
    sequentref29_count_l0' (a0.kids, v1, a2)
  partial_fixpoint
def sequentref29_count_l0' (p : ((List ATactic) × Int × Int)) : Option Int := match p with
  | (rest0, t1_0, a2) =>
    match rest0 with
    | [] =>
      some t1_0
    | v8 :: rest0 =>
      if 0 ≤ t1_0 then
        bind (some (IntKind.wrap .i64 (a2 - 1))) fun v10 =>
        bind (sequentref29_count' (v8, t1_0, v10)) fun v11 =>
        sequentref29_count_l0' (rest0, v11, a2)
      else
      some t1_0
  partial_fixpoint
end
def sequentref29_count (a0 : ATactic) (a1 : Int) (a2 : Int) : Option Int := sequentref29_count' (a0, a1, a2)
def sequentref29_count_l0 (rest0 : (List ATactic)) (t1_0 : Int) (a2 : Int) : Option Int := sequentref29_count_l0' (rest0, t1_0, a2)
theorem sequentref29_count_eq (a0 : ATactic) (a1 : Int) (a2 : Int) : sequentref29_count a0 a1 a2 =
    bind (some (IntKind.wrap .i64 (a1 - 1))) fun v1 =>
    if v1 < 0 then
      some (-1)
    else
    if a2 ≤ 0 then
      some (-1)
    else
    bind (sequentref02_Great a0.term) fun v4 =>
    if v4 = true then
      some (-1)
    else
    sequentref29_count_l0 a0.kids v1 a2 := sequentref29_count'.eq_def (a0, a1, a2)
theorem sequentref29_count_l0_eq (rest0 : (List ATactic)) (t1_0 : Int) (a2 : Int) : sequentref29_count_l0 rest0 t1_0 a2 =
    match rest0 with
    | [] =>
      some t1_0
    | v8 :: rest0 =>
      if 0 ≤ t1_0 then
        bind (some (IntKind.wrap .i64 (a2 - 1))) fun v10 =>
        bind (sequentref29_count v8 t1_0 v10) fun v11 =>
        sequentref29_count_l0 rest0 v11 a2
      else
      some t1_0 := sequentref29_count_l0'.eq_def (rest0, t1_0, a2)
def sequentref29_Great (a0 : ATactic) : Option Bool :=
  bind (sequentref29_count a0 400 60) fun v1 =>
  some (decide (v1 < 0))
mutual
def sequentref01_Twin' (a0 : Ty) : Option Ty :=
  sequentref01_Twin_l0' (a0.args, ([] : List Ty), a0)
  partial_fixpoint
def sequentref01_Twin_l0' (p : ((List Ty) × (List Ty) × Ty)) : Option Ty := match p with
  | (rest0, c2_2_0, a0) =>
    match rest0 with
    | [] =>
      some (Ty.mk a0.v a0.name c2_2_0)
    | v6 :: rest0 =>
      bind (sequentref01_Twin' v6) fun v7 =>
      bind (app c2_2_0 ([v7])) fun v8 =>
      sequentref01_Twin_l0' (rest0, v8, a0)
  partial_fixpoint
end
def sequentref01_Twin (a0 : Ty) : Option Ty := sequentref01_Twin' a0
def sequentref01_Twin_l0 (rest0 : (List Ty)) (c2_2_0 : (List Ty)) (a0 : Ty) : Option Ty := sequentref01_Twin_l0' (rest0, c2_2_0, a0)
theorem sequentref01_Twin_eq (a0 : Ty) : sequentref01_Twin a0 =
    sequentref01_Twin_l0 a0.args ([] : List Ty) a0 := sequentref01_Twin'.eq_def a0
theorem sequentref01_Twin_l0_eq (rest0 : (List Ty)) (c2_2_0 : (List Ty)) (a0 : Ty) : sequentref01_Twin_l0 rest0 c2_2_0 a0 =
    match rest0 with
    | [] =>
      some (Ty.mk a0.v a0.name c2_2_0)
    | v6 :: rest0 =>
      bind (sequentref01_Twin v6) fun v7 =>
      bind (app c2_2_0 ([v7])) fun v8 =>
      sequentref01_Twin_l0 rest0 v8 a0 := sequentref01_Twin_l0'.eq_def (rest0, c2_2_0, a0)
mutual
def sequentref02_Twin' (a0 : Tm) : Option Tm :=
  bind (sequentref01_Twin a0.ty) fun v1 =>
  sequentref02_Twin_j0' (a0, v1)
  partial_fixpoint
def sequentref02_Twin_j0' (p : (Tm × Ty)) : Option Tm := match p with
  | (a0, v1) =>
    sequentref02_Twin_l0' (a0.sub, ([] : List Tm), a0, v1)
  partial_fixpoint
def sequentref02_Twin_l0' (p : ((List Tm) × (List Tm) × Tm × Ty)) : Option Tm := match p with
  | (rest0, c2_6_0, a0, v1) =>
    match rest0 with
    | [] =>
      some (Tm.mk a0.kind a0.name v1 a0.index c2_6_0)
    | v7 :: rest0 =>
      bind (sequentref02_Twin' v7) fun v8 =>
      bind (app c2_6_0 ([v8])) fun v9 =>
      sequentref02_Twin_l0' (rest0, v9, a0, v1)
  partial_fixpoint
end
def sequentref02_Twin (a0 : Tm) : Option Tm := sequentref02_Twin' a0
def sequentref02_Twin_j0 (a0 : Tm) (v1 : Ty) : Option Tm := sequentref02_Twin_j0' (a0, v1)
def sequentref02_Twin_l0 (rest0 : (List Tm)) (c2_6_0 : (List Tm)) (a0 : Tm) (v1 : Ty) : Option Tm := sequentref02_Twin_l0' (rest0, c2_6_0, a0, v1)
theorem sequentref02_Twin_eq (a0 : Tm) : sequentref02_Twin a0 =
    bind (sequentref01_Twin a0.ty) fun v1 =>
    sequentref02_Twin_j0 a0 v1 := sequentref02_Twin'.eq_def a0
theorem sequentref02_Twin_j0_eq (a0 : Tm) (v1 : Ty) : sequentref02_Twin_j0 a0 v1 =
    sequentref02_Twin_l0 a0.sub ([] : List Tm) a0 v1 := sequentref02_Twin_j0'.eq_def (a0, v1)
theorem sequentref02_Twin_l0_eq (rest0 : (List Tm)) (c2_6_0 : (List Tm)) (a0 : Tm) (v1 : Ty) : sequentref02_Twin_l0 rest0 c2_6_0 a0 v1 =
    match rest0 with
    | [] =>
      some (Tm.mk a0.kind a0.name v1 a0.index c2_6_0)
    | v7 :: rest0 =>
      bind (sequentref02_Twin v7) fun v8 =>
      bind (app c2_6_0 ([v8])) fun v9 =>
      sequentref02_Twin_l0 rest0 v9 a0 v1 := sequentref02_Twin_l0'.eq_def (rest0, c2_6_0, a0, v1)
mutual
def sequentref29_Twin' (a0 : ATactic) : Option ATactic :=
  bind (sequentref02_Twin a0.term) fun v1 =>
  sequentref29_Twin_j0' (a0, v1)
  partial_fixpoint
def sequentref29_Twin_j0' (p : (ATactic × Tm)) : Option ATactic := match p with
  | (a0, v1) =>
    sequentref29_Twin_l0' (a0.kids, ([] : List ATactic), a0, v1)
  partial_fixpoint
def sequentref29_Twin_l0' (p : ((List ATactic) × (List ATactic) × ATactic × Tm)) : Option ATactic := match p with
  | (rest0, c2_10_0, a0, v1) =>
    match rest0 with
    | [] =>
      some (ATactic.mk a0.kind a0.at_ a0.to_ v1 c2_10_0)
    | v11 :: rest0 =>
      bind (sequentref29_Twin' v11) fun v12 =>
      bind (app c2_10_0 ([v12])) fun v13 =>
      sequentref29_Twin_l0' (rest0, v13, a0, v1)
  partial_fixpoint
end
def sequentref29_Twin (a0 : ATactic) : Option ATactic := sequentref29_Twin' a0
def sequentref29_Twin_j0 (a0 : ATactic) (v1 : Tm) : Option ATactic := sequentref29_Twin_j0' (a0, v1)
def sequentref29_Twin_l0 (rest0 : (List ATactic)) (c2_10_0 : (List ATactic)) (a0 : ATactic) (v1 : Tm) : Option ATactic := sequentref29_Twin_l0' (rest0, c2_10_0, a0, v1)
theorem sequentref29_Twin_eq (a0 : ATactic) : sequentref29_Twin a0 =
    bind (sequentref02_Twin a0.term) fun v1 =>
    sequentref29_Twin_j0 a0 v1 := sequentref29_Twin'.eq_def a0
theorem sequentref29_Twin_j0_eq (a0 : ATactic) (v1 : Tm) : sequentref29_Twin_j0 a0 v1 =
    sequentref29_Twin_l0 a0.kids ([] : List ATactic) a0 v1 := sequentref29_Twin_j0'.eq_def (a0, v1)
theorem sequentref29_Twin_l0_eq (rest0 : (List ATactic)) (c2_10_0 : (List ATactic)) (a0 : ATactic) (v1 : Tm) : sequentref29_Twin_l0 rest0 c2_10_0 a0 v1 =
    match rest0 with
    | [] =>
      some (ATactic.mk a0.kind a0.at_ a0.to_ v1 c2_10_0)
    | v11 :: rest0 =>
      bind (sequentref29_Twin v11) fun v12 =>
      bind (app c2_10_0 ([v12])) fun v13 =>
      sequentref29_Twin_l0 rest0 v13 a0 v1 := sequentref29_Twin_l0'.eq_def (rest0, c2_10_0, a0, v1)
def tactic_forms_l1' (p : ((List Int) × (List (Int × TacticForm)))) : Option (Option (List (Int × TacticForm))) := match p with
  | (rest1, m0_1) =>
    match rest1 with
    | [] =>
      bind (some (mput m0_1 13 (TacticForm.mk false false true 0 0))) fun v17 =>
      bind (some (mput v17 18 (TacticForm.mk false false true 0 0))) fun v18 =>
      bind (some (mput v18 23 (TacticForm.mk true false true 0 0))) fun v19 =>
      bind (some (mput v19 24 (TacticForm.mk true true false 0 0))) fun v20 =>
      bind (some (mput v20 50 (TacticForm.mk false false false 2 2))) fun v21 =>
      bind (some (mput v21 52 (TacticForm.mk false false false 2 2))) fun v22 =>
      bind (some (mput v22 53 (TacticForm.mk false false false 1 1))) fun v23 =>
      bind (some (mput v23 54 (TacticForm.mk false false false 1 1))) fun v24 =>
      bind (some (mput v24 51 (TacticForm.mk false false false 1 65))) fun v25 =>
      some (some v25)
    | v16 :: rest1 =>
      bind (some (mput m0_1 v16 (TacticForm.mk true false false 0 0))) fun v17 =>
      tactic_forms_l1' (rest1, v17)
  partial_fixpoint
def tactic_forms_l1 (rest1 : (List Int)) (m0_1 : (List (Int × TacticForm))) : Option (Option (List (Int × TacticForm))) := tactic_forms_l1' (rest1, m0_1)
theorem tactic_forms_l1_eq (rest1 : (List Int)) (m0_1 : (List (Int × TacticForm))) : tactic_forms_l1 rest1 m0_1 =
    match rest1 with
    | [] =>
      bind (some (mput m0_1 13 (TacticForm.mk false false true 0 0))) fun v17 =>
      bind (some (mput v17 18 (TacticForm.mk false false true 0 0))) fun v18 =>
      bind (some (mput v18 23 (TacticForm.mk true false true 0 0))) fun v19 =>
      bind (some (mput v19 24 (TacticForm.mk true true false 0 0))) fun v20 =>
      bind (some (mput v20 50 (TacticForm.mk false false false 2 2))) fun v21 =>
      bind (some (mput v21 52 (TacticForm.mk false false false 2 2))) fun v22 =>
      bind (some (mput v22 53 (TacticForm.mk false false false 1 1))) fun v23 =>
      bind (some (mput v23 54 (TacticForm.mk false false false 1 1))) fun v24 =>
      bind (some (mput v24 51 (TacticForm.mk false false false 1 65))) fun v25 =>
      some (some v25)
    | v16 :: rest1 =>
      bind (some (mput m0_1 v16 (TacticForm.mk true false false 0 0))) fun v17 =>
      tactic_forms_l1 rest1 v17 := tactic_forms_l1'.eq_def (rest1, m0_1)
def tactic_forms_l0' (p : (Int × (List (Int × TacticForm)))) : Option (Option (List (Int × TacticForm))) := match p with
  | (t2_0, m0_0) =>
    if t2_0 ≤ 24 then
      bind (some (mput m0_0 t2_0 (TacticForm.mk false false false 0 0))) fun v4 =>
      bind (some (IntKind.wrap .u8 (t2_0 + 1))) fun v5 =>
      tactic_forms_l0' (v5, v4)
    else
    tactic_forms_l1 ([6, 19, 20, 21, 22]) m0_0
  partial_fixpoint
def tactic_forms_l0 (t2_0 : Int) (m0_0 : (List (Int × TacticForm))) : Option (Option (List (Int × TacticForm))) := tactic_forms_l0' (t2_0, m0_0)
theorem tactic_forms_l0_eq (t2_0 : Int) (m0_0 : (List (Int × TacticForm))) : tactic_forms_l0 t2_0 m0_0 =
    if t2_0 ≤ 24 then
      bind (some (mput m0_0 t2_0 (TacticForm.mk false false false 0 0))) fun v4 =>
      bind (some (IntKind.wrap .u8 (t2_0 + 1))) fun v5 =>
      tactic_forms_l0 v5 v4
    else
    tactic_forms_l1 ([6, 19, 20, 21, 22]) m0_0 := tactic_forms_l0'.eq_def (t2_0, m0_0)
def tactic_forms : Option (Option (List (Int × TacticForm))) :=
  tactic_forms_l0 1 ([] : List (Int × TacticForm))
def cmp_isNaN_uint8 (a0 : Int) : Option Bool :=
  some (decide (¬ a0 = a0))
def cmp_Compare_uint8 (a0 : Int) (a1 : Int) : Option Int :=
  bind (cmp_isNaN_uint8 a0) fun v1 =>
  bind (cmp_isNaN_uint8 a1) fun v2 =>
  if v1 = true then
    if v2 = true then
      some 0
    else
    some (-1)
  else
  if v2 = true then
    some 1
  else
  if a0 < a1 then
    some (-1)
  else
  if a1 < a0 then
    some 1
  else
  some 0
def bytealg_CompareString (a0 : ByteArray) (a1 : ByteArray) : Option Int :=
  bind (cmpstr a0 a1) fun v1 =>
  some v1
def strings_Compare (a0 : ByteArray) (a1 : ByteArray) : Option Int :=
  bind (bytealg_CompareString a0 a1) fun v1 =>
  some v1
def types_rank (a0 : Ty) : Option Int :=
  if a0.v = true then
    some 0
  else
  some 1
def cmp_isNaN_int (a0 : Int) : Option Bool :=
  some (decide (¬ a0 = a0))
def cmp_Compare_int (a0 : Int) (a1 : Int) : Option Int :=
  bind (cmp_isNaN_int a0) fun v1 =>
  bind (cmp_isNaN_int a1) fun v2 =>
  if v1 = true then
    if v2 = true then
      some 0
    else
    some (-1)
  else
  if v2 = true then
    some 1
  else
  if a0 < a1 then
    some (-1)
  else
  if a1 < a0 then
    some 1
  else
  some 0
def cmp_Or_int_l0' (rest0 : (List Int)) : Option Int :=
  match rest0 with
  | [] =>
    some 0
  | v9 :: rest0 =>
    if ¬ v9 = 0 then
      some v9
    else
    cmp_Or_int_l0' rest0
  partial_fixpoint
def cmp_Or_int_l0 (rest0 : (List Int)) : Option Int := cmp_Or_int_l0' rest0
theorem cmp_Or_int_l0_eq (rest0 : (List Int)) : cmp_Or_int_l0 rest0 =
    match rest0 with
    | [] =>
      some 0
    | v9 :: rest0 =>
      if ¬ v9 = 0 then
        some v9
      else
      cmp_Or_int_l0 rest0 := cmp_Or_int_l0'.eq_def rest0
def cmp_Or_int (a0 : (List Int)) : Option Int :=
  cmp_Or_int_l0 a0
mutual
def slices_CompareFunc_Type_Type_Type_Type__types_Compare' (p : ((List Ty) × (List Ty))) : Option Int := match p with
  | (a0, a1) =>
    slices_CompareFunc_Type_Type_Type_Type__types_Compare_l0' (a0, 0, a0, a1)
  partial_fixpoint
def slices_CompareFunc_Type_Type_Type_Type__types_Compare_l0' (p : ((List Ty) × Nat × (List Ty) × (List Ty))) : Option Int := match p with
  | (rest0, k0, a0, a1) =>
    match rest0 with
    | [] =>
      if ((Ty.Ds a0).length : Int) < ((Ty.Ds a1).length : Int) then
        some (-1)
      else
      some 0
    | v14 :: rest0 =>
      if ((Ty.Ds a1).length : Int) ≤ (k0 : Int) then
        some 1
      else
      bind (geti a1 (k0 : Int)) fun v16 =>
      bind (types_Compare' (v14, v16)) fun v17 =>
      if ¬ v17 = 0 then
        some v17
      else
      slices_CompareFunc_Type_Type_Type_Type__types_Compare_l0' (rest0, k0 + 1, a0, a1)
  partial_fixpoint
def types_Compare' (p : (Ty × Ty)) : Option Int := match p with
  | (a0, a1) =>
    bind (types_rank a0) fun v1 =>
    bind (types_rank a1) fun v2 =>
    bind (cmp_Compare_int v1 v2) fun v3 =>
    bind (strings_Compare a0.name a1.name) fun v4 =>
    bind (cmp_Compare_int ((Ty.Ds a0.args).length : Int) ((Ty.Ds a1.args).length : Int)) fun v5 =>
    bind (cmp_Or_int ([v3, v4, v5])) fun v6 =>
    if ¬ v6 = 0 then
      some v6
    else
    bind (slices_CompareFunc_Type_Type_Type_Type__types_Compare' (a0.args, a1.args)) fun v8 =>
    some v8
  partial_fixpoint
end
def slices_CompareFunc_Type_Type_Type_Type__types_Compare (a0 : (List Ty)) (a1 : (List Ty)) : Option Int := slices_CompareFunc_Type_Type_Type_Type__types_Compare' (a0, a1)
def slices_CompareFunc_Type_Type_Type_Type__types_Compare_l0 (rest0 : (List Ty)) (k0 : Nat) (a0 : (List Ty)) (a1 : (List Ty)) : Option Int := slices_CompareFunc_Type_Type_Type_Type__types_Compare_l0' (rest0, k0, a0, a1)
def types_Compare (a0 : Ty) (a1 : Ty) : Option Int := types_Compare' (a0, a1)
theorem slices_CompareFunc_Type_Type_Type_Type__types_Compare_eq (a0 : (List Ty)) (a1 : (List Ty)) : slices_CompareFunc_Type_Type_Type_Type__types_Compare a0 a1 =
    slices_CompareFunc_Type_Type_Type_Type__types_Compare_l0 a0 0 a0 a1 := slices_CompareFunc_Type_Type_Type_Type__types_Compare'.eq_def (a0, a1)
theorem slices_CompareFunc_Type_Type_Type_Type__types_Compare_l0_eq (rest0 : (List Ty)) (k0 : Nat) (a0 : (List Ty)) (a1 : (List Ty)) : slices_CompareFunc_Type_Type_Type_Type__types_Compare_l0 rest0 k0 a0 a1 =
    match rest0 with
    | [] =>
      if ((Ty.Ds a0).length : Int) < ((Ty.Ds a1).length : Int) then
        some (-1)
      else
      some 0
    | v14 :: rest0 =>
      if ((Ty.Ds a1).length : Int) ≤ (k0 : Int) then
        some 1
      else
      bind (geti a1 (k0 : Int)) fun v16 =>
      bind (types_Compare v14 v16) fun v17 =>
      if ¬ v17 = 0 then
        some v17
      else
      slices_CompareFunc_Type_Type_Type_Type__types_Compare_l0 rest0 (k0 + 1) a0 a1 := slices_CompareFunc_Type_Type_Type_Type__types_Compare_l0'.eq_def (rest0, k0, a0, a1)
theorem types_Compare_eq (a0 : Ty) (a1 : Ty) : types_Compare a0 a1 =
    bind (types_rank a0) fun v1 =>
    bind (types_rank a1) fun v2 =>
    bind (cmp_Compare_int v1 v2) fun v3 =>
    bind (strings_Compare a0.name a1.name) fun v4 =>
    bind (cmp_Compare_int ((Ty.Ds a0.args).length : Int) ((Ty.Ds a1.args).length : Int)) fun v5 =>
    bind (cmp_Or_int ([v3, v4, v5])) fun v6 =>
    if ¬ v6 = 0 then
      some v6
    else
    bind (slices_CompareFunc_Type_Type_Type_Type__types_Compare a0.args a1.args) fun v8 =>
    some v8 := types_Compare'.eq_def (a0, a1)
mutual
def slices_CompareFunc_Term_Term_Term_Term__terms_Compare' (p : ((List Tm) × (List Tm))) : Option Int := match p with
  | (a0, a1) =>
    slices_CompareFunc_Term_Term_Term_Term__terms_Compare_l0' (a0, 0, a0, a1)
  partial_fixpoint
def slices_CompareFunc_Term_Term_Term_Term__terms_Compare_l0' (p : ((List Tm) × Nat × (List Tm) × (List Tm))) : Option Int := match p with
  | (rest0, k0, a0, a1) =>
    match rest0 with
    | [] =>
      if ((Tm.Ds a0).length : Int) < ((Tm.Ds a1).length : Int) then
        some (-1)
      else
      some 0
    | v14 :: rest0 =>
      if ((Tm.Ds a1).length : Int) ≤ (k0 : Int) then
        some 1
      else
      bind (geti a1 (k0 : Int)) fun v16 =>
      bind (terms_Compare' (v14, v16)) fun v17 =>
      if ¬ v17 = 0 then
        some v17
      else
      slices_CompareFunc_Term_Term_Term_Term__terms_Compare_l0' (rest0, k0 + 1, a0, a1)
  partial_fixpoint
def terms_Compare' (p : (Tm × Tm)) : Option Int := match p with
  | (a0, a1) =>
    bind (cmp_Compare_uint8 a0.kind a1.kind) fun v1 =>
    if ¬ v1 = 0 then
      some v1
    else
    bind (strings_Compare a0.name a1.name) fun v3 =>
    if ¬ v3 = 0 then
      if ¬ a0.kind = 5 then
        some v3
      else
      terms_Compare_j0' (a0, a1)
    else
    terms_Compare_j0' (a0, a1)
  partial_fixpoint
def terms_Compare_j0' (p : (Tm × Tm)) : Option Int := match p with
  | (a0, a1) =>
    bind (types_Compare a0.ty a1.ty) fun v4 =>
    bind (cmp_Compare_int a0.index a1.index) fun v5 =>
    bind (cmp_Compare_int ((Tm.Ds a0.sub).length : Int) ((Tm.Ds a1.sub).length : Int)) fun v6 =>
    bind (cmp_Or_int ([v4, v5, v6])) fun v7 =>
    if ¬ v7 = 0 then
      some v7
    else
    bind (slices_CompareFunc_Term_Term_Term_Term__terms_Compare' (a0.sub, a1.sub)) fun v9 =>
    some v9
  partial_fixpoint
end
def slices_CompareFunc_Term_Term_Term_Term__terms_Compare (a0 : (List Tm)) (a1 : (List Tm)) : Option Int := slices_CompareFunc_Term_Term_Term_Term__terms_Compare' (a0, a1)
def slices_CompareFunc_Term_Term_Term_Term__terms_Compare_l0 (rest0 : (List Tm)) (k0 : Nat) (a0 : (List Tm)) (a1 : (List Tm)) : Option Int := slices_CompareFunc_Term_Term_Term_Term__terms_Compare_l0' (rest0, k0, a0, a1)
def terms_Compare (a0 : Tm) (a1 : Tm) : Option Int := terms_Compare' (a0, a1)
def terms_Compare_j0 (a0 : Tm) (a1 : Tm) : Option Int := terms_Compare_j0' (a0, a1)
theorem slices_CompareFunc_Term_Term_Term_Term__terms_Compare_eq (a0 : (List Tm)) (a1 : (List Tm)) : slices_CompareFunc_Term_Term_Term_Term__terms_Compare a0 a1 =
    slices_CompareFunc_Term_Term_Term_Term__terms_Compare_l0 a0 0 a0 a1 := slices_CompareFunc_Term_Term_Term_Term__terms_Compare'.eq_def (a0, a1)
theorem slices_CompareFunc_Term_Term_Term_Term__terms_Compare_l0_eq (rest0 : (List Tm)) (k0 : Nat) (a0 : (List Tm)) (a1 : (List Tm)) : slices_CompareFunc_Term_Term_Term_Term__terms_Compare_l0 rest0 k0 a0 a1 =
    match rest0 with
    | [] =>
      if ((Tm.Ds a0).length : Int) < ((Tm.Ds a1).length : Int) then
        some (-1)
      else
      some 0
    | v14 :: rest0 =>
      if ((Tm.Ds a1).length : Int) ≤ (k0 : Int) then
        some 1
      else
      bind (geti a1 (k0 : Int)) fun v16 =>
      bind (terms_Compare v14 v16) fun v17 =>
      if ¬ v17 = 0 then
        some v17
      else
      slices_CompareFunc_Term_Term_Term_Term__terms_Compare_l0 rest0 (k0 + 1) a0 a1 := slices_CompareFunc_Term_Term_Term_Term__terms_Compare_l0'.eq_def (rest0, k0, a0, a1)
theorem terms_Compare_eq (a0 : Tm) (a1 : Tm) : terms_Compare a0 a1 =
    bind (cmp_Compare_uint8 a0.kind a1.kind) fun v1 =>
    if ¬ v1 = 0 then
      some v1
    else
    bind (strings_Compare a0.name a1.name) fun v3 =>
    if ¬ v3 = 0 then
      if ¬ a0.kind = 5 then
        some v3
      else
      terms_Compare_j0 a0 a1
    else
    terms_Compare_j0 a0 a1 := terms_Compare'.eq_def (a0, a1)
theorem terms_Compare_j0_eq (a0 : Tm) (a1 : Tm) : terms_Compare_j0 a0 a1 =
    bind (types_Compare a0.ty a1.ty) fun v4 =>
    bind (cmp_Compare_int a0.index a1.index) fun v5 =>
    bind (cmp_Compare_int ((Tm.Ds a0.sub).length : Int) ((Tm.Ds a1.sub).length : Int)) fun v6 =>
    bind (cmp_Or_int ([v4, v5, v6])) fun v7 =>
    if ¬ v7 = 0 then
      some v7
    else
    bind (slices_CompareFunc_Term_Term_Term_Term__terms_Compare a0.sub a1.sub) fun v9 =>
    some v9 := terms_Compare_j0'.eq_def (a0, a1)
def terms_Same (a0 : Tm) (a1 : Tm) : Option Bool :=
  bind (terms_Compare a0 a1) fun v1 =>
  some (decide (v1 = 0))
def tactic_empty (a0 : Tm) : Option Bool :=
  bind (terms_Same a0 (Tm.mk 0 ByteArray.empty (Ty.mk false ByteArray.empty ([] : List Ty)) 0 ([] : List Tm))) fun v1 =>
  if v1 = true then
    some (decide (a0.name = ByteArray.empty))
  else
  some false
mutual
def tactic_formed' (p : (ATactic × (Option (List (Int × TacticForm))) × Int × Int)) : Option (Int × Bool) := match p with
  | (a0, a1, a2, a3) =>
    match mgetO a1 a0.kind with
    | some v1 =>
      tactic_formed_j0' (true, v1.at_, v1.to_, v1.term, v1.least, v1.most, a0, a1, a2, a3)
    | none =>
      tactic_formed_j0' (false, false, false, false, 0, 0, a0, a1, a2, a3)
  partial_fixpoint
def tactic_formed_j0' (p : (Bool × Bool × Bool × Bool × Int × Int × ATactic × (Option (List (Int × TacticForm))) × Int × Int)) : Option (Int × Bool) := match p with
  | (t11_1, c1_0_1, c1_1_1, c1_2_1, c1_3_1, c1_4_1, a0, a1, a2, a3) =>
    bind (some (IntKind.wrap .i64 (a3 + 1))) fun v12 =>
    if t11_1 = true then
      if 30 < a2 then
        some (v12, false)
      else
      if 200 < v12 then
        some (v12, false)
      else
      if ((ATactic.Ds a0.kids).length : Int) < c1_3_1 then
        some (v12, false)
      else
      if c1_4_1 < ((ATactic.Ds a0.kids).length : Int) then
        some (v12, false)
      else
      if c1_0_1 = true then
        if c1_1_1 = true then
          if c1_2_1 = true then
            tactic_formed_j1' (a0, a1, a2, v12)
          else
          bind (tactic_empty a0.term) fun v21 =>
          if v21 = true then
            tactic_formed_j1' (a0, a1, a2, v12)
          else
          some (v12, false)
        else
        if ¬ a0.to_ = 0 then
          some (v12, false)
        else
        if c1_2_1 = true then
          tactic_formed_j1' (a0, a1, a2, v12)
        else
        bind (tactic_empty a0.term) fun v22 =>
        if v22 = true then
          tactic_formed_j1' (a0, a1, a2, v12)
        else
        some (v12, false)
      else
      if ¬ a0.at_ = 0 then
        some (v12, false)
      else
      if c1_1_1 = true then
        if c1_2_1 = true then
          tactic_formed_j1' (a0, a1, a2, v12)
        else
        bind (tactic_empty a0.term) fun v22 =>
        if v22 = true then
          tactic_formed_j1' (a0, a1, a2, v12)
        else
        some (v12, false)
      else
      if ¬ a0.to_ = 0 then
        some (v12, false)
      else
      if c1_2_1 = true then
        tactic_formed_j1' (a0, a1, a2, v12)
      else
      bind (tactic_empty a0.term) fun v23 =>
      if v23 = true then
        tactic_formed_j1' (a0, a1, a2, v12)
      else
      some (v12, false)
    else
    some (v12, false)
  partial_fixpoint
def tactic_formed_j1' (p : (ATactic × (Option (List (Int × TacticForm))) × Int × Int)) : Option (Int × Bool) := match p with
  | (a0, a1, a2, v12) =>
    tactic_formed_l0' (a0.kids, v12, a1, a2)
  partial_fixpoint
def tactic_formed_l0' (p : ((List ATactic) × Int × (Option (List (Int × TacticForm))) × Int)) : Option (Int × Bool) := match p with
  | (rest0, t3_0, a1, a2) =>
    match rest0 with
    | [] =>
      some (t3_0, true)
    | v84 :: rest0 =>
      bind (some (IntKind.wrap .i64 (a2 + 1))) fun v85 =>
      bind (tactic_formed' (v84, a1, v85, t3_0)) fun v86 =>
      if v86.2 = true then
        tactic_formed_l0' (rest0, v86.1, a1, a2)
      else
      some (v86.1, false)
  partial_fixpoint
end
def tactic_formed (a0 : ATactic) (a1 : (Option (List (Int × TacticForm)))) (a2 : Int) (a3 : Int) : Option (Int × Bool) := tactic_formed' (a0, a1, a2, a3)
def tactic_formed_j0 (t11_1 : Bool) (c1_0_1 : Bool) (c1_1_1 : Bool) (c1_2_1 : Bool) (c1_3_1 : Int) (c1_4_1 : Int) (a0 : ATactic) (a1 : (Option (List (Int × TacticForm)))) (a2 : Int) (a3 : Int) : Option (Int × Bool) := tactic_formed_j0' (t11_1, c1_0_1, c1_1_1, c1_2_1, c1_3_1, c1_4_1, a0, a1, a2, a3)
def tactic_formed_j1 (a0 : ATactic) (a1 : (Option (List (Int × TacticForm)))) (a2 : Int) (v12 : Int) : Option (Int × Bool) := tactic_formed_j1' (a0, a1, a2, v12)
def tactic_formed_l0 (rest0 : (List ATactic)) (t3_0 : Int) (a1 : (Option (List (Int × TacticForm)))) (a2 : Int) : Option (Int × Bool) := tactic_formed_l0' (rest0, t3_0, a1, a2)
theorem tactic_formed_eq (a0 : ATactic) (a1 : (Option (List (Int × TacticForm)))) (a2 : Int) (a3 : Int) : tactic_formed a0 a1 a2 a3 =
    match mgetO a1 a0.kind with
    | some v1 =>
      tactic_formed_j0 true v1.at_ v1.to_ v1.term v1.least v1.most a0 a1 a2 a3
    | none =>
      tactic_formed_j0 false false false false 0 0 a0 a1 a2 a3 := tactic_formed'.eq_def (a0, a1, a2, a3)
theorem tactic_formed_j0_eq (t11_1 : Bool) (c1_0_1 : Bool) (c1_1_1 : Bool) (c1_2_1 : Bool) (c1_3_1 : Int) (c1_4_1 : Int) (a0 : ATactic) (a1 : (Option (List (Int × TacticForm)))) (a2 : Int) (a3 : Int) : tactic_formed_j0 t11_1 c1_0_1 c1_1_1 c1_2_1 c1_3_1 c1_4_1 a0 a1 a2 a3 =
    bind (some (IntKind.wrap .i64 (a3 + 1))) fun v12 =>
    if t11_1 = true then
      if 30 < a2 then
        some (v12, false)
      else
      if 200 < v12 then
        some (v12, false)
      else
      if ((ATactic.Ds a0.kids).length : Int) < c1_3_1 then
        some (v12, false)
      else
      if c1_4_1 < ((ATactic.Ds a0.kids).length : Int) then
        some (v12, false)
      else
      if c1_0_1 = true then
        if c1_1_1 = true then
          if c1_2_1 = true then
            tactic_formed_j1 a0 a1 a2 v12
          else
          bind (tactic_empty a0.term) fun v21 =>
          if v21 = true then
            tactic_formed_j1 a0 a1 a2 v12
          else
          some (v12, false)
        else
        if ¬ a0.to_ = 0 then
          some (v12, false)
        else
        if c1_2_1 = true then
          tactic_formed_j1 a0 a1 a2 v12
        else
        bind (tactic_empty a0.term) fun v22 =>
        if v22 = true then
          tactic_formed_j1 a0 a1 a2 v12
        else
        some (v12, false)
      else
      if ¬ a0.at_ = 0 then
        some (v12, false)
      else
      if c1_1_1 = true then
        if c1_2_1 = true then
          tactic_formed_j1 a0 a1 a2 v12
        else
        bind (tactic_empty a0.term) fun v22 =>
        if v22 = true then
          tactic_formed_j1 a0 a1 a2 v12
        else
        some (v12, false)
      else
      if ¬ a0.to_ = 0 then
        some (v12, false)
      else
      if c1_2_1 = true then
        tactic_formed_j1 a0 a1 a2 v12
      else
      bind (tactic_empty a0.term) fun v23 =>
      if v23 = true then
        tactic_formed_j1 a0 a1 a2 v12
      else
      some (v12, false)
    else
    some (v12, false) := tactic_formed_j0'.eq_def (t11_1, c1_0_1, c1_1_1, c1_2_1, c1_3_1, c1_4_1, a0, a1, a2, a3)
theorem tactic_formed_j1_eq (a0 : ATactic) (a1 : (Option (List (Int × TacticForm)))) (a2 : Int) (v12 : Int) : tactic_formed_j1 a0 a1 a2 v12 =
    tactic_formed_l0 a0.kids v12 a1 a2 := tactic_formed_j1'.eq_def (a0, a1, a2, v12)
theorem tactic_formed_l0_eq (rest0 : (List ATactic)) (t3_0 : Int) (a1 : (Option (List (Int × TacticForm)))) (a2 : Int) : tactic_formed_l0 rest0 t3_0 a1 a2 =
    match rest0 with
    | [] =>
      some (t3_0, true)
    | v84 :: rest0 =>
      bind (some (IntKind.wrap .i64 (a2 + 1))) fun v85 =>
      bind (tactic_formed v84 a1 v85 t3_0) fun v86 =>
      if v86.2 = true then
        tactic_formed_l0 rest0 v86.1 a1 a2
      else
      some (v86.1, false) := tactic_formed_l0'.eq_def (rest0, t3_0, a1, a2)
mutual
def terms_extent' (a0 : Tm) : Option (Int × Int) :=
  terms_extent_l0' (a0.sub, 1, 0)
  partial_fixpoint
def terms_extent_l0' (p : ((List Tm) × Int × Int)) : Option (Int × Int) := match p with
  | (rest0, t2_0, t3_0) =>
    match rest0 with
    | [] =>
      bind (some (IntKind.wrap .i64 (t3_0 + 1))) fun v13 =>
      some (t2_0, v13)
    | v12 :: rest0 =>
      bind (terms_extent' v12) fun v13 =>
      bind (some (IntKind.wrap .i64 (t2_0 + v13.1))) fun v14 =>
      terms_extent_l0' (rest0, v14, (max t3_0 v13.2))
  partial_fixpoint
end
def terms_extent (a0 : Tm) : Option (Int × Int) := terms_extent' a0
def terms_extent_l0 (rest0 : (List Tm)) (t2_0 : Int) (t3_0 : Int) : Option (Int × Int) := terms_extent_l0' (rest0, t2_0, t3_0)
theorem terms_extent_eq (a0 : Tm) : terms_extent a0 =
    terms_extent_l0 a0.sub 1 0 := terms_extent'.eq_def a0
theorem terms_extent_l0_eq (rest0 : (List Tm)) (t2_0 : Int) (t3_0 : Int) : terms_extent_l0 rest0 t2_0 t3_0 =
    match rest0 with
    | [] =>
      bind (some (IntKind.wrap .i64 (t3_0 + 1))) fun v13 =>
      some (t2_0, v13)
    | v12 :: rest0 =>
      bind (terms_extent v12) fun v13 =>
      bind (some (IntKind.wrap .i64 (t2_0 + v13.1))) fun v14 =>
      terms_extent_l0 rest0 v14 (max t3_0 v13.2) := terms_extent_l0'.eq_def (rest0, t2_0, t3_0)
def terms_great (a0 : Tm) : Option Bool :=
  bind (terms_extent a0) fun v1 =>
  if 32000 < v1.1 then
    some true
  else
  some (decide (300 < v1.2))
def terms_plain (a0 : Tm) (a1 : Bool) (a2 : Bool) (a3 : Bool) : Option Bool :=
  if a1 = true then
    if a2 = true then
      if a3 = true then
        some true
      else
      some (decide (a0.index = 0))
    else
    if a0.ty.v = true then
      some false
    else
    if a0.ty.name = ByteArray.empty then
      if ((Ty.Ds a0.ty.args).length : Int) = 0 then
        if a3 = true then
          some true
        else
        some (decide (a0.index = 0))
      else
      some false
    else
    some false
  else
  if a0.name = ByteArray.empty then
    if a2 = true then
      if a3 = true then
        some true
      else
      some (decide (a0.index = 0))
    else
    if a0.ty.v = true then
      some false
    else
    if a0.ty.name = ByteArray.empty then
      if ((Ty.Ds a0.ty.args).length : Int) = 0 then
        if a3 = true then
          some true
        else
        some (decide (a0.index = 0))
      else
      some false
    else
    some false
  else
  some false
def types_name_l0' (p : (Int × ByteArray)) : Option Bool := match p with
  | (t7_0, a0) =>
    if t7_0 < (a0.size : Int) then
      bind (getb a0 t7_0) fun v9 =>
      if v9 = 40 then
        some false
      else
      if v9 = 41 then
        some false
      else
      if v9 = 44 then
        some false
      else
      if v9 = 58 then
        some false
      else
      if v9 = 92 then
        some false
      else
      if v9 = 46 then
        some false
      else
      if v9 = 34 then
        some false
      else
      if v9 < 33 then
        some false
      else
      if 126 < v9 then
        some false
      else
      bind (some (IntKind.wrap .i64 (t7_0 + 1))) fun v19 =>
      types_name_l0' (v19, a0)
    else
    if ¬ a0 = ByteArray.empty then
      some (decide ((a0.size : Int) ≤ 30))
    else
    some false
  partial_fixpoint
def types_name_l0 (t7_0 : Int) (a0 : ByteArray) : Option Bool := types_name_l0' (t7_0, a0)
theorem types_name_l0_eq (t7_0 : Int) (a0 : ByteArray) : types_name_l0 t7_0 a0 =
    if t7_0 < (a0.size : Int) then
      bind (getb a0 t7_0) fun v9 =>
      if v9 = 40 then
        some false
      else
      if v9 = 41 then
        some false
      else
      if v9 = 44 then
        some false
      else
      if v9 = 58 then
        some false
      else
      if v9 = 92 then
        some false
      else
      if v9 = 46 then
        some false
      else
      if v9 = 34 then
        some false
      else
      if v9 < 33 then
        some false
      else
      if 126 < v9 then
        some false
      else
      bind (some (IntKind.wrap .i64 (t7_0 + 1))) fun v19 =>
      types_name_l0 v19 a0
    else
    if ¬ a0 = ByteArray.empty then
      some (decide ((a0.size : Int) ≤ 30))
    else
    some false := types_name_l0'.eq_def (t7_0, a0)
def types_name (a0 : ByteArray) : Option Bool :=
  types_name_l0 0 a0
def types_variable (a0 : ByteArray) : Option Bool :=
  bind (types_name a0) fun v1 =>
  if v1 = true then
    bind (getb a0 0) fun v3 =>
    some (decide (v3 = 39))
  else
  some false
mutual
def types_measure' (a0 : Ty) : Option (Int × Int × Bool) :=
  if a0.v = true then
    bind (types_variable a0.name) fun v2 =>
    if v2 = true then
      if ((Ty.Ds a0.args).length : Int) = 0 then
        types_measure_j0' (true, a0)
      else
      types_measure_j0' (false, a0)
    else
    types_measure_j0' (false, a0)
  else
  bind (types_name a0.name) fun v2 =>
  if v2 = true then
    bind (getb a0.name 0) fun v4 =>
    if ¬ v4 = 39 then
      if ((Ty.Ds a0.args).length : Int) ≤ 8 then
        types_measure_j0' (true, a0)
      else
      types_measure_j0' (false, a0)
    else
    types_measure_j0' (false, a0)
  else
  types_measure_j0' (false, a0)
  partial_fixpoint
def types_measure_j0' (p : (Bool × Ty)) : Option (Int × Int × Bool) := match p with
  | (t4_1, a0) =>
    types_measure_l0' (a0.args, 1, 0, t4_1)
  partial_fixpoint
def types_measure_l0' (p : ((List Ty) × Int × Int × Bool)) : Option (Int × Int × Bool) := match p with
  | (rest0, t2_0, t3_0, t4_0) =>
    match rest0 with
    | [] =>
      bind (some (IntKind.wrap .i64 (t3_0 + 1))) fun v41 =>
      some (t2_0, v41, t4_0)
    | v40 :: rest0 =>
      bind (types_measure' v40) fun v41 =>
      bind (some (IntKind.wrap .i64 (t2_0 + v41.1))) fun v42 =>
      if t4_0 = true then
        types_measure_l0' (rest0, v42, (max t3_0 v41.2.1), v41.2.2)
      else
      types_measure_l0' (rest0, v42, (max t3_0 v41.2.1), false)
  partial_fixpoint
end
def types_measure (a0 : Ty) : Option (Int × Int × Bool) := types_measure' a0
def types_measure_j0 (t4_1 : Bool) (a0 : Ty) : Option (Int × Int × Bool) := types_measure_j0' (t4_1, a0)
def types_measure_l0 (rest0 : (List Ty)) (t2_0 : Int) (t3_0 : Int) (t4_0 : Bool) : Option (Int × Int × Bool) := types_measure_l0' (rest0, t2_0, t3_0, t4_0)
theorem types_measure_eq (a0 : Ty) : types_measure a0 =
    if a0.v = true then
      bind (types_variable a0.name) fun v2 =>
      if v2 = true then
        if ((Ty.Ds a0.args).length : Int) = 0 then
          types_measure_j0 true a0
        else
        types_measure_j0 false a0
      else
      types_measure_j0 false a0
    else
    bind (types_name a0.name) fun v2 =>
    if v2 = true then
      bind (getb a0.name 0) fun v4 =>
      if ¬ v4 = 39 then
        if ((Ty.Ds a0.args).length : Int) ≤ 8 then
          types_measure_j0 true a0
        else
        types_measure_j0 false a0
      else
      types_measure_j0 false a0
    else
    types_measure_j0 false a0 := types_measure'.eq_def a0
theorem types_measure_j0_eq (t4_1 : Bool) (a0 : Ty) : types_measure_j0 t4_1 a0 =
    types_measure_l0 a0.args 1 0 t4_1 := types_measure_j0'.eq_def (t4_1, a0)
theorem types_measure_l0_eq (rest0 : (List Ty)) (t2_0 : Int) (t3_0 : Int) (t4_0 : Bool) : types_measure_l0 rest0 t2_0 t3_0 t4_0 =
    match rest0 with
    | [] =>
      bind (some (IntKind.wrap .i64 (t3_0 + 1))) fun v41 =>
      some (t2_0, v41, t4_0)
    | v40 :: rest0 =>
      bind (types_measure v40) fun v41 =>
      bind (some (IntKind.wrap .i64 (t2_0 + v41.1))) fun v42 =>
      if t4_0 = true then
        types_measure_l0 rest0 v42 (max t3_0 v41.2.1) v41.2.2
      else
      types_measure_l0 rest0 v42 (max t3_0 v41.2.1) false := types_measure_l0'.eq_def (rest0, t2_0, t3_0, t4_0)
def types_Check (a0 : Ty) : Option Int :=
  bind (types_measure a0) fun v1 =>
  if v1.2.2 = true then
    if 500 < v1.1 then
      some 10
    else
    if 200 < v1.2.1 then
      some 10
    else
    some 0
  else
  some 10
def terms_named (a0 : ByteArray) : Option Bool :=
  bind (types_Check (Ty.mk false a0 ([] : List Ty))) fun v1 =>
  some (decide (v1 = 0))
def types_Same (a0 : Ty) (a1 : Ty) : Option Bool :=
  bind (types_Compare a0 a1) fun v1 =>
  some (decide (v1 = 0))
def terms_formed_j0 (a0 : Tm) (v16 : (Ty × Bool)) : Option (Ty × Bool) :=
  if v16.2 = true then
    bind (types_Check (Ty.mk false (ByteArray.mk #[102, 117, 110]) ([a0.ty, v16.1]))) fun v18 =>
    some ((Ty.mk false (ByteArray.mk #[102, 117, 110]) ([a0.ty, v16.1])), (decide (v18 = 0)))
  else
  some ((Ty.mk false ByteArray.empty ([] : List Ty)), false)
def terms_formed' (p : (Tm × (List Ty))) : Option (Ty × Bool) := match p with
  | (a0, a1) =>
    if a0.kind = 1 then
      bind (terms_plain a0 true true false) fun v2 =>
      if v2 = true then
        bind (terms_named a0.name) fun v4 =>
        if v4 = true then
          if ((Tm.Ds a0.sub).length : Int) = 0 then
            bind (types_Check a0.ty) fun v7 =>
            some (a0.ty, (decide (v7 = 0)))
          else
          some (a0.ty, false)
        else
        some (a0.ty, false)
      else
      some (a0.ty, false)
    else
    if a0.kind = 2 then
      bind (terms_plain a0 true true false) fun v3 =>
      if v3 = true then
        bind (terms_named a0.name) fun v5 =>
        if v5 = true then
          if ((Tm.Ds a0.sub).length : Int) = 0 then
            bind (types_Check a0.ty) fun v8 =>
            some (a0.ty, (decide (v8 = 0)))
          else
          some (a0.ty, false)
        else
        some (a0.ty, false)
      else
      some (a0.ty, false)
    else
    if a0.kind = 3 then
      bind (terms_plain a0 false false true) fun v4 =>
      if v4 = true then
        if 0 < ((Tm.Ds a0.sub).length : Int) then
          some ((Ty.mk false ByteArray.empty ([] : List Ty)), false)
        else
        if a0.index < 0 then
          some ((Ty.mk false ByteArray.empty ([] : List Ty)), false)
        else
        if ((Ty.Ds a1).length : Int) ≤ a0.index then
          some ((Ty.mk false ByteArray.empty ([] : List Ty)), false)
        else
        bind (some (IntKind.wrap .i64 (((Ty.Ds a1).length : Int) - 1))) fun v9 =>
        bind (some (IntKind.wrap .i64 (v9 - a0.index))) fun v10 =>
        bind (geti a1 v10) fun v11 =>
        some (v11, true)
      else
      some ((Ty.mk false ByteArray.empty ([] : List Ty)), false)
    else
    if a0.kind = 4 then
      bind (terms_plain a0 false false false) fun v5 =>
      if v5 = true then
        if ¬ ((Tm.Ds a0.sub).length : Int) = 2 then
          some ((Ty.mk false ByteArray.empty ([] : List Ty)), false)
        else
        bind (geti a0.sub 0) fun v8 =>
        bind (terms_formed' (v8, a1)) fun v9 =>
        bind (geti a0.sub 1) fun v10 =>
        bind (terms_formed' (v10, a1)) fun v11 =>
        if v9.2 = true then
          if v11.2 = true then
            if v9.1.v = true then
              some ((Ty.mk false ByteArray.empty ([] : List Ty)), false)
            else
            if ¬ v9.1.name = (ByteArray.mk #[102, 117, 110]) then
              some ((Ty.mk false ByteArray.empty ([] : List Ty)), false)
            else
            if ¬ ((Ty.Ds v9.1.args).length : Int) = 2 then
              some ((Ty.mk false ByteArray.empty ([] : List Ty)), false)
            else
            bind (geti v9.1.args 0) fun v17 =>
            bind (types_Same v17 v11.1) fun v18 =>
            if v18 = true then
              bind (geti v9.1.args 1) fun v20 =>
              some (v20, true)
            else
            some ((Ty.mk false ByteArray.empty ([] : List Ty)), false)
          else
          some ((Ty.mk false ByteArray.empty ([] : List Ty)), false)
        else
        some ((Ty.mk false ByteArray.empty ([] : List Ty)), false)
      else
      some ((Ty.mk false ByteArray.empty ([] : List Ty)), false)
    else
    if a0.kind = 5 then
      bind (terms_plain a0 true true false) fun v6 =>
      if v6 = true then
        if ¬ ((Tm.Ds a0.sub).length : Int) = 1 then
          some ((Ty.mk false ByteArray.empty ([] : List Ty)), false)
        else
        bind (terms_named a0.name) fun v9 =>
        if v9 = true then
          bind (types_Check a0.ty) fun v11 =>
          if ¬ v11 = 0 then
            some ((Ty.mk false ByteArray.empty ([] : List Ty)), false)
          else
          bind (geti a0.sub 0) fun v13 =>
          bind (cut a1 0 ((Ty.Ds a1).length : Int)) fun v14 =>
          bind (app v14 ([a0.ty])) fun v15 =>
          bind (terms_formed' (v13, v15)) fun v16 =>
          terms_formed_j0 a0 v16
        else
        some ((Ty.mk false ByteArray.empty ([] : List Ty)), false)
      else
      some ((Ty.mk false ByteArray.empty ([] : List Ty)), false)
    else
    some ((Ty.mk false ByteArray.empty ([] : List Ty)), false)
  partial_fixpoint
def terms_formed (a0 : Tm) (a1 : (List Ty)) : Option (Ty × Bool) := terms_formed' (a0, a1)
theorem terms_formed_eq (a0 : Tm) (a1 : (List Ty)) : terms_formed a0 a1 =
    if a0.kind = 1 then
      bind (terms_plain a0 true true false) fun v2 =>
      if v2 = true then
        bind (terms_named a0.name) fun v4 =>
        if v4 = true then
          if ((Tm.Ds a0.sub).length : Int) = 0 then
            bind (types_Check a0.ty) fun v7 =>
            some (a0.ty, (decide (v7 = 0)))
          else
          some (a0.ty, false)
        else
        some (a0.ty, false)
      else
      some (a0.ty, false)
    else
    if a0.kind = 2 then
      bind (terms_plain a0 true true false) fun v3 =>
      if v3 = true then
        bind (terms_named a0.name) fun v5 =>
        if v5 = true then
          if ((Tm.Ds a0.sub).length : Int) = 0 then
            bind (types_Check a0.ty) fun v8 =>
            some (a0.ty, (decide (v8 = 0)))
          else
          some (a0.ty, false)
        else
        some (a0.ty, false)
      else
      some (a0.ty, false)
    else
    if a0.kind = 3 then
      bind (terms_plain a0 false false true) fun v4 =>
      if v4 = true then
        if 0 < ((Tm.Ds a0.sub).length : Int) then
          some ((Ty.mk false ByteArray.empty ([] : List Ty)), false)
        else
        if a0.index < 0 then
          some ((Ty.mk false ByteArray.empty ([] : List Ty)), false)
        else
        if ((Ty.Ds a1).length : Int) ≤ a0.index then
          some ((Ty.mk false ByteArray.empty ([] : List Ty)), false)
        else
        bind (some (IntKind.wrap .i64 (((Ty.Ds a1).length : Int) - 1))) fun v9 =>
        bind (some (IntKind.wrap .i64 (v9 - a0.index))) fun v10 =>
        bind (geti a1 v10) fun v11 =>
        some (v11, true)
      else
      some ((Ty.mk false ByteArray.empty ([] : List Ty)), false)
    else
    if a0.kind = 4 then
      bind (terms_plain a0 false false false) fun v5 =>
      if v5 = true then
        if ¬ ((Tm.Ds a0.sub).length : Int) = 2 then
          some ((Ty.mk false ByteArray.empty ([] : List Ty)), false)
        else
        bind (geti a0.sub 0) fun v8 =>
        bind (terms_formed v8 a1) fun v9 =>
        bind (geti a0.sub 1) fun v10 =>
        bind (terms_formed v10 a1) fun v11 =>
        if v9.2 = true then
          if v11.2 = true then
            if v9.1.v = true then
              some ((Ty.mk false ByteArray.empty ([] : List Ty)), false)
            else
            if ¬ v9.1.name = (ByteArray.mk #[102, 117, 110]) then
              some ((Ty.mk false ByteArray.empty ([] : List Ty)), false)
            else
            if ¬ ((Ty.Ds v9.1.args).length : Int) = 2 then
              some ((Ty.mk false ByteArray.empty ([] : List Ty)), false)
            else
            bind (geti v9.1.args 0) fun v17 =>
            bind (types_Same v17 v11.1) fun v18 =>
            if v18 = true then
              bind (geti v9.1.args 1) fun v20 =>
              some (v20, true)
            else
            some ((Ty.mk false ByteArray.empty ([] : List Ty)), false)
          else
          some ((Ty.mk false ByteArray.empty ([] : List Ty)), false)
        else
        some ((Ty.mk false ByteArray.empty ([] : List Ty)), false)
      else
      some ((Ty.mk false ByteArray.empty ([] : List Ty)), false)
    else
    if a0.kind = 5 then
      bind (terms_plain a0 true true false) fun v6 =>
      if v6 = true then
        if ¬ ((Tm.Ds a0.sub).length : Int) = 1 then
          some ((Ty.mk false ByteArray.empty ([] : List Ty)), false)
        else
        bind (terms_named a0.name) fun v9 =>
        if v9 = true then
          bind (types_Check a0.ty) fun v11 =>
          if ¬ v11 = 0 then
            some ((Ty.mk false ByteArray.empty ([] : List Ty)), false)
          else
          bind (geti a0.sub 0) fun v13 =>
          bind (cut a1 0 ((Ty.Ds a1).length : Int)) fun v14 =>
          bind (app v14 ([a0.ty])) fun v15 =>
          bind (terms_formed v13 v15) fun v16 =>
          terms_formed_j0 a0 v16
        else
        some ((Ty.mk false ByteArray.empty ([] : List Ty)), false)
      else
      some ((Ty.mk false ByteArray.empty ([] : List Ty)), false)
    else
    some ((Ty.mk false ByteArray.empty ([] : List Ty)), false) := terms_formed'.eq_def (a0, a1)
def terms_typed (a0 : Tm) : Option (Ty × Int) :=
  bind (terms_great a0) fun v1 =>
  if v1 = true then
    some ((Ty.mk false ByteArray.empty ([] : List Ty)), 21)
  else
  bind (terms_formed a0 ([] : List Ty)) fun v3 =>
  if v3.2 = true then
    some (v3.1, 0)
  else
  some ((Ty.mk false ByteArray.empty ([] : List Ty)), 20)
def terms_Check (a0 : Tm) : Option Int :=
  bind (terms_typed a0) fun v1 =>
  some v1.2
mutual
def terms_Size' (a0 : Tm) : Option Int :=
  terms_Size_l0' (a0.sub, 1)
  partial_fixpoint
def terms_Size_l0' (p : ((List Tm) × Int)) : Option Int := match p with
  | (rest0, t3_0) =>
    match rest0 with
    | [] =>
      some t3_0
    | v10 :: rest0 =>
      bind (terms_Size' v10) fun v11 =>
      bind (some (IntKind.wrap .i64 (t3_0 + v11))) fun v12 =>
      terms_Size_l0' (rest0, v12)
  partial_fixpoint
end
def terms_Size (a0 : Tm) : Option Int := terms_Size' a0
def terms_Size_l0 (rest0 : (List Tm)) (t3_0 : Int) : Option Int := terms_Size_l0' (rest0, t3_0)
theorem terms_Size_eq (a0 : Tm) : terms_Size a0 =
    terms_Size_l0 a0.sub 1 := terms_Size'.eq_def a0
theorem terms_Size_l0_eq (rest0 : (List Tm)) (t3_0 : Int) : terms_Size_l0 rest0 t3_0 =
    match rest0 with
    | [] =>
      some t3_0
    | v10 :: rest0 =>
      bind (terms_Size v10) fun v11 =>
      bind (some (IntKind.wrap .i64 (t3_0 + v11))) fun v12 =>
      terms_Size_l0 rest0 v12 := terms_Size_l0'.eq_def (rest0, t3_0)
mutual
def equality_depth' (a0 : Tm) : Option Int :=
  equality_depth_l0' (a0.sub, 0)
  partial_fixpoint
def equality_depth_l0' (p : ((List Tm) × Int)) : Option Int := match p with
  | (rest0, t3_0) =>
    match rest0 with
    | [] =>
      bind (some (IntKind.wrap .i64 (t3_0 + 1))) fun v11 =>
      some v11
    | v10 :: rest0 =>
      bind (equality_depth' v10) fun v11 =>
      equality_depth_l0' (rest0, (max t3_0 v11))
  partial_fixpoint
end
def equality_depth (a0 : Tm) : Option Int := equality_depth' a0
def equality_depth_l0 (rest0 : (List Tm)) (t3_0 : Int) : Option Int := equality_depth_l0' (rest0, t3_0)
theorem equality_depth_eq (a0 : Tm) : equality_depth a0 =
    equality_depth_l0 a0.sub 0 := equality_depth'.eq_def a0
theorem equality_depth_l0_eq (rest0 : (List Tm)) (t3_0 : Int) : equality_depth_l0 rest0 t3_0 =
    match rest0 with
    | [] =>
      bind (some (IntKind.wrap .i64 (t3_0 + 1))) fun v11 =>
      some v11
    | v10 :: rest0 =>
      bind (equality_depth v10) fun v11 =>
      equality_depth_l0 rest0 (max t3_0 v11) := equality_depth_l0'.eq_def (rest0, t3_0)
mutual
def types_Size' (a0 : Ty) : Option Int :=
  types_Size_l0' (a0.args, 1)
  partial_fixpoint
def types_Size_l0' (p : ((List Ty) × Int)) : Option Int := match p with
  | (rest0, t3_0) =>
    match rest0 with
    | [] =>
      some t3_0
    | v10 :: rest0 =>
      bind (types_Size' v10) fun v11 =>
      bind (some (IntKind.wrap .i64 (t3_0 + v11))) fun v12 =>
      types_Size_l0' (rest0, v12)
  partial_fixpoint
end
def types_Size (a0 : Ty) : Option Int := types_Size' a0
def types_Size_l0 (rest0 : (List Ty)) (t3_0 : Int) : Option Int := types_Size_l0' (rest0, t3_0)
theorem types_Size_eq (a0 : Ty) : types_Size a0 =
    types_Size_l0 a0.args 1 := types_Size'.eq_def a0
theorem types_Size_l0_eq (rest0 : (List Ty)) (t3_0 : Int) : types_Size_l0 rest0 t3_0 =
    match rest0 with
    | [] =>
      some t3_0
    | v10 :: rest0 =>
      bind (types_Size v10) fun v11 =>
      bind (some (IntKind.wrap .i64 (t3_0 + v11))) fun v12 =>
      types_Size_l0 rest0 v12 := types_Size_l0'.eq_def (rest0, t3_0)
mutual
def types_Twin' (a0 : Ty) : Option Ty :=
  if 0 < ((Ty.Ds a0.args).length : Int) then
    bind (mkn (Ty.mk false ByteArray.empty []) ((Ty.Ds a0.args).length : Int)) fun v2 =>
    types_Twin_j0' (a0, v2)
  else
  types_Twin_j0b' a0
  partial_fixpoint
def types_Twin_j0' (p : (Ty × (List Ty))) : Option Ty := match p with
  | (a0, v2) =>
    types_Twin_l0' (0, v2, a0)
  partial_fixpoint
def types_Twin_l0' (p : (Int × (List Ty) × Ty)) : Option Ty := match p with
  | (t18_0, a2_0, a0) =>
    if t18_0 < ((Ty.Ds a0.args).length : Int) then
      bind (geti a0.args t18_0) fun v20 =>
      bind (types_Twin' v20) fun v21 =>
      bind (wantb (0 ≤ t18_0 ∧ t18_0 < (a2_0.length : Int))) fun g23 =>
      bind (seti a2_0 t18_0 v21) fun v24 =>
      bind (some (IntKind.wrap .i64 (t18_0 + 1))) fun v25 =>
      types_Twin_l0' (v25, v24, a0)
    else
    some (Ty.mk a0.v a0.name a2_0)
  partial_fixpoint
def types_Twin_j0b' (a0 : Ty) : Option Ty :=
  types_Twin_l0b' a0
  partial_fixpoint
def types_Twin_l0b' (a0 : Ty) : Option Ty :=
  if 0 < ((Ty.Ds a0.args).length : Int) then
    bind (geti a0.args 0) fun v20 =>
    bind (types_Twin' v20) fun v21 =>
    none
  else
  some (Ty.mk a0.v a0.name ([] : List Ty))
  partial_fixpoint
end
def types_Twin (a0 : Ty) : Option Ty := types_Twin' a0
def types_Twin_j0 (a0 : Ty) (v2 : (List Ty)) : Option Ty := types_Twin_j0' (a0, v2)
def types_Twin_l0 (t18_0 : Int) (a2_0 : (List Ty)) (a0 : Ty) : Option Ty := types_Twin_l0' (t18_0, a2_0, a0)
def types_Twin_j0b (a0 : Ty) : Option Ty := types_Twin_j0b' a0
def types_Twin_l0b (a0 : Ty) : Option Ty := types_Twin_l0b' a0
theorem types_Twin_eq (a0 : Ty) : types_Twin a0 =
    if 0 < ((Ty.Ds a0.args).length : Int) then
      bind (mkn (Ty.mk false ByteArray.empty []) ((Ty.Ds a0.args).length : Int)) fun v2 =>
      types_Twin_j0 a0 v2
    else
    types_Twin_j0b a0 := types_Twin'.eq_def a0
theorem types_Twin_j0_eq (a0 : Ty) (v2 : (List Ty)) : types_Twin_j0 a0 v2 =
    types_Twin_l0 0 v2 a0 := types_Twin_j0'.eq_def (a0, v2)
theorem types_Twin_l0_eq (t18_0 : Int) (a2_0 : (List Ty)) (a0 : Ty) : types_Twin_l0 t18_0 a2_0 a0 =
    if t18_0 < ((Ty.Ds a0.args).length : Int) then
      bind (geti a0.args t18_0) fun v20 =>
      bind (types_Twin v20) fun v21 =>
      bind (wantb (0 ≤ t18_0 ∧ t18_0 < (a2_0.length : Int))) fun g23 =>
      bind (seti a2_0 t18_0 v21) fun v24 =>
      bind (some (IntKind.wrap .i64 (t18_0 + 1))) fun v25 =>
      types_Twin_l0 v25 v24 a0
    else
    some (Ty.mk a0.v a0.name a2_0) := types_Twin_l0'.eq_def (t18_0, a2_0, a0)
theorem types_Twin_j0b_eq (a0 : Ty) : types_Twin_j0b a0 =
    types_Twin_l0b a0 := types_Twin_j0b'.eq_def a0
theorem types_Twin_l0b_eq (a0 : Ty) : types_Twin_l0b a0 =
    if 0 < ((Ty.Ds a0.args).length : Int) then
      bind (geti a0.args 0) fun v20 =>
      bind (types_Twin v20) fun v21 =>
      none
    else
    some (Ty.mk a0.v a0.name ([] : List Ty)) := types_Twin_l0b'.eq_def a0
def types_DestFun (a0 : Ty) : Option (Ty × Ty × Bool) :=
  if a0.v = true then
    some ((Ty.mk false ByteArray.empty ([] : List Ty)), (Ty.mk false ByteArray.empty ([] : List Ty)), false)
  else
  if ¬ a0.name = (ByteArray.mk #[102, 117, 110]) then
    some ((Ty.mk false ByteArray.empty ([] : List Ty)), (Ty.mk false ByteArray.empty ([] : List Ty)), false)
  else
  if ¬ ((Ty.Ds a0.args).length : Int) = 2 then
    some ((Ty.mk false ByteArray.empty ([] : List Ty)), (Ty.mk false ByteArray.empty ([] : List Ty)), false)
  else
  bind (geti a0.args 0) fun v4 =>
  bind (geti a0.args 1) fun v5 =>
  bind (types_Twin v4) fun v6 =>
  bind (types_Twin v5) fun v7 =>
  some (v6, v7, true)
def types_Fun (a0 : Ty) (a1 : Ty) : Option Ty :=
  bind (types_Twin a0) fun v1 =>
  bind (types_Twin a1) fun v2 =>
  some (Ty.mk false (ByteArray.mk #[102, 117, 110]) ([v1, v2]))
def equality_thin_j0 (a0 : Tm) (v7 : (Ty × Bool)) : Option (Ty × Bool) :=
  if v7.2 = true then
    bind (types_Fun a0.ty v7.1) fun v9 =>
    bind (types_Size v9) fun v10 =>
    some (v9, (decide (v10 ≤ 100)))
  else
  some (a0.ty, false)
def equality_thin' (p : (Tm × (List Ty))) : Option (Ty × Bool) := match p with
  | (a0, a1) =>
    if a0.kind = 3 then
      bind (some (IntKind.wrap .i64 (((Ty.Ds a1).length : Int) - 1))) fun v2 =>
      bind (some (IntKind.wrap .i64 (v2 - a0.index))) fun v3 =>
      bind (geti a1 v3) fun v4 =>
      bind (types_Size v4) fun v5 =>
      some (v4, (decide (v5 ≤ 100)))
    else
    if a0.kind = 4 then
      bind (geti a0.sub 0) fun v3 =>
      bind (equality_thin' (v3, a1)) fun v4 =>
      if v4.2 = true then
        bind (geti a0.sub 1) fun v6 =>
        bind (equality_thin' (v6, a1)) fun v7 =>
        if v7.2 = true then
          bind (types_DestFun v4.1) fun v9 =>
          bind (types_Size v9.2.1) fun v10 =>
          some (v9.2.1, (decide (v10 ≤ 100)))
        else
        some (a0.ty, false)
      else
      some (a0.ty, false)
    else
    if a0.kind = 5 then
      bind (geti a0.sub 0) fun v4 =>
      bind (cut a1 0 ((Ty.Ds a1).length : Int)) fun v5 =>
      bind (app v5 ([a0.ty])) fun v6 =>
      bind (equality_thin' (v4, v6)) fun v7 =>
      equality_thin_j0 a0 v7
    else
    bind (types_Size a0.ty) fun v4 =>
    some (a0.ty, (decide (v4 ≤ 100)))
  partial_fixpoint
def equality_thin (a0 : Tm) (a1 : (List Ty)) : Option (Ty × Bool) := equality_thin' (a0, a1)
theorem equality_thin_eq (a0 : Tm) (a1 : (List Ty)) : equality_thin a0 a1 =
    if a0.kind = 3 then
      bind (some (IntKind.wrap .i64 (((Ty.Ds a1).length : Int) - 1))) fun v2 =>
      bind (some (IntKind.wrap .i64 (v2 - a0.index))) fun v3 =>
      bind (geti a1 v3) fun v4 =>
      bind (types_Size v4) fun v5 =>
      some (v4, (decide (v5 ≤ 100)))
    else
    if a0.kind = 4 then
      bind (geti a0.sub 0) fun v3 =>
      bind (equality_thin v3 a1) fun v4 =>
      if v4.2 = true then
        bind (geti a0.sub 1) fun v6 =>
        bind (equality_thin v6 a1) fun v7 =>
        if v7.2 = true then
          bind (types_DestFun v4.1) fun v9 =>
          bind (types_Size v9.2.1) fun v10 =>
          some (v9.2.1, (decide (v10 ≤ 100)))
        else
        some (a0.ty, false)
      else
      some (a0.ty, false)
    else
    if a0.kind = 5 then
      bind (geti a0.sub 0) fun v4 =>
      bind (cut a1 0 ((Ty.Ds a1).length : Int)) fun v5 =>
      bind (app v5 ([a0.ty])) fun v6 =>
      bind (equality_thin v4 v6) fun v7 =>
      equality_thin_j0 a0 v7
    else
    bind (types_Size a0.ty) fun v4 =>
    some (a0.ty, (decide (v4 ≤ 100))) := equality_thin'.eq_def (a0, a1)
def equality_fits (a0 : Tm) : Option Bool :=
  bind (terms_Size a0) fun v1 =>
  if 2000 < v1 then
    some false
  else
  bind (equality_depth a0) fun v3 =>
  if 100 < v3 then
    some false
  else
  bind (equality_thin a0 ([] : List Ty)) fun v5 =>
  some v5.2
def equality_CheckTerm (a0 : Tm) : Option Int :=
  bind (terms_Check a0) fun v1 =>
  if ¬ v1 = 0 then
    some v1
  else
  bind (equality_fits a0) fun v3 =>
  if v3 = true then
    some 0
  else
  some 21
mutual
def tactic_given__equality_CheckTerm' (p : (ATactic × (Option (List (Int × TacticForm))))) : Option Int := match p with
  | (a0, a1) =>
    match mgetO a1 a0.kind with
    | some v1 =>
      if v1.term = true then
        bind (equality_CheckTerm a0.term) fun v3 =>
        if ¬ v3 = 0 then
          some v3
        else
        tactic_given__equality_CheckTerm_j0' (a0, a1)
      else
      tactic_given__equality_CheckTerm_j0' (a0, a1)
    | none =>
      tactic_given__equality_CheckTerm_j0' (a0, a1)
  partial_fixpoint
def tactic_given__equality_CheckTerm_j0' (p : (ATactic × (Option (List (Int × TacticForm))))) : Option Int := match p with
  | (a0, a1) =>
    tactic_given__equality_CheckTerm_l0' (a0.kids, a1)
  partial_fixpoint
def tactic_given__equality_CheckTerm_l0' (p : ((List ATactic) × (Option (List (Int × TacticForm))))) : Option Int := match p with
  | (rest0, a1) =>
    match rest0 with
    | [] =>
      some 0
    | v27 :: rest0 =>
      bind (tactic_given__equality_CheckTerm' (v27, a1)) fun v28 =>
      if ¬ v28 = 0 then
        some v28
      else
      tactic_given__equality_CheckTerm_l0' (rest0, a1)
  partial_fixpoint
end
def tactic_given__equality_CheckTerm (a0 : ATactic) (a1 : (Option (List (Int × TacticForm)))) : Option Int := tactic_given__equality_CheckTerm' (a0, a1)
def tactic_given__equality_CheckTerm_j0 (a0 : ATactic) (a1 : (Option (List (Int × TacticForm)))) : Option Int := tactic_given__equality_CheckTerm_j0' (a0, a1)
def tactic_given__equality_CheckTerm_l0 (rest0 : (List ATactic)) (a1 : (Option (List (Int × TacticForm)))) : Option Int := tactic_given__equality_CheckTerm_l0' (rest0, a1)
theorem tactic_given__equality_CheckTerm_eq (a0 : ATactic) (a1 : (Option (List (Int × TacticForm)))) : tactic_given__equality_CheckTerm a0 a1 =
    match mgetO a1 a0.kind with
    | some v1 =>
      if v1.term = true then
        bind (equality_CheckTerm a0.term) fun v3 =>
        if ¬ v3 = 0 then
          some v3
        else
        tactic_given__equality_CheckTerm_j0 a0 a1
      else
      tactic_given__equality_CheckTerm_j0 a0 a1
    | none =>
      tactic_given__equality_CheckTerm_j0 a0 a1 := tactic_given__equality_CheckTerm'.eq_def (a0, a1)
theorem tactic_given__equality_CheckTerm_j0_eq (a0 : ATactic) (a1 : (Option (List (Int × TacticForm)))) : tactic_given__equality_CheckTerm_j0 a0 a1 =
    tactic_given__equality_CheckTerm_l0 a0.kids a1 := tactic_given__equality_CheckTerm_j0'.eq_def (a0, a1)
theorem tactic_given__equality_CheckTerm_l0_eq (rest0 : (List ATactic)) (a1 : (Option (List (Int × TacticForm)))) : tactic_given__equality_CheckTerm_l0 rest0 a1 =
    match rest0 with
    | [] =>
      some 0
    | v27 :: rest0 =>
      bind (tactic_given__equality_CheckTerm v27 a1) fun v28 =>
      if ¬ v28 = 0 then
        some v28
      else
      tactic_given__equality_CheckTerm_l0 rest0 a1 := tactic_given__equality_CheckTerm_l0'.eq_def (rest0, a1)
def tactic_Check (a0 : ATactic) : Option Int :=
  bind (tactic_forms) fun v1 =>
  bind (tactic_formed a0 v1 1 0) fun v2 =>
  if v2.2 = true then
    bind (tactic_given__equality_CheckTerm a0 v1) fun v4 =>
    some v4
  else
  some 8
mutual
def terms_Twin' (a0 : Tm) : Option Tm :=
  bind (types_Twin a0.ty) fun v1 =>
  if 0 < ((Tm.Ds a0.sub).length : Int) then
    bind (mkn (Tm.mk 0 ByteArray.empty (Ty.mk false ByteArray.empty []) 0 []) ((Tm.Ds a0.sub).length : Int)) fun v3 =>
    terms_Twin_j0' (a0, v1, v3)
  else
  terms_Twin_j0b' (a0, v1)
  partial_fixpoint
def terms_Twin_j0' (p : (Tm × Ty × (List Tm))) : Option Tm := match p with
  | (a0, v1, v3) =>
    terms_Twin_l0' (0, v3, a0, v1)
  partial_fixpoint
def terms_Twin_l0' (p : (Int × (List Tm) × Tm × Ty)) : Option Tm := match p with
  | (t22_0, a2_0, a0, v1) =>
    if t22_0 < ((Tm.Ds a0.sub).length : Int) then
      bind (geti a0.sub t22_0) fun v24 =>
      bind (terms_Twin' v24) fun v25 =>
      bind (wantb (0 ≤ t22_0 ∧ t22_0 < (a2_0.length : Int))) fun g27 =>
      bind (seti a2_0 t22_0 v25) fun v28 =>
      bind (some (IntKind.wrap .i64 (t22_0 + 1))) fun v29 =>
      terms_Twin_l0' (v29, v28, a0, v1)
    else
    some (Tm.mk a0.kind a0.name v1 a0.index a2_0)
  partial_fixpoint
def terms_Twin_j0b' (p : (Tm × Ty)) : Option Tm := match p with
  | (a0, v1) =>
    terms_Twin_l0b' (a0, v1)
  partial_fixpoint
def terms_Twin_l0b' (p : (Tm × Ty)) : Option Tm := match p with
  | (a0, v1) =>
    if 0 < ((Tm.Ds a0.sub).length : Int) then
      bind (geti a0.sub 0) fun v24 =>
      bind (terms_Twin' v24) fun v25 =>
      none
    else
    some (Tm.mk a0.kind a0.name v1 a0.index ([] : List Tm))
  partial_fixpoint
end
def terms_Twin (a0 : Tm) : Option Tm := terms_Twin' a0
def terms_Twin_j0 (a0 : Tm) (v1 : Ty) (v3 : (List Tm)) : Option Tm := terms_Twin_j0' (a0, v1, v3)
def terms_Twin_l0 (t22_0 : Int) (a2_0 : (List Tm)) (a0 : Tm) (v1 : Ty) : Option Tm := terms_Twin_l0' (t22_0, a2_0, a0, v1)
def terms_Twin_j0b (a0 : Tm) (v1 : Ty) : Option Tm := terms_Twin_j0b' (a0, v1)
def terms_Twin_l0b (a0 : Tm) (v1 : Ty) : Option Tm := terms_Twin_l0b' (a0, v1)
theorem terms_Twin_eq (a0 : Tm) : terms_Twin a0 =
    bind (types_Twin a0.ty) fun v1 =>
    if 0 < ((Tm.Ds a0.sub).length : Int) then
      bind (mkn (Tm.mk 0 ByteArray.empty (Ty.mk false ByteArray.empty []) 0 []) ((Tm.Ds a0.sub).length : Int)) fun v3 =>
      terms_Twin_j0 a0 v1 v3
    else
    terms_Twin_j0b a0 v1 := terms_Twin'.eq_def a0
theorem terms_Twin_j0_eq (a0 : Tm) (v1 : Ty) (v3 : (List Tm)) : terms_Twin_j0 a0 v1 v3 =
    terms_Twin_l0 0 v3 a0 v1 := terms_Twin_j0'.eq_def (a0, v1, v3)
theorem terms_Twin_l0_eq (t22_0 : Int) (a2_0 : (List Tm)) (a0 : Tm) (v1 : Ty) : terms_Twin_l0 t22_0 a2_0 a0 v1 =
    if t22_0 < ((Tm.Ds a0.sub).length : Int) then
      bind (geti a0.sub t22_0) fun v24 =>
      bind (terms_Twin v24) fun v25 =>
      bind (wantb (0 ≤ t22_0 ∧ t22_0 < (a2_0.length : Int))) fun g27 =>
      bind (seti a2_0 t22_0 v25) fun v28 =>
      bind (some (IntKind.wrap .i64 (t22_0 + 1))) fun v29 =>
      terms_Twin_l0 v29 v28 a0 v1
    else
    some (Tm.mk a0.kind a0.name v1 a0.index a2_0) := terms_Twin_l0'.eq_def (t22_0, a2_0, a0, v1)
theorem terms_Twin_j0b_eq (a0 : Tm) (v1 : Ty) : terms_Twin_j0b a0 v1 =
    terms_Twin_l0b a0 v1 := terms_Twin_j0b'.eq_def (a0, v1)
theorem terms_Twin_l0b_eq (a0 : Tm) (v1 : Ty) : terms_Twin_l0b a0 v1 =
    if 0 < ((Tm.Ds a0.sub).length : Int) then
      bind (geti a0.sub 0) fun v24 =>
      bind (terms_Twin v24) fun v25 =>
      none
    else
    some (Tm.mk a0.kind a0.name v1 a0.index ([] : List Tm)) := terms_Twin_l0b'.eq_def (a0, v1)
def terms_Twin_ar_l0' (p : (Int × (List Tm) × Tm × Ty)) : Option (Int × ByteArray × Bool × ByteArray × (List Ty) × Int × (List Tm)) := match p with
  | (t22_0, a3_0, a0, v1) =>
    if t22_0 < ((Tm.Ds a0.sub).length : Int) then
      bind (geti a0.sub t22_0) fun v24 =>
      bind (terms_Twin v24) fun v25 =>
      bind (wantb (0 ≤ t22_0 ∧ t22_0 < (a3_0.length : Int))) fun g27 =>
      bind (seti a3_0 t22_0 v25) fun v28 =>
      bind (some (IntKind.wrap .i64 (t22_0 + 1))) fun v29 =>
      terms_Twin_ar_l0' (v29, v28, a0, v1)
    else
    some (a0.kind, a0.name, v1.v, v1.name, v1.args, a0.index, a3_0)
  partial_fixpoint
def terms_Twin_ar_l0 (t22_0 : Int) (a3_0 : (List Tm)) (a0 : Tm) (v1 : Ty) : Option (Int × ByteArray × Bool × ByteArray × (List Ty) × Int × (List Tm)) := terms_Twin_ar_l0' (t22_0, a3_0, a0, v1)
theorem terms_Twin_ar_l0_eq (t22_0 : Int) (a3_0 : (List Tm)) (a0 : Tm) (v1 : Ty) : terms_Twin_ar_l0 t22_0 a3_0 a0 v1 =
    if t22_0 < ((Tm.Ds a0.sub).length : Int) then
      bind (geti a0.sub t22_0) fun v24 =>
      bind (terms_Twin v24) fun v25 =>
      bind (wantb (0 ≤ t22_0 ∧ t22_0 < (a3_0.length : Int))) fun g27 =>
      bind (seti a3_0 t22_0 v25) fun v28 =>
      bind (some (IntKind.wrap .i64 (t22_0 + 1))) fun v29 =>
      terms_Twin_ar_l0 v29 v28 a0 v1
    else
    some (a0.kind, a0.name, v1.v, v1.name, v1.args, a0.index, a3_0) := terms_Twin_ar_l0'.eq_def (t22_0, a3_0, a0, v1)
def terms_Twin_ar_j0 (a0 : Tm) (v1 : Ty) (v3 : (List Tm)) : Option (Int × ByteArray × Bool × ByteArray × (List Ty) × Int × (List Tm)) :=
  terms_Twin_ar_l0 0 v3 a0 v1
def terms_Twin_ar_l0b (a0 : Tm) (v1 : Ty) : Option (Int × ByteArray × Bool × ByteArray × (List Ty) × Int × (List Tm)) :=
  if 0 < ((Tm.Ds a0.sub).length : Int) then
    bind (geti a0.sub 0) fun v24 =>
    bind (terms_Twin v24) fun v25 =>
    none
  else
  some (a0.kind, a0.name, v1.v, v1.name, v1.args, a0.index, ([] : List Tm))
def terms_Twin_ar_j0b (a0 : Tm) (v1 : Ty) : Option (Int × ByteArray × Bool × ByteArray × (List Ty) × Int × (List Tm)) :=
  terms_Twin_ar_l0b a0 v1
def terms_Twin_ar (a0 : Tm) : Option (Int × ByteArray × Bool × ByteArray × (List Ty) × Int × (List Tm)) :=
  bind (types_Twin a0.ty) fun v1 =>
  if 0 < ((Tm.Ds a0.sub).length : Int) then
    bind (mkn (Tm.mk 0 ByteArray.empty (Ty.mk false ByteArray.empty []) 0 []) ((Tm.Ds a0.sub).length : Int)) fun v3 =>
    terms_Twin_ar_j0 a0 v1 v3
  else
  terms_Twin_ar_j0b a0 v1
mutual
def tactic_Twin' (a0 : ATactic) : Option ATactic :=
  bind (terms_Twin a0.term) fun v1 =>
  tactic_Twin_l0' (a0.kids, ([] : List ATactic), a0, v1)
  partial_fixpoint
def tactic_Twin_l0' (p : ((List ATactic) × (List ATactic) × ATactic × Tm)) : Option ATactic := match p with
  | (rest0, c0_10_0, a0, v1) =>
    match rest0 with
    | [] =>
      some (ATactic.mk a0.kind a0.at_ a0.to_ v1 c0_10_0)
    | v16 :: rest0 =>
      bind (tactic_Twin' v16) fun v17 =>
      bind (app c0_10_0 ([v17])) fun v18 =>
      tactic_Twin_l0' (rest0, v18, a0, v1)
  partial_fixpoint
end
def tactic_Twin (a0 : ATactic) : Option ATactic := tactic_Twin' a0
def tactic_Twin_l0 (rest0 : (List ATactic)) (c0_10_0 : (List ATactic)) (a0 : ATactic) (v1 : Tm) : Option ATactic := tactic_Twin_l0' (rest0, c0_10_0, a0, v1)
theorem tactic_Twin_eq (a0 : ATactic) : tactic_Twin a0 =
    bind (terms_Twin a0.term) fun v1 =>
    tactic_Twin_l0 a0.kids ([] : List ATactic) a0 v1 := tactic_Twin'.eq_def a0
theorem tactic_Twin_l0_eq (rest0 : (List ATactic)) (c0_10_0 : (List ATactic)) (a0 : ATactic) (v1 : Tm) : tactic_Twin_l0 rest0 c0_10_0 a0 v1 =
    match rest0 with
    | [] =>
      some (ATactic.mk a0.kind a0.at_ a0.to_ v1 c0_10_0)
    | v16 :: rest0 =>
      bind (tactic_Twin v16) fun v17 =>
      bind (app c0_10_0 ([v17])) fun v18 =>
      tactic_Twin_l0 rest0 v18 a0 v1 := tactic_Twin_l0'.eq_def (rest0, c0_10_0, a0, v1)
def tactic_Twin_ar_l0' (p : ((List ATactic) × (List ATactic) × ATactic × (Int × ByteArray × Bool × ByteArray × (List Ty) × Int × (List Tm)))) : Option (Int × Int × Int × Int × ByteArray × Bool × ByteArray × (List Ty) × Int × (List Tm) × (List ATactic)) := match p with
  | (rest0, c1_10_0, a0, v1) =>
    match rest0 with
    | [] =>
      some (a0.kind, a0.at_, a0.to_, v1.1, v1.2.1, v1.2.2.1, v1.2.2.2.1, v1.2.2.2.2.1, v1.2.2.2.2.2.1, v1.2.2.2.2.2.2, c1_10_0)
    | v16 :: rest0 =>
      bind (tactic_Twin v16) fun v17 =>
      bind (app c1_10_0 ([v17])) fun v18 =>
      tactic_Twin_ar_l0' (rest0, v18, a0, v1)
  partial_fixpoint
def tactic_Twin_ar_l0 (rest0 : (List ATactic)) (c1_10_0 : (List ATactic)) (a0 : ATactic) (v1 : (Int × ByteArray × Bool × ByteArray × (List Ty) × Int × (List Tm))) : Option (Int × Int × Int × Int × ByteArray × Bool × ByteArray × (List Ty) × Int × (List Tm) × (List ATactic)) := tactic_Twin_ar_l0' (rest0, c1_10_0, a0, v1)
theorem tactic_Twin_ar_l0_eq (rest0 : (List ATactic)) (c1_10_0 : (List ATactic)) (a0 : ATactic) (v1 : (Int × ByteArray × Bool × ByteArray × (List Ty) × Int × (List Tm))) : tactic_Twin_ar_l0 rest0 c1_10_0 a0 v1 =
    match rest0 with
    | [] =>
      some (a0.kind, a0.at_, a0.to_, v1.1, v1.2.1, v1.2.2.1, v1.2.2.2.1, v1.2.2.2.2.1, v1.2.2.2.2.2.1, v1.2.2.2.2.2.2, c1_10_0)
    | v16 :: rest0 =>
      bind (tactic_Twin v16) fun v17 =>
      bind (app c1_10_0 ([v17])) fun v18 =>
      tactic_Twin_ar_l0 rest0 v18 a0 v1 := tactic_Twin_ar_l0'.eq_def (rest0, c1_10_0, a0, v1)
def tactic_Twin_ar (a0 : ATactic) : Option (Int × Int × Int × Int × ByteArray × Bool × ByteArray × (List Ty) × Int × (List Tm) × (List ATactic)) :=
  bind (terms_Twin_ar a0.term) fun v1 =>
  tactic_Twin_ar_l0 a0.kids ([] : List ATactic) a0 v1
mutual
def sequentref29_Size' (a0 : ATactic) : Option Int :=
  sequentref29_Size_l0' (a0.kids, 1)
  partial_fixpoint
def sequentref29_Size_l0' (p : ((List ATactic) × Int)) : Option Int := match p with
  | (rest0, t3_0) =>
    match rest0 with
    | [] =>
      some t3_0
    | v5 :: rest0 =>
      bind (sequentref29_Size' v5) fun v6 =>
      bind (some (IntKind.wrap .i64 (t3_0 + v6))) fun v7 =>
      sequentref29_Size_l0' (rest0, v7)
  partial_fixpoint
end
def sequentref29_Size (a0 : ATactic) : Option Int := sequentref29_Size' a0
def sequentref29_Size_l0 (rest0 : (List ATactic)) (t3_0 : Int) : Option Int := sequentref29_Size_l0' (rest0, t3_0)
theorem sequentref29_Size_eq (a0 : ATactic) : sequentref29_Size a0 =
    sequentref29_Size_l0 a0.kids 1 := sequentref29_Size'.eq_def a0
theorem sequentref29_Size_l0_eq (rest0 : (List ATactic)) (t3_0 : Int) : sequentref29_Size_l0 rest0 t3_0 =
    match rest0 with
    | [] =>
      some t3_0
    | v5 :: rest0 =>
      bind (sequentref29_Size v5) fun v6 =>
      bind (some (IntKind.wrap .i64 (t3_0 + v6))) fun v7 =>
      sequentref29_Size_l0 rest0 v7 := sequentref29_Size_l0'.eq_def (rest0, t3_0)
mutual
def sequentref29_Depth' (a0 : ATactic) : Option Int :=
  sequentref29_Depth_l0' (a0.kids, 0)
  partial_fixpoint
def sequentref29_Depth_l0' (p : ((List ATactic) × Int)) : Option Int := match p with
  | (rest0, t3_0) =>
    match rest0 with
    | [] =>
      bind (some (IntKind.wrap .i64 (t3_0 + 1))) fun v6 =>
      some v6
    | v5 :: rest0 =>
      bind (sequentref29_Depth' v5) fun v6 =>
      sequentref29_Depth_l0' (rest0, (max t3_0 v6))
  partial_fixpoint
end
def sequentref29_Depth (a0 : ATactic) : Option Int := sequentref29_Depth' a0
def sequentref29_Depth_l0 (rest0 : (List ATactic)) (t3_0 : Int) : Option Int := sequentref29_Depth_l0' (rest0, t3_0)
theorem sequentref29_Depth_eq (a0 : ATactic) : sequentref29_Depth a0 =
    sequentref29_Depth_l0 a0.kids 0 := sequentref29_Depth'.eq_def a0
theorem sequentref29_Depth_l0_eq (rest0 : (List ATactic)) (t3_0 : Int) : sequentref29_Depth_l0 rest0 t3_0 =
    match rest0 with
    | [] =>
      bind (some (IntKind.wrap .i64 (t3_0 + 1))) fun v6 =>
      some v6
    | v5 :: rest0 =>
      bind (sequentref29_Depth v5) fun v6 =>
      sequentref29_Depth_l0 rest0 (max t3_0 v6) := sequentref29_Depth_l0'.eq_def (rest0, t3_0)
def sequentref29_kids (a0 : Int) : Option Int :=
  if 1 ≤ a0 then
    if a0 ≤ 24 then
      some 0
    else
    if a0 = 50 then
      some 2
    else
    if a0 = 52 then
      some 2
    else
    if a0 = 53 then
      some 1
    else
    if a0 = 54 then
      some 1
    else
    some (-1)
  else
  if a0 = 50 then
    some 2
  else
  if a0 = 52 then
    some 2
  else
  if a0 = 53 then
    some 1
  else
  if a0 = 54 then
    some 1
  else
  some (-1)
def sequentref29_usesAt (a0 : Int) : Option Bool :=
  if a0 = 6 then
    some true
  else
  if 19 ≤ a0 then
    some (decide (a0 ≤ 24))
  else
  some false
def sequentref29_usesTerm (a0 : Int) : Option Bool :=
  if a0 = 13 then
    some true
  else
  if a0 = 18 then
    some true
  else
  some (decide (a0 = 23))
def sequentref29_Blank (a0 : Tm) : Option Bool :=
  if a0.kind = 0 then
    if a0.name = ByteArray.empty then
      if a0.ty.v = true then
        some false
      else
      if a0.ty.name = ByteArray.empty then
        if ((Ty.Ds a0.ty.args).length : Int) = 0 then
          if a0.index = 0 then
            some (decide (((Tm.Ds a0.sub).length : Int) = 0))
          else
          some false
        else
        some false
      else
      some false
    else
    some false
  else
  some false
mutual
def sequentref29_shape' (a0 : ATactic) : Option Bool :=
  bind (sequentref29_kids a0.kind) fun v1 =>
  if ¬ ((ATactic.Ds a0.kids).length : Int) = v1 then
    if ¬ a0.kind = 51 then
      some false
    else
    if ((ATactic.Ds a0.kids).length : Int) < 1 then
      some false
    else
    if 65 < ((ATactic.Ds a0.kids).length : Int) then
      some false
    else
    sequentref29_shape_j0' a0
  else
  sequentref29_shape_j0' a0
  partial_fixpoint
def sequentref29_shape_j0' (a0 : ATactic) : Option Bool :=
  bind (sequentref29_usesAt a0.kind) fun v2 =>
  if v2 = true then
    if ¬ a0.kind = 24 then
      if ¬ a0.to_ = 0 then
        some false
      else
      bind (sequentref29_usesTerm a0.kind) fun v6 =>
      if v6 = true then
        sequentref29_shape_j1' a0
      else
      bind (sequentref29_Blank a0.term) fun v8 =>
      if v8 = true then
        sequentref29_shape_j1' a0
      else
      some false
    else
    bind (sequentref29_usesTerm a0.kind) fun v5 =>
    if v5 = true then
      sequentref29_shape_j1' a0
    else
    bind (sequentref29_Blank a0.term) fun v7 =>
    if v7 = true then
      sequentref29_shape_j1' a0
    else
    some false
  else
  if ¬ a0.at_ = 0 then
    some false
  else
  if ¬ a0.kind = 24 then
    if ¬ a0.to_ = 0 then
      some false
    else
    bind (sequentref29_usesTerm a0.kind) fun v7 =>
    if v7 = true then
      sequentref29_shape_j1' a0
    else
    bind (sequentref29_Blank a0.term) fun v9 =>
    if v9 = true then
      sequentref29_shape_j1' a0
    else
    some false
  else
  bind (sequentref29_usesTerm a0.kind) fun v6 =>
  if v6 = true then
    sequentref29_shape_j1' a0
  else
  bind (sequentref29_Blank a0.term) fun v8 =>
  if v8 = true then
    sequentref29_shape_j1' a0
  else
  some false
  partial_fixpoint
def sequentref29_shape_j1' (a0 : ATactic) : Option Bool :=
  sequentref29_shape_l0' a0.kids
  partial_fixpoint
def sequentref29_shape_l0' (rest0 : (List ATactic)) : Option Bool :=
  match rest0 with
  | [] =>
    some true
  | v11 :: rest0 =>
    bind (sequentref29_shape' v11) fun v12 =>
    if v12 = true then
      sequentref29_shape_l0' rest0
    else
    some false
  partial_fixpoint
end
def sequentref29_shape (a0 : ATactic) : Option Bool := sequentref29_shape' a0
def sequentref29_shape_j0 (a0 : ATactic) : Option Bool := sequentref29_shape_j0' a0
def sequentref29_shape_j1 (a0 : ATactic) : Option Bool := sequentref29_shape_j1' a0
def sequentref29_shape_l0 (rest0 : (List ATactic)) : Option Bool := sequentref29_shape_l0' rest0
theorem sequentref29_shape_eq (a0 : ATactic) : sequentref29_shape a0 =
    bind (sequentref29_kids a0.kind) fun v1 =>
    if ¬ ((ATactic.Ds a0.kids).length : Int) = v1 then
      if ¬ a0.kind = 51 then
        some false
      else
      if ((ATactic.Ds a0.kids).length : Int) < 1 then
        some false
      else
      if 65 < ((ATactic.Ds a0.kids).length : Int) then
        some false
      else
      sequentref29_shape_j0 a0
    else
    sequentref29_shape_j0 a0 := sequentref29_shape'.eq_def a0
theorem sequentref29_shape_j0_eq (a0 : ATactic) : sequentref29_shape_j0 a0 =
    bind (sequentref29_usesAt a0.kind) fun v2 =>
    if v2 = true then
      if ¬ a0.kind = 24 then
        if ¬ a0.to_ = 0 then
          some false
        else
        bind (sequentref29_usesTerm a0.kind) fun v6 =>
        if v6 = true then
          sequentref29_shape_j1 a0
        else
        bind (sequentref29_Blank a0.term) fun v8 =>
        if v8 = true then
          sequentref29_shape_j1 a0
        else
        some false
      else
      bind (sequentref29_usesTerm a0.kind) fun v5 =>
      if v5 = true then
        sequentref29_shape_j1 a0
      else
      bind (sequentref29_Blank a0.term) fun v7 =>
      if v7 = true then
        sequentref29_shape_j1 a0
      else
      some false
    else
    if ¬ a0.at_ = 0 then
      some false
    else
    if ¬ a0.kind = 24 then
      if ¬ a0.to_ = 0 then
        some false
      else
      bind (sequentref29_usesTerm a0.kind) fun v7 =>
      if v7 = true then
        sequentref29_shape_j1 a0
      else
      bind (sequentref29_Blank a0.term) fun v9 =>
      if v9 = true then
        sequentref29_shape_j1 a0
      else
      some false
    else
    bind (sequentref29_usesTerm a0.kind) fun v6 =>
    if v6 = true then
      sequentref29_shape_j1 a0
    else
    bind (sequentref29_Blank a0.term) fun v8 =>
    if v8 = true then
      sequentref29_shape_j1 a0
    else
    some false := sequentref29_shape_j0'.eq_def a0
theorem sequentref29_shape_j1_eq (a0 : ATactic) : sequentref29_shape_j1 a0 =
    sequentref29_shape_l0 a0.kids := sequentref29_shape_j1'.eq_def a0
theorem sequentref29_shape_l0_eq (rest0 : (List ATactic)) : sequentref29_shape_l0 rest0 =
    match rest0 with
    | [] =>
      some true
    | v11 :: rest0 =>
      bind (sequentref29_shape v11) fun v12 =>
      if v12 = true then
        sequentref29_shape_l0 rest0
      else
      some false := sequentref29_shape_l0'.eq_def rest0
mutual
def sequentref29_Given_io' (p : ((List Tm) × ATactic)) : Option (List Tm) := match p with
  | (a0, a1) =>
    bind (sequentref29_usesTerm a1.kind) fun v1 =>
    if v1 = true then
      bind (app a0 ([a1.term])) fun v3 =>
      sequentref29_Given_io_j0' (v3, a1)
    else
    sequentref29_Given_io_j0' (a0, a1)
  partial_fixpoint
def sequentref29_Given_io_j0' (p : ((List Tm) × ATactic)) : Option (List Tm) := match p with
  | (t0_1, a1) =>
    sequentref29_Given_io_l0' (a1.kids, t0_1)
  partial_fixpoint
def sequentref29_Given_io_l0' (p : ((List ATactic) × (List Tm))) : Option (List Tm) := match p with
  | (rest0, t0_0) =>
    match rest0 with
    | [] =>
      some t0_0
    | v6 :: rest0 =>
      bind (sequentref29_Given_io' (t0_0, v6)) fun v7 =>
      sequentref29_Given_io_l0' (rest0, v7)
  partial_fixpoint
end
def sequentref29_Given_io (a0 : (List Tm)) (a1 : ATactic) : Option (List Tm) := sequentref29_Given_io' (a0, a1)
def sequentref29_Given_io_j0 (t0_1 : (List Tm)) (a1 : ATactic) : Option (List Tm) := sequentref29_Given_io_j0' (t0_1, a1)
def sequentref29_Given_io_l0 (rest0 : (List ATactic)) (t0_0 : (List Tm)) : Option (List Tm) := sequentref29_Given_io_l0' (rest0, t0_0)
theorem sequentref29_Given_io_eq (a0 : (List Tm)) (a1 : ATactic) : sequentref29_Given_io a0 a1 =
    bind (sequentref29_usesTerm a1.kind) fun v1 =>
    if v1 = true then
      bind (app a0 ([a1.term])) fun v3 =>
      sequentref29_Given_io_j0 v3 a1
    else
    sequentref29_Given_io_j0 a0 a1 := sequentref29_Given_io'.eq_def (a0, a1)
theorem sequentref29_Given_io_j0_eq (t0_1 : (List Tm)) (a1 : ATactic) : sequentref29_Given_io_j0 t0_1 a1 =
    sequentref29_Given_io_l0 a1.kids t0_1 := sequentref29_Given_io_j0'.eq_def (t0_1, a1)
theorem sequentref29_Given_io_l0_eq (rest0 : (List ATactic)) (t0_0 : (List Tm)) : sequentref29_Given_io_l0 rest0 t0_0 =
    match rest0 with
    | [] =>
      some t0_0
    | v6 :: rest0 =>
      bind (sequentref29_Given_io t0_0 v6) fun v7 =>
      sequentref29_Given_io_l0 rest0 v7 := sequentref29_Given_io_l0'.eq_def (rest0, t0_0)
def sequentref01_Name_l0' (p : (Int × ByteArray)) : Option Bool := match p with
  | (t3_0, a0) =>
    if t3_0 < (a0.size : Int) then
      bind (getb a0 t3_0) fun v5 =>
      if v5 < 33 then
        some false
      else
      if 126 < v5 then
        some false
      else
      if v5 = 40 then
        some false
      else
      if v5 = 41 then
        some false
      else
      if v5 = 44 then
        some false
      else
      if v5 = 58 then
        some false
      else
      if v5 = 92 then
        some false
      else
      if v5 = 46 then
        some false
      else
      if v5 = 34 then
        some false
      else
      bind (some (IntKind.wrap .i64 (t3_0 + 1))) fun v15 =>
      sequentref01_Name_l0' (v15, a0)
    else
    some true
  partial_fixpoint
def sequentref01_Name_l0 (t3_0 : Int) (a0 : ByteArray) : Option Bool := sequentref01_Name_l0' (t3_0, a0)
theorem sequentref01_Name_l0_eq (t3_0 : Int) (a0 : ByteArray) : sequentref01_Name_l0 t3_0 a0 =
    if t3_0 < (a0.size : Int) then
      bind (getb a0 t3_0) fun v5 =>
      if v5 < 33 then
        some false
      else
      if 126 < v5 then
        some false
      else
      if v5 = 40 then
        some false
      else
      if v5 = 41 then
        some false
      else
      if v5 = 44 then
        some false
      else
      if v5 = 58 then
        some false
      else
      if v5 = 92 then
        some false
      else
      if v5 = 46 then
        some false
      else
      if v5 = 34 then
        some false
      else
      bind (some (IntKind.wrap .i64 (t3_0 + 1))) fun v15 =>
      sequentref01_Name_l0 v15 a0
    else
    some true := sequentref01_Name_l0'.eq_def (t3_0, a0)
def sequentref01_Name (a0 : ByteArray) : Option Bool :=
  if (a0.size : Int) < 1 then
    some false
  else
  if 30 < (a0.size : Int) then
    some false
  else
  sequentref01_Name_l0 0 a0
def sequentref02_Name (a0 : ByteArray) : Option Bool :=
  bind (sequentref01_Name a0) fun v1 =>
  if v1 = true then
    bind (getb a0 0) fun v3 =>
    some (decide (¬ v3 = 39))
  else
  some false
mutual
def sequentref01_Size' (a0 : Ty) : Option Int :=
  sequentref01_Size_l0' (a0.args, 1)
  partial_fixpoint
def sequentref01_Size_l0' (p : ((List Ty) × Int)) : Option Int := match p with
  | (rest0, t3_0) =>
    match rest0 with
    | [] =>
      some t3_0
    | v5 :: rest0 =>
      bind (sequentref01_Size' v5) fun v6 =>
      bind (some (IntKind.wrap .i64 (t3_0 + v6))) fun v7 =>
      sequentref01_Size_l0' (rest0, v7)
  partial_fixpoint
end
def sequentref01_Size (a0 : Ty) : Option Int := sequentref01_Size' a0
def sequentref01_Size_l0 (rest0 : (List Ty)) (t3_0 : Int) : Option Int := sequentref01_Size_l0' (rest0, t3_0)
theorem sequentref01_Size_eq (a0 : Ty) : sequentref01_Size a0 =
    sequentref01_Size_l0 a0.args 1 := sequentref01_Size'.eq_def a0
theorem sequentref01_Size_l0_eq (rest0 : (List Ty)) (t3_0 : Int) : sequentref01_Size_l0 rest0 t3_0 =
    match rest0 with
    | [] =>
      some t3_0
    | v5 :: rest0 =>
      bind (sequentref01_Size v5) fun v6 =>
      bind (some (IntKind.wrap .i64 (t3_0 + v6))) fun v7 =>
      sequentref01_Size_l0 rest0 v7 := sequentref01_Size_l0'.eq_def (rest0, t3_0)
mutual
def sequentref01_Depth' (a0 : Ty) : Option Int :=
  sequentref01_Depth_l0' (a0.args, 0)
  partial_fixpoint
def sequentref01_Depth_l0' (p : ((List Ty) × Int)) : Option Int := match p with
  | (rest0, t3_0) =>
    match rest0 with
    | [] =>
      bind (some (IntKind.wrap .i64 (1 + t3_0))) fun v6 =>
      some v6
    | v5 :: rest0 =>
      bind (sequentref01_Depth' v5) fun v6 =>
      sequentref01_Depth_l0' (rest0, (max t3_0 v6))
  partial_fixpoint
end
def sequentref01_Depth (a0 : Ty) : Option Int := sequentref01_Depth' a0
def sequentref01_Depth_l0 (rest0 : (List Ty)) (t3_0 : Int) : Option Int := sequentref01_Depth_l0' (rest0, t3_0)
theorem sequentref01_Depth_eq (a0 : Ty) : sequentref01_Depth a0 =
    sequentref01_Depth_l0 a0.args 0 := sequentref01_Depth'.eq_def a0
theorem sequentref01_Depth_l0_eq (rest0 : (List Ty)) (t3_0 : Int) : sequentref01_Depth_l0 rest0 t3_0 =
    match rest0 with
    | [] =>
      bind (some (IntKind.wrap .i64 (1 + t3_0))) fun v6 =>
      some v6
    | v5 :: rest0 =>
      bind (sequentref01_Depth v5) fun v6 =>
      sequentref01_Depth_l0 rest0 (max t3_0 v6) := sequentref01_Depth_l0'.eq_def (rest0, t3_0)
def sequentref01_Small (a0 : Ty) : Option Bool :=
  bind (sequentref01_Size a0) fun v1 =>
  if v1 ≤ 500 then
    bind (sequentref01_Depth a0) fun v3 =>
    some (decide (v3 ≤ 200))
  else
  some false
mutual
def sequentref01_shape' (a0 : Ty) : Option Bool :=
  bind (sequentref01_Name a0.name) fun v1 =>
  if v1 = true then
    bind (getb a0.name 0) fun v3 =>
    if ¬ a0.v = (decide (v3 = 39)) then
      some false
    else
    if a0.v = true then
      if 0 < ((Ty.Ds a0.args).length : Int) then
        some false
      else
      if 8 < ((Ty.Ds a0.args).length : Int) then
        some false
      else
      sequentref01_shape_j0' a0
    else
    if 8 < ((Ty.Ds a0.args).length : Int) then
      some false
    else
    sequentref01_shape_j0' a0
  else
  some false
  partial_fixpoint
def sequentref01_shape_j0' (a0 : Ty) : Option Bool :=
  sequentref01_shape_l0' a0.args
  partial_fixpoint
def sequentref01_shape_l0' (rest0 : (List Ty)) : Option Bool :=
  match rest0 with
  | [] =>
    some true
  | v4 :: rest0 =>
    bind (sequentref01_shape' v4) fun v5 =>
    if v5 = true then
      sequentref01_shape_l0' rest0
    else
    some false
  partial_fixpoint
end
def sequentref01_shape (a0 : Ty) : Option Bool := sequentref01_shape' a0
def sequentref01_shape_j0 (a0 : Ty) : Option Bool := sequentref01_shape_j0' a0
def sequentref01_shape_l0 (rest0 : (List Ty)) : Option Bool := sequentref01_shape_l0' rest0
theorem sequentref01_shape_eq (a0 : Ty) : sequentref01_shape a0 =
    bind (sequentref01_Name a0.name) fun v1 =>
    if v1 = true then
      bind (getb a0.name 0) fun v3 =>
      if ¬ a0.v = (decide (v3 = 39)) then
        some false
      else
      if a0.v = true then
        if 0 < ((Ty.Ds a0.args).length : Int) then
          some false
        else
        if 8 < ((Ty.Ds a0.args).length : Int) then
          some false
        else
        sequentref01_shape_j0 a0
      else
      if 8 < ((Ty.Ds a0.args).length : Int) then
        some false
      else
      sequentref01_shape_j0 a0
    else
    some false := sequentref01_shape'.eq_def a0
theorem sequentref01_shape_j0_eq (a0 : Ty) : sequentref01_shape_j0 a0 =
    sequentref01_shape_l0 a0.args := sequentref01_shape_j0'.eq_def a0
theorem sequentref01_shape_l0_eq (rest0 : (List Ty)) : sequentref01_shape_l0 rest0 =
    match rest0 with
    | [] =>
      some true
    | v4 :: rest0 =>
      bind (sequentref01_shape v4) fun v5 =>
      if v5 = true then
        sequentref01_shape_l0 rest0
      else
      some false := sequentref01_shape_l0'.eq_def rest0
def sequentref01_Valid (a0 : Ty) : Option Bool :=
  bind (sequentref01_Small a0) fun v1 =>
  if v1 = true then
    bind (sequentref01_shape a0) fun v3 =>
    some v3
  else
  some false
def sequentref02_none (a0 : Ty) : Option Bool :=
  if a0.v = true then
    some false
  else
  if a0.name = ByteArray.empty then
    some (decide (((Ty.Ds a0.args).length : Int) = 0))
  else
  some false
mutual
def sequentref01_Compare' (p : (Ty × Ty)) : Option Int := match p with
  | (a0, a1) =>
    if ¬ a0.v = a1.v then
      if a0.v = true then
        some (-1)
      else
      some 1
    else
    if ¬ a0.name = a1.name then
      if Op.bytesLess a0.name.toList a1.name.toList = true then
        some (-1)
      else
      some 1
    else
    if ¬ ((Ty.Ds a0.args).length : Int) = ((Ty.Ds a1.args).length : Int) then
      if ((Ty.Ds a0.args).length : Int) < ((Ty.Ds a1.args).length : Int) then
        some (-1)
      else
      some 1
    else
    sequentref01_Compare_l0' (a0.args, 0, a1)
  partial_fixpoint
def sequentref01_Compare_l0' (p : ((List Ty) × Nat × Ty)) : Option Int := match p with
  | (rest0, k0, a1) =>
    match rest0 with
    | [] =>
      some 0
    | v6 :: rest0 =>
      bind (geti a1.args (k0 : Int)) fun v7 =>
      bind (sequentref01_Compare' (v6, v7)) fun v8 =>
      if ¬ v8 = 0 then
        some v8
      else
      sequentref01_Compare_l0' (rest0, k0 + 1, a1)
  partial_fixpoint
end
def sequentref01_Compare (a0 : Ty) (a1 : Ty) : Option Int := sequentref01_Compare' (a0, a1)
def sequentref01_Compare_l0 (rest0 : (List Ty)) (k0 : Nat) (a1 : Ty) : Option Int := sequentref01_Compare_l0' (rest0, k0, a1)
theorem sequentref01_Compare_eq (a0 : Ty) (a1 : Ty) : sequentref01_Compare a0 a1 =
    if ¬ a0.v = a1.v then
      if a0.v = true then
        some (-1)
      else
      some 1
    else
    if ¬ a0.name = a1.name then
      if Op.bytesLess a0.name.toList a1.name.toList = true then
        some (-1)
      else
      some 1
    else
    if ¬ ((Ty.Ds a0.args).length : Int) = ((Ty.Ds a1.args).length : Int) then
      if ((Ty.Ds a0.args).length : Int) < ((Ty.Ds a1.args).length : Int) then
        some (-1)
      else
      some 1
    else
    sequentref01_Compare_l0 a0.args 0 a1 := sequentref01_Compare'.eq_def (a0, a1)
theorem sequentref01_Compare_l0_eq (rest0 : (List Ty)) (k0 : Nat) (a1 : Ty) : sequentref01_Compare_l0 rest0 k0 a1 =
    match rest0 with
    | [] =>
      some 0
    | v6 :: rest0 =>
      bind (geti a1.args (k0 : Int)) fun v7 =>
      bind (sequentref01_Compare v6 v7) fun v8 =>
      if ¬ v8 = 0 then
        some v8
      else
      sequentref01_Compare_l0 rest0 (k0 + 1) a1 := sequentref01_Compare_l0'.eq_def (rest0, k0, a1)
def sequentref01_Same (a0 : Ty) (a1 : Ty) : Option Bool :=
  bind (sequentref01_Compare a0 a1) fun v1 =>
  some (decide (v1 = 0))
def sequentref01_Fun (a0 : Ty) (a1 : Ty) : Option Ty :=
  bind (sequentref01_Twin a0) fun v1 =>
  bind (sequentref01_Twin a1) fun v2 =>
  some (Ty.mk false (ByteArray.mk #[102, 117, 110]) ([v1, v2]))
def sequentref02_Formed_j0 (a0 : Tm) (v14 : (Ty × Bool)) : Option (Ty × Bool) :=
  bind (sequentref01_Fun a0.ty v14.1) fun v15 =>
  if v14.2 = true then
    bind (sequentref01_Valid v15) fun v17 =>
    some (v15, v17)
  else
  some (v15, false)
def sequentref02_Formed' (p : (Tm × (List Ty))) : Option (Ty × Bool) := match p with
  | (a0, a1) =>
    if a0.kind = 1 then
      bind (sequentref02_Name a0.name) fun v2 =>
      if v2 = true then
        bind (sequentref01_Valid a0.ty) fun v4 =>
        if v4 = true then
          if a0.index = 0 then
            some (a0.ty, (decide (((Tm.Ds a0.sub).length : Int) = 0)))
          else
          some (a0.ty, false)
        else
        some (a0.ty, false)
      else
      some (a0.ty, false)
    else
    if a0.kind = 2 then
      bind (sequentref02_Name a0.name) fun v3 =>
      if v3 = true then
        bind (sequentref01_Valid a0.ty) fun v5 =>
        if v5 = true then
          if a0.index = 0 then
            some (a0.ty, (decide (((Tm.Ds a0.sub).length : Int) = 0)))
          else
          some (a0.ty, false)
        else
        some (a0.ty, false)
      else
      some (a0.ty, false)
    else
    if a0.kind = 3 then
      if ¬ a0.name = ByteArray.empty then
        some ((Ty.mk false ByteArray.empty ([] : List Ty)), false)
      else
      bind (sequentref02_none a0.ty) fun v5 =>
      if v5 = true then
        if ¬ ((Tm.Ds a0.sub).length : Int) = 0 then
          some ((Ty.mk false ByteArray.empty ([] : List Ty)), false)
        else
        if a0.index < 0 then
          some ((Ty.mk false ByteArray.empty ([] : List Ty)), false)
        else
        if ((Ty.Ds a1).length : Int) ≤ a0.index then
          some ((Ty.mk false ByteArray.empty ([] : List Ty)), false)
        else
        bind (geti a1 a0.index) fun v10 =>
        some (v10, true)
      else
      some ((Ty.mk false ByteArray.empty ([] : List Ty)), false)
    else
    if a0.kind = 4 then
      if ¬ a0.name = ByteArray.empty then
        some ((Ty.mk false ByteArray.empty ([] : List Ty)), false)
      else
      bind (sequentref02_none a0.ty) fun v6 =>
      if v6 = true then
        if ¬ a0.index = 0 then
          some ((Ty.mk false ByteArray.empty ([] : List Ty)), false)
        else
        if ¬ ((Tm.Ds a0.sub).length : Int) = 2 then
          some ((Ty.mk false ByteArray.empty ([] : List Ty)), false)
        else
        bind (geti a0.sub 0) fun v10 =>
        bind (sequentref02_Formed' (v10, a1)) fun v11 =>
        bind (geti a0.sub 1) fun v12 =>
        bind (sequentref02_Formed' (v12, a1)) fun v13 =>
        if v11.2 = true then
          if v13.2 = true then
            if v11.1.v = true then
              some ((Ty.mk false ByteArray.empty ([] : List Ty)), false)
            else
            if ¬ v11.1.name = (ByteArray.mk #[102, 117, 110]) then
              some ((Ty.mk false ByteArray.empty ([] : List Ty)), false)
            else
            if ¬ ((Ty.Ds v11.1.args).length : Int) = 2 then
              some ((Ty.mk false ByteArray.empty ([] : List Ty)), false)
            else
            bind (geti v11.1.args 0) fun v19 =>
            bind (sequentref01_Same v19 v13.1) fun v20 =>
            if v20 = true then
              bind (geti v11.1.args 1) fun v22 =>
              some (v22, true)
            else
            some ((Ty.mk false ByteArray.empty ([] : List Ty)), false)
          else
          some ((Ty.mk false ByteArray.empty ([] : List Ty)), false)
        else
        some ((Ty.mk false ByteArray.empty ([] : List Ty)), false)
      else
      some ((Ty.mk false ByteArray.empty ([] : List Ty)), false)
    else
    if a0.kind = 5 then
      bind (sequentref02_Name a0.name) fun v6 =>
      if v6 = true then
        bind (sequentref01_Valid a0.ty) fun v8 =>
        if v8 = true then
          if ¬ a0.index = 0 then
            some ((Ty.mk false ByteArray.empty ([] : List Ty)), false)
          else
          if ¬ ((Tm.Ds a0.sub).length : Int) = 1 then
            some ((Ty.mk false ByteArray.empty ([] : List Ty)), false)
          else
          bind (geti a0.sub 0) fun v12 =>
          bind (app ([a0.ty]) a1) fun v13 =>
          bind (sequentref02_Formed' (v12, v13)) fun v14 =>
          sequentref02_Formed_j0 a0 v14
        else
        some ((Ty.mk false ByteArray.empty ([] : List Ty)), false)
      else
      some ((Ty.mk false ByteArray.empty ([] : List Ty)), false)
    else
    some ((Ty.mk false ByteArray.empty ([] : List Ty)), false)
  partial_fixpoint
def sequentref02_Formed (a0 : Tm) (a1 : (List Ty)) : Option (Ty × Bool) := sequentref02_Formed' (a0, a1)
theorem sequentref02_Formed_eq (a0 : Tm) (a1 : (List Ty)) : sequentref02_Formed a0 a1 =
    if a0.kind = 1 then
      bind (sequentref02_Name a0.name) fun v2 =>
      if v2 = true then
        bind (sequentref01_Valid a0.ty) fun v4 =>
        if v4 = true then
          if a0.index = 0 then
            some (a0.ty, (decide (((Tm.Ds a0.sub).length : Int) = 0)))
          else
          some (a0.ty, false)
        else
        some (a0.ty, false)
      else
      some (a0.ty, false)
    else
    if a0.kind = 2 then
      bind (sequentref02_Name a0.name) fun v3 =>
      if v3 = true then
        bind (sequentref01_Valid a0.ty) fun v5 =>
        if v5 = true then
          if a0.index = 0 then
            some (a0.ty, (decide (((Tm.Ds a0.sub).length : Int) = 0)))
          else
          some (a0.ty, false)
        else
        some (a0.ty, false)
      else
      some (a0.ty, false)
    else
    if a0.kind = 3 then
      if ¬ a0.name = ByteArray.empty then
        some ((Ty.mk false ByteArray.empty ([] : List Ty)), false)
      else
      bind (sequentref02_none a0.ty) fun v5 =>
      if v5 = true then
        if ¬ ((Tm.Ds a0.sub).length : Int) = 0 then
          some ((Ty.mk false ByteArray.empty ([] : List Ty)), false)
        else
        if a0.index < 0 then
          some ((Ty.mk false ByteArray.empty ([] : List Ty)), false)
        else
        if ((Ty.Ds a1).length : Int) ≤ a0.index then
          some ((Ty.mk false ByteArray.empty ([] : List Ty)), false)
        else
        bind (geti a1 a0.index) fun v10 =>
        some (v10, true)
      else
      some ((Ty.mk false ByteArray.empty ([] : List Ty)), false)
    else
    if a0.kind = 4 then
      if ¬ a0.name = ByteArray.empty then
        some ((Ty.mk false ByteArray.empty ([] : List Ty)), false)
      else
      bind (sequentref02_none a0.ty) fun v6 =>
      if v6 = true then
        if ¬ a0.index = 0 then
          some ((Ty.mk false ByteArray.empty ([] : List Ty)), false)
        else
        if ¬ ((Tm.Ds a0.sub).length : Int) = 2 then
          some ((Ty.mk false ByteArray.empty ([] : List Ty)), false)
        else
        bind (geti a0.sub 0) fun v10 =>
        bind (sequentref02_Formed v10 a1) fun v11 =>
        bind (geti a0.sub 1) fun v12 =>
        bind (sequentref02_Formed v12 a1) fun v13 =>
        if v11.2 = true then
          if v13.2 = true then
            if v11.1.v = true then
              some ((Ty.mk false ByteArray.empty ([] : List Ty)), false)
            else
            if ¬ v11.1.name = (ByteArray.mk #[102, 117, 110]) then
              some ((Ty.mk false ByteArray.empty ([] : List Ty)), false)
            else
            if ¬ ((Ty.Ds v11.1.args).length : Int) = 2 then
              some ((Ty.mk false ByteArray.empty ([] : List Ty)), false)
            else
            bind (geti v11.1.args 0) fun v19 =>
            bind (sequentref01_Same v19 v13.1) fun v20 =>
            if v20 = true then
              bind (geti v11.1.args 1) fun v22 =>
              some (v22, true)
            else
            some ((Ty.mk false ByteArray.empty ([] : List Ty)), false)
          else
          some ((Ty.mk false ByteArray.empty ([] : List Ty)), false)
        else
        some ((Ty.mk false ByteArray.empty ([] : List Ty)), false)
      else
      some ((Ty.mk false ByteArray.empty ([] : List Ty)), false)
    else
    if a0.kind = 5 then
      bind (sequentref02_Name a0.name) fun v6 =>
      if v6 = true then
        bind (sequentref01_Valid a0.ty) fun v8 =>
        if v8 = true then
          if ¬ a0.index = 0 then
            some ((Ty.mk false ByteArray.empty ([] : List Ty)), false)
          else
          if ¬ ((Tm.Ds a0.sub).length : Int) = 1 then
            some ((Ty.mk false ByteArray.empty ([] : List Ty)), false)
          else
          bind (geti a0.sub 0) fun v12 =>
          bind (app ([a0.ty]) a1) fun v13 =>
          bind (sequentref02_Formed v12 v13) fun v14 =>
          sequentref02_Formed_j0 a0 v14
        else
        some ((Ty.mk false ByteArray.empty ([] : List Ty)), false)
      else
      some ((Ty.mk false ByteArray.empty ([] : List Ty)), false)
    else
    some ((Ty.mk false ByteArray.empty ([] : List Ty)), false) := sequentref02_Formed'.eq_def (a0, a1)
def sequentref02_Check (a0 : Tm) : Option Int :=
  bind (sequentref02_Small a0) fun v1 =>
  if v1 = true then
    bind (sequentref02_Formed a0 ([] : List Ty)) fun v3 =>
    if v3.2 = true then
      some 0
    else
    some 20
  else
  some 21
def sequentref08_thin_j0 (a0 : Tm) (v6 : (Ty × Bool)) : Option (Ty × Bool) :=
  if v6.2 = true then
    bind (sequentref01_Fun a0.ty v6.1) fun v8 =>
    bind (sequentref01_Size v8) fun v9 =>
    some (v8, (decide (v9 ≤ 100)))
  else
  some (v6.1, false)
def sequentref08_thin' (p : (Tm × (List Ty))) : Option (Ty × Bool) := match p with
  | (a0, a1) =>
    if a0.kind = 3 then
      bind (geti a1 a0.index) fun v2 =>
      bind (sequentref01_Size v2) fun v3 =>
      some (v2, (decide (v3 ≤ 100)))
    else
    if a0.kind = 4 then
      bind (geti a0.sub 0) fun v3 =>
      bind (sequentref08_thin' (v3, a1)) fun v4 =>
      bind (geti a0.sub 1) fun v5 =>
      bind (sequentref08_thin' (v5, a1)) fun v6 =>
      if v4.2 = true then
        if v6.2 = true then
          bind (geti v4.1.args 1) fun v9 =>
          bind (sequentref01_Size v9) fun v10 =>
          some (v9, (decide (v10 ≤ 100)))
        else
        some (v4.1, false)
      else
      some (v4.1, false)
    else
    if a0.kind = 5 then
      bind (geti a0.sub 0) fun v4 =>
      bind (app ([a0.ty]) a1) fun v5 =>
      bind (sequentref08_thin' (v4, v5)) fun v6 =>
      sequentref08_thin_j0 a0 v6
    else
    bind (sequentref01_Size a0.ty) fun v4 =>
    some (a0.ty, (decide (v4 ≤ 100)))
  partial_fixpoint
def sequentref08_thin (a0 : Tm) (a1 : (List Ty)) : Option (Ty × Bool) := sequentref08_thin' (a0, a1)
theorem sequentref08_thin_eq (a0 : Tm) (a1 : (List Ty)) : sequentref08_thin a0 a1 =
    if a0.kind = 3 then
      bind (geti a1 a0.index) fun v2 =>
      bind (sequentref01_Size v2) fun v3 =>
      some (v2, (decide (v3 ≤ 100)))
    else
    if a0.kind = 4 then
      bind (geti a0.sub 0) fun v3 =>
      bind (sequentref08_thin v3 a1) fun v4 =>
      bind (geti a0.sub 1) fun v5 =>
      bind (sequentref08_thin v5 a1) fun v6 =>
      if v4.2 = true then
        if v6.2 = true then
          bind (geti v4.1.args 1) fun v9 =>
          bind (sequentref01_Size v9) fun v10 =>
          some (v9, (decide (v10 ≤ 100)))
        else
        some (v4.1, false)
      else
      some (v4.1, false)
    else
    if a0.kind = 5 then
      bind (geti a0.sub 0) fun v4 =>
      bind (app ([a0.ty]) a1) fun v5 =>
      bind (sequentref08_thin v4 v5) fun v6 =>
      sequentref08_thin_j0 a0 v6
    else
    bind (sequentref01_Size a0.ty) fun v4 =>
    some (a0.ty, (decide (v4 ≤ 100))) := sequentref08_thin'.eq_def (a0, a1)
def sequentref08_Fits (a0 : Tm) : Option Bool :=
  bind (sequentref02_Size a0) fun v1 =>
  if 2000 < v1 then
    some false
  else
  bind (sequentref02_Depth a0) fun v3 =>
  if 100 < v3 then
    some false
  else
  bind (sequentref08_thin a0 ([] : List Ty)) fun v5 =>
  some v5.2
def sequentref28_Big (a0 : Tm) : Option Bool :=
  bind (sequentref08_Fits a0) fun v1 =>
  some (!v1)
def sequentref29_Check_l0' (p : (Int × (List Tm))) : Option Int := match p with
  | (t4_0, v7) =>
    if t4_0 < ((Tm.Ds v7).length : Int) then
      bind (geti v7 t4_0) fun v9 =>
      bind (sequentref02_Check v9) fun v10 =>
      if v10 = 0 then
        bind (geti v7 t4_0) fun v12 =>
        bind (sequentref28_Big v12) fun v13 =>
        if v13 = true then
          some 21
        else
        if ¬ v10 = 0 then
          some v10
        else
        bind (some (IntKind.wrap .i64 (t4_0 + 1))) fun v16 =>
        sequentref29_Check_l0' (v16, v7)
      else
      if ¬ v10 = 0 then
        some v10
      else
      bind (some (IntKind.wrap .i64 (t4_0 + 1))) fun v13 =>
      sequentref29_Check_l0' (v13, v7)
    else
    some 0
  partial_fixpoint
def sequentref29_Check_l0 (t4_0 : Int) (v7 : (List Tm)) : Option Int := sequentref29_Check_l0' (t4_0, v7)
theorem sequentref29_Check_l0_eq (t4_0 : Int) (v7 : (List Tm)) : sequentref29_Check_l0 t4_0 v7 =
    if t4_0 < ((Tm.Ds v7).length : Int) then
      bind (geti v7 t4_0) fun v9 =>
      bind (sequentref02_Check v9) fun v10 =>
      if v10 = 0 then
        bind (geti v7 t4_0) fun v12 =>
        bind (sequentref28_Big v12) fun v13 =>
        if v13 = true then
          some 21
        else
        if ¬ v10 = 0 then
          some v10
        else
        bind (some (IntKind.wrap .i64 (t4_0 + 1))) fun v16 =>
        sequentref29_Check_l0 v16 v7
      else
      if ¬ v10 = 0 then
        some v10
      else
      bind (some (IntKind.wrap .i64 (t4_0 + 1))) fun v13 =>
      sequentref29_Check_l0 v13 v7
    else
    some 0 := sequentref29_Check_l0'.eq_def (t4_0, v7)
def sequentref29_Check (a0 : ATactic) : Option Int :=
  bind (sequentref29_Size a0) fun v1 =>
  if 200 < v1 then
    some 8
  else
  bind (sequentref29_Depth a0) fun v3 =>
  if 30 < v3 then
    some 8
  else
  bind (sequentref29_shape a0) fun v5 =>
  if v5 = true then
    bind (sequentref29_Given_io ([] : List Tm) a0) fun v7 =>
    sequentref29_Check_l0 0 v7
  else
  some 8
def sequentref02_sign (a0 : Bool) (a1 : Bool) : Option Int :=
  if a1 = true then
    some 0
  else
  if a0 = true then
    some (-1)
  else
  some 1
mutual
def sequentref02_Compare' (p : (Tm × Tm)) : Option Int := match p with
  | (a0, a1) =>
    bind (sequentref02_sign (decide (a0.kind < a1.kind)) (decide (a0.kind = a1.kind))) fun v1 =>
    if v1 = 0 then
      if ¬ a0.kind = 5 then
        bind (sequentref02_sign (decide (Op.bytesLess a0.name.toList a1.name.toList = true)) (decide (a0.name = a1.name))) fun v4 =>
        sequentref02_Compare_j0' (v4, a0, a1)
      else
      sequentref02_Compare_j0' (v1, a0, a1)
    else
    sequentref02_Compare_j0' (v1, a0, a1)
  partial_fixpoint
def sequentref02_Compare_j0' (p : (Int × Tm × Tm)) : Option Int := match p with
  | (t5_1, a0, a1) =>
    if t5_1 = 0 then
      bind (sequentref01_Compare a0.ty a1.ty) fun v7 =>
      sequentref02_Compare_j1' (v7, a0, a1)
    else
    sequentref02_Compare_j1' (t5_1, a0, a1)
  partial_fixpoint
def sequentref02_Compare_j1' (p : (Int × Tm × Tm)) : Option Int := match p with
  | (t5_2, a0, a1) =>
    if t5_2 = 0 then
      bind (sequentref02_sign (decide (a0.index < a1.index)) (decide (a0.index = a1.index))) fun v9 =>
      sequentref02_Compare_j2' (v9, a0, a1)
    else
    sequentref02_Compare_j2' (t5_2, a0, a1)
  partial_fixpoint
def sequentref02_Compare_j2' (p : (Int × Tm × Tm)) : Option Int := match p with
  | (t5_3, a0, a1) =>
    if t5_3 = 0 then
      bind (sequentref02_sign (decide (((Tm.Ds a0.sub).length : Int) < ((Tm.Ds a1.sub).length : Int))) (decide (((Tm.Ds a0.sub).length : Int) = ((Tm.Ds a1.sub).length : Int)))) fun v11 =>
      sequentref02_Compare_j3' (v11, a0, a1)
    else
    sequentref02_Compare_j3' (t5_3, a0, a1)
  partial_fixpoint
def sequentref02_Compare_j3' (p : (Int × Tm × Tm)) : Option Int := match p with
  | (t5_4, a0, a1) =>
    sequentref02_Compare_l0' (t5_4, 0, a0, a1)
  partial_fixpoint
def sequentref02_Compare_l0' (p : (Int × Int × Tm × Tm)) : Option Int := match p with
  | (t5_0, t6_0, a0, a1) =>
    if t5_0 = 0 then
      if t6_0 < ((Tm.Ds a0.sub).length : Int) then
        bind (geti a0.sub t6_0) fun v14 =>
        bind (geti a1.sub t6_0) fun v15 =>
        bind (sequentref02_Compare' (v14, v15)) fun v16 =>
        bind (some (IntKind.wrap .i64 (t6_0 + 1))) fun v17 =>
        sequentref02_Compare_l0' (v16, v17, a0, a1)
      else
      some t5_0
    else
    some t5_0
  partial_fixpoint
end
def sequentref02_Compare (a0 : Tm) (a1 : Tm) : Option Int := sequentref02_Compare' (a0, a1)
def sequentref02_Compare_j0 (t5_1 : Int) (a0 : Tm) (a1 : Tm) : Option Int := sequentref02_Compare_j0' (t5_1, a0, a1)
def sequentref02_Compare_j1 (t5_2 : Int) (a0 : Tm) (a1 : Tm) : Option Int := sequentref02_Compare_j1' (t5_2, a0, a1)
def sequentref02_Compare_j2 (t5_3 : Int) (a0 : Tm) (a1 : Tm) : Option Int := sequentref02_Compare_j2' (t5_3, a0, a1)
def sequentref02_Compare_j3 (t5_4 : Int) (a0 : Tm) (a1 : Tm) : Option Int := sequentref02_Compare_j3' (t5_4, a0, a1)
def sequentref02_Compare_l0 (t5_0 : Int) (t6_0 : Int) (a0 : Tm) (a1 : Tm) : Option Int := sequentref02_Compare_l0' (t5_0, t6_0, a0, a1)
theorem sequentref02_Compare_eq (a0 : Tm) (a1 : Tm) : sequentref02_Compare a0 a1 =
    bind (sequentref02_sign (decide (a0.kind < a1.kind)) (decide (a0.kind = a1.kind))) fun v1 =>
    if v1 = 0 then
      if ¬ a0.kind = 5 then
        bind (sequentref02_sign (decide (Op.bytesLess a0.name.toList a1.name.toList = true)) (decide (a0.name = a1.name))) fun v4 =>
        sequentref02_Compare_j0 v4 a0 a1
      else
      sequentref02_Compare_j0 v1 a0 a1
    else
    sequentref02_Compare_j0 v1 a0 a1 := sequentref02_Compare'.eq_def (a0, a1)
theorem sequentref02_Compare_j0_eq (t5_1 : Int) (a0 : Tm) (a1 : Tm) : sequentref02_Compare_j0 t5_1 a0 a1 =
    if t5_1 = 0 then
      bind (sequentref01_Compare a0.ty a1.ty) fun v7 =>
      sequentref02_Compare_j1 v7 a0 a1
    else
    sequentref02_Compare_j1 t5_1 a0 a1 := sequentref02_Compare_j0'.eq_def (t5_1, a0, a1)
theorem sequentref02_Compare_j1_eq (t5_2 : Int) (a0 : Tm) (a1 : Tm) : sequentref02_Compare_j1 t5_2 a0 a1 =
    if t5_2 = 0 then
      bind (sequentref02_sign (decide (a0.index < a1.index)) (decide (a0.index = a1.index))) fun v9 =>
      sequentref02_Compare_j2 v9 a0 a1
    else
    sequentref02_Compare_j2 t5_2 a0 a1 := sequentref02_Compare_j1'.eq_def (t5_2, a0, a1)
theorem sequentref02_Compare_j2_eq (t5_3 : Int) (a0 : Tm) (a1 : Tm) : sequentref02_Compare_j2 t5_3 a0 a1 =
    if t5_3 = 0 then
      bind (sequentref02_sign (decide (((Tm.Ds a0.sub).length : Int) < ((Tm.Ds a1.sub).length : Int))) (decide (((Tm.Ds a0.sub).length : Int) = ((Tm.Ds a1.sub).length : Int)))) fun v11 =>
      sequentref02_Compare_j3 v11 a0 a1
    else
    sequentref02_Compare_j3 t5_3 a0 a1 := sequentref02_Compare_j2'.eq_def (t5_3, a0, a1)
theorem sequentref02_Compare_j3_eq (t5_4 : Int) (a0 : Tm) (a1 : Tm) : sequentref02_Compare_j3 t5_4 a0 a1 =
    sequentref02_Compare_l0 t5_4 0 a0 a1 := sequentref02_Compare_j3'.eq_def (t5_4, a0, a1)
theorem sequentref02_Compare_l0_eq (t5_0 : Int) (t6_0 : Int) (a0 : Tm) (a1 : Tm) : sequentref02_Compare_l0 t5_0 t6_0 a0 a1 =
    if t5_0 = 0 then
      if t6_0 < ((Tm.Ds a0.sub).length : Int) then
        bind (geti a0.sub t6_0) fun v14 =>
        bind (geti a1.sub t6_0) fun v15 =>
        bind (sequentref02_Compare v14 v15) fun v16 =>
        bind (some (IntKind.wrap .i64 (t6_0 + 1))) fun v17 =>
        sequentref02_Compare_l0 v16 v17 a0 a1
      else
      some t5_0
    else
    some t5_0 := sequentref02_Compare_l0'.eq_def (t5_0, t6_0, a0, a1)
def sequentref02_Same (a0 : Tm) (a1 : Tm) : Option Bool :=
  bind (sequentref02_Compare a0 a1) fun v1 =>
  some (decide (v1 = 0))
mutual
def sequentref29_Same' (p : (ATactic × ATactic)) : Option Bool := match p with
  | (a0, a1) =>
    if ¬ a0.kind = a1.kind then
      some false
    else
    if ¬ a0.at_ = a1.at_ then
      some false
    else
    if ¬ a0.to_ = a1.to_ then
      some false
    else
    bind (sequentref02_Same a0.term a1.term) fun v4 =>
    if v4 = true then
      if ¬ ((ATactic.Ds a0.kids).length : Int) = ((ATactic.Ds a1.kids).length : Int) then
        some false
      else
      sequentref29_Same_l0' (a0.kids, 0, a1)
    else
    some false
  partial_fixpoint
def sequentref29_Same_l0' (p : ((List ATactic) × Nat × ATactic)) : Option Bool := match p with
  | (rest0, k0, a1) =>
    match rest0 with
    | [] =>
      some true
    | v6 :: rest0 =>
      bind (geti a1.kids (k0 : Int)) fun v7 =>
      bind (sequentref29_Same' (v6, v7)) fun v8 =>
      if v8 = true then
        sequentref29_Same_l0' (rest0, k0 + 1, a1)
      else
      some false
  partial_fixpoint
end
def sequentref29_Same (a0 : ATactic) (a1 : ATactic) : Option Bool := sequentref29_Same' (a0, a1)
def sequentref29_Same_l0 (rest0 : (List ATactic)) (k0 : Nat) (a1 : ATactic) : Option Bool := sequentref29_Same_l0' (rest0, k0, a1)
theorem sequentref29_Same_eq (a0 : ATactic) (a1 : ATactic) : sequentref29_Same a0 a1 =
    if ¬ a0.kind = a1.kind then
      some false
    else
    if ¬ a0.at_ = a1.at_ then
      some false
    else
    if ¬ a0.to_ = a1.to_ then
      some false
    else
    bind (sequentref02_Same a0.term a1.term) fun v4 =>
    if v4 = true then
      if ¬ ((ATactic.Ds a0.kids).length : Int) = ((ATactic.Ds a1.kids).length : Int) then
        some false
      else
      sequentref29_Same_l0 a0.kids 0 a1
    else
    some false := sequentref29_Same'.eq_def (a0, a1)
theorem sequentref29_Same_l0_eq (rest0 : (List ATactic)) (k0 : Nat) (a1 : ATactic) : sequentref29_Same_l0 rest0 k0 a1 =
    match rest0 with
    | [] =>
      some true
    | v6 :: rest0 =>
      bind (geti a1.kids (k0 : Int)) fun v7 =>
      bind (sequentref29_Same v6 v7) fun v8 =>
      if v8 = true then
        sequentref29_Same_l0 rest0 (k0 + 1) a1
      else
      some false := sequentref29_Same_l0'.eq_def (rest0, k0, a1)
mutual
def slices_EqualFunc_Tactic_Tactic_Tactic_Tactic__tactic_Same' (p : ((List ATactic) × (List ATactic))) : Option Bool := match p with
  | (a0, a1) =>
    if ¬ ((ATactic.Ds a0).length : Int) = ((ATactic.Ds a1).length : Int) then
      some false
    else
    slices_EqualFunc_Tactic_Tactic_Tactic_Tactic__tactic_Same_l0' (a0, 0, a1)
  partial_fixpoint
def slices_EqualFunc_Tactic_Tactic_Tactic_Tactic__tactic_Same_l0' (p : ((List ATactic) × Nat × (List ATactic))) : Option Bool := match p with
  | (rest0, k0, a1) =>
    match rest0 with
    | [] =>
      some true
    | v18 :: rest0 =>
      bind (geti a1 (k0 : Int)) fun v19 =>
      bind (tactic_Same' (v18, v19)) fun v20 =>
      if v20 = true then
        slices_EqualFunc_Tactic_Tactic_Tactic_Tactic__tactic_Same_l0' (rest0, k0 + 1, a1)
      else
      some false
  partial_fixpoint
def tactic_Same' (p : (ATactic × ATactic)) : Option Bool := match p with
  | (a0, a1) =>
    if a0.kind = a1.kind then
      if a0.at_ = a1.at_ then
        if a0.to_ = a1.to_ then
          bind (terms_Same a0.term a1.term) fun v4 =>
          if v4 = true then
            bind (slices_EqualFunc_Tactic_Tactic_Tactic_Tactic__tactic_Same' (a0.kids, a1.kids)) fun v6 =>
            some v6
          else
          some false
        else
        some false
      else
      some false
    else
    some false
  partial_fixpoint
end
def slices_EqualFunc_Tactic_Tactic_Tactic_Tactic__tactic_Same (a0 : (List ATactic)) (a1 : (List ATactic)) : Option Bool := slices_EqualFunc_Tactic_Tactic_Tactic_Tactic__tactic_Same' (a0, a1)
def slices_EqualFunc_Tactic_Tactic_Tactic_Tactic__tactic_Same_l0 (rest0 : (List ATactic)) (k0 : Nat) (a1 : (List ATactic)) : Option Bool := slices_EqualFunc_Tactic_Tactic_Tactic_Tactic__tactic_Same_l0' (rest0, k0, a1)
def tactic_Same (a0 : ATactic) (a1 : ATactic) : Option Bool := tactic_Same' (a0, a1)
theorem slices_EqualFunc_Tactic_Tactic_Tactic_Tactic__tactic_Same_eq (a0 : (List ATactic)) (a1 : (List ATactic)) : slices_EqualFunc_Tactic_Tactic_Tactic_Tactic__tactic_Same a0 a1 =
    if ¬ ((ATactic.Ds a0).length : Int) = ((ATactic.Ds a1).length : Int) then
      some false
    else
    slices_EqualFunc_Tactic_Tactic_Tactic_Tactic__tactic_Same_l0 a0 0 a1 := slices_EqualFunc_Tactic_Tactic_Tactic_Tactic__tactic_Same'.eq_def (a0, a1)
theorem slices_EqualFunc_Tactic_Tactic_Tactic_Tactic__tactic_Same_l0_eq (rest0 : (List ATactic)) (k0 : Nat) (a1 : (List ATactic)) : slices_EqualFunc_Tactic_Tactic_Tactic_Tactic__tactic_Same_l0 rest0 k0 a1 =
    match rest0 with
    | [] =>
      some true
    | v18 :: rest0 =>
      bind (geti a1 (k0 : Int)) fun v19 =>
      bind (tactic_Same v18 v19) fun v20 =>
      if v20 = true then
        slices_EqualFunc_Tactic_Tactic_Tactic_Tactic__tactic_Same_l0 rest0 (k0 + 1) a1
      else
      some false := slices_EqualFunc_Tactic_Tactic_Tactic_Tactic__tactic_Same_l0'.eq_def (rest0, k0, a1)
theorem tactic_Same_eq (a0 : ATactic) (a1 : ATactic) : tactic_Same a0 a1 =
    if a0.kind = a1.kind then
      if a0.at_ = a1.at_ then
        if a0.to_ = a1.to_ then
          bind (terms_Same a0.term a1.term) fun v4 =>
          if v4 = true then
            bind (slices_EqualFunc_Tactic_Tactic_Tactic_Tactic__tactic_Same a0.kids a1.kids) fun v6 =>
            some v6
          else
          some false
        else
        some false
      else
      some false
    else
    some false := tactic_Same'.eq_def (a0, a1)
def sequentlaw29_TacticChecks_l1' (p : (Int × (List Tm) × ATactic × Bool × ATactic)) : Option Bool := match p with
  | (t10_1, a3_1, a0, t8_2, v5) =>
    if t10_1 < (a3_1.length : Int) then
      bind (wantb (0 ≤ t10_1 ∧ t10_1 < (a3_1.length : Int))) fun g18 =>
      bind (geti a3_1 t10_1) fun v19 =>
      bind (seti a3_1 t10_1 (Tm.mk 77 v19.name v19.ty v19.index v19.sub)) fun v20 =>
      bind (some (IntKind.wrap .i64 (t10_1 + 1))) fun v21 =>
      sequentlaw29_TacticChecks_l1' (v21, v20, a0, t8_2, v5)
    else
    if t8_2 = true then
      bind (sequentref29_Same v5 a0) fun v18 =>
      some v18
    else
    some false
  partial_fixpoint
def sequentlaw29_TacticChecks_l1 (t10_1 : Int) (a3_1 : (List Tm)) (a0 : ATactic) (t8_2 : Bool) (v5 : ATactic) : Option Bool := sequentlaw29_TacticChecks_l1' (t10_1, a3_1, a0, t8_2, v5)
theorem sequentlaw29_TacticChecks_l1_eq (t10_1 : Int) (a3_1 : (List Tm)) (a0 : ATactic) (t8_2 : Bool) (v5 : ATactic) : sequentlaw29_TacticChecks_l1 t10_1 a3_1 a0 t8_2 v5 =
    if t10_1 < (a3_1.length : Int) then
      bind (wantb (0 ≤ t10_1 ∧ t10_1 < (a3_1.length : Int))) fun g18 =>
      bind (geti a3_1 t10_1) fun v19 =>
      bind (seti a3_1 t10_1 (Tm.mk 77 v19.name v19.ty v19.index v19.sub)) fun v20 =>
      bind (some (IntKind.wrap .i64 (t10_1 + 1))) fun v21 =>
      sequentlaw29_TacticChecks_l1 v21 v20 a0 t8_2 v5
    else
    if t8_2 = true then
      bind (sequentref29_Same v5 a0) fun v18 =>
      some v18
    else
    some false := sequentlaw29_TacticChecks_l1'.eq_def (t10_1, a3_1, a0, t8_2, v5)
def sequentlaw29_TacticChecks_l0' (p : (Int × (List ATactic) × ATactic × Bool × ATactic × (Int × Int × Int × Int × ByteArray × Bool × ByteArray × (List Ty) × Int × (List Tm) × (List ATactic)))) : Option Bool := match p with
  | (t9_0, a4_0, a0, t8_2, v5, v7) =>
    if t9_0 < (a4_0.length : Int) then
      bind (wantb (0 ≤ t9_0 ∧ t9_0 < (a4_0.length : Int))) fun g18 =>
      bind (geti a4_0 t9_0) fun v19 =>
      bind (seti a4_0 t9_0 (ATactic.mk 77 v19.at_ v19.to_ v19.term v19.kids)) fun v20 =>
      bind (some (IntKind.wrap .i64 (t9_0 + 1))) fun v21 =>
      sequentlaw29_TacticChecks_l0' (v21, v20, a0, t8_2, v5, v7)
    else
    sequentlaw29_TacticChecks_l1 0 v7.2.2.2.2.2.2.2.2.2.1 a0 t8_2 v5
  partial_fixpoint
def sequentlaw29_TacticChecks_l0 (t9_0 : Int) (a4_0 : (List ATactic)) (a0 : ATactic) (t8_2 : Bool) (v5 : ATactic) (v7 : (Int × Int × Int × Int × ByteArray × Bool × ByteArray × (List Ty) × Int × (List Tm) × (List ATactic))) : Option Bool := sequentlaw29_TacticChecks_l0' (t9_0, a4_0, a0, t8_2, v5, v7)
theorem sequentlaw29_TacticChecks_l0_eq (t9_0 : Int) (a4_0 : (List ATactic)) (a0 : ATactic) (t8_2 : Bool) (v5 : ATactic) (v7 : (Int × Int × Int × Int × ByteArray × Bool × ByteArray × (List Ty) × Int × (List Tm) × (List ATactic))) : sequentlaw29_TacticChecks_l0 t9_0 a4_0 a0 t8_2 v5 v7 =
    if t9_0 < (a4_0.length : Int) then
      bind (wantb (0 ≤ t9_0 ∧ t9_0 < (a4_0.length : Int))) fun g18 =>
      bind (geti a4_0 t9_0) fun v19 =>
      bind (seti a4_0 t9_0 (ATactic.mk 77 v19.at_ v19.to_ v19.term v19.kids)) fun v20 =>
      bind (some (IntKind.wrap .i64 (t9_0 + 1))) fun v21 =>
      sequentlaw29_TacticChecks_l0 v21 v20 a0 t8_2 v5 v7
    else
    sequentlaw29_TacticChecks_l1 0 v7.2.2.2.2.2.2.2.2.2.1 a0 t8_2 v5 := sequentlaw29_TacticChecks_l0'.eq_def (t9_0, a4_0, a0, t8_2, v5, v7)
def sequentlaw29_TacticChecks_j0 (t8_2 : Bool) (a0 : ATactic) (v5 : ATactic) (v7 : (Int × Int × Int × Int × ByteArray × Bool × ByteArray × (List Ty) × Int × (List Tm) × (List ATactic))) : Option Bool :=
  sequentlaw29_TacticChecks_l0 0 v7.2.2.2.2.2.2.2.2.2.2 a0 t8_2 v5 v7
def sequentlaw29_TacticChecks (a0 : ATactic) (a1 : ATactic) : Option Bool :=
  bind (sequentref29_Great a0) fun v1 =>
  if v1 = true then
    some true
  else
  bind (sequentref29_Great a1) fun v3 =>
  if v3 = true then
    some true
  else
  bind (sequentref29_Twin a0) fun v5 =>
  bind (tactic_Check v5) fun v6 =>
  bind (tactic_Twin_ar v5) fun v7 =>
  bind (sequentref29_Check a0) fun v8 =>
  if v6 = v8 then
    bind (sequentref29_Same (ATactic.mk v7.1 v7.2.1 v7.2.2.1 (Tm.mk v7.2.2.2.1 v7.2.2.2.2.1 (Ty.mk v7.2.2.2.2.2.1 v7.2.2.2.2.2.2.1 v7.2.2.2.2.2.2.2.1) v7.2.2.2.2.2.2.2.2.1 v7.2.2.2.2.2.2.2.2.2.1) v7.2.2.2.2.2.2.2.2.2.2) a0) fun v10 =>
    if v10 = true then
      bind (tactic_Same v5 a1) fun v12 =>
      bind (sequentref29_Same a0 a1) fun v13 =>
      if v12 = v13 then
        bind (tactic_Same (ATactic.mk v7.1 v7.2.1 v7.2.2.1 (Tm.mk v7.2.2.2.1 v7.2.2.2.2.1 (Ty.mk v7.2.2.2.2.2.1 v7.2.2.2.2.2.2.1 v7.2.2.2.2.2.2.2.1) v7.2.2.2.2.2.2.2.2.1 v7.2.2.2.2.2.2.2.2.2.1) v7.2.2.2.2.2.2.2.2.2.2) v5) fun v15 =>
        sequentlaw29_TacticChecks_j0 v15 a0 v5 v7
      else
      sequentlaw29_TacticChecks_j0 false a0 v5 v7
    else
    sequentlaw29_TacticChecks_j0 false a0 v5 v7
  else
  sequentlaw29_TacticChecks_j0 false a0 v5 v7
end Go.Proofs.Ytdjmibbgoajcaaa.Fw

