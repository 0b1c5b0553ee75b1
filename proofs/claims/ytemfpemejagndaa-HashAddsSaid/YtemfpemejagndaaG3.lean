/- The code computes the functions. -/
import Derived.Test.YtemfpemejagndaaG2
set_option autoImplicit false
set_option linter.unusedVariables false
set_option linter.unnecessarySimpa false
set_option linter.unusedSimpArgs false
set_option maxHeartbeats 4000000
namespace Go.Proofs.Ytemfpemejagndaa.Fw
open Go Go.Proofs Go.RowKit
def M_z31_typesValid_l2 (rest2 : (List YN)) (k2 : Nat) (v5 : ((List Int) × (List Int))) (r : Bool) : Prop := ∀ (a0 : (List YN)) (hd2 : rest2 = a0.drop k2), LoopAt T Try.prog Try.f53 Fx0 [13, 7] [1, 1, 1, 1, 0, 1, 0] (EP T Try.f53 (.bool r)) [(0, .d (.slice 3 (YN.Ds a0))), (6, .d (.slice 1 (intDs_i64 v5.1))), (7, .d (.slice 1 (intDs_i64 v5.2))), (8, .d (.int .i64 (k2 : Int)))] [[]]
theorem G_z31_typesValid_l2 : (∀ p r, z31_typesValid_l2' p = some r → ∀ rest2 k2 v5, (rest2, k2, v5) = p → M_z31_typesValid_l2 rest2 k2 v5 r) := by
 refine z31_typesValid_l2'.partial_correctness (fun (p : ((List YN) × Nat × ((List Int) × (List Int)))) (r : Bool) => ∀ (rest2 : (List YN)) (k2 : Nat) (v5 : ((List Int) × (List Int))), (rest2, k2, v5) = p → M_z31_typesValid_l2 rest2 k2 v5 r) ?_
 ·intro f_z31_typesValid_l2 ih_z31_typesValid_l2 p r e rest2 k2 v5 hp
  subst hp
  intro a0 hd2
  refine RunsL.len_tmp 0 rfl fun hlenk2 => ?_
  refine RunsL.of_awp (js := [13, 7]) T_ok ?_; conv => whnf
  have hls := YN.Ds_len a0
  cases rest2 with
  | nil =>
   have hk := drop_nil hd2
   refine ⟨⟨fun h => absurd h (by omega), fun _ => ?_⟩⟩; conv => whnf
   obtain rfl := sm e
   repeat' first | exact rfl | exact trivial | refine ⟨?_, ?_⟩
  | cons v9 rest2 =>
   obtain ⟨hxv9, hd2, hltv9⟩ := drop_head hd2
   refine ⟨⟨fun _ => ?_, fun h => absurd (by omega) h⟩⟩; conv => whnf
   obtain ⟨v10, qv10, e⟩ := bnd e
   obtain ⟨qv10k, qv10a, qv10b⟩ := geti_some qv10
   refine ⟨qv10k, _, qv10a, intDs_i64_get qv10b, ?_⟩; conv => whnf
   refine ⟨intDs_i64_fit _ rfl rfl, ?_⟩; conv => whnf
   refine ⟨⟨fun h11 => ?_, fun h11 => ?_⟩⟩
   ·replace e := ifp h11 e; conv => whnf
    obtain rfl := sm e
    repeat' first | exact rfl | exact trivial | refine ⟨?_, ?_⟩
   ·replace e := ifn h11 e; conv => whnf
    obtain ⟨v12, qv12, e⟩ := bnd e
    obtain ⟨qv12k, qv12a, qv12b⟩ := geti_some qv12
    refine ⟨qv12k, _, qv12a, intDs_i64_get qv12b, ?_⟩; conv => whnf
    refine ⟨intDs_i64_fit _ rfl rfl, ?_⟩; conv => whnf
    refine ⟨⟨fun h13 => ?_, fun h13 => ?_⟩⟩
    ·replace e := ifp h13 e; conv => whnf
     obtain rfl := sm e
     repeat' first | exact rfl | exact trivial | refine ⟨?_, ?_⟩
    ·replace e := ifn h13 e; conv => whnf
     refine ⟨((k2 + 1 : Nat) : Int), wrap64e (by omega) (by omega) (by omega), ?_⟩; conv => whnf
     refine (RunsL.weak ((ih_z31_typesValid_l2 _ _ e _ _ _ rfl) a0 hd2) ?_)
     repeat' first | exact wk.of_eq rfl | exact wk.pure rfl | exact wk.un _ | exact wk.hold _ _ _ | exact wk.holdG _ _ _ | exact rfl | exact trivial | refine ⟨?_, ?_⟩
theorem P_z31_typesValid_l2 {rest2 : (List YN)} {k2 : Nat} {v5 : ((List Int) × (List Int))} {r : Bool} (e : z31_typesValid_l2 rest2 k2 v5 = some r) : M_z31_typesValid_l2 rest2 k2 v5 r := G_z31_typesValid_l2 _ _ e _ _ _ rfl
theorem P_z31_typesValid_j1 {a0 : (List YN)} {t3_0 : (List (List Int))} {r : Bool} (e : z31_typesValid_j1 a0 t3_0 = some r) : JoinAt T Try.prog Try.f53 Fx0 [13, 7] [1, 1, 1, 0] (EP T Try.f53 (.bool r)) [(0, .d (.slice 3 (YN.Ds a0))), (3, .own 0 0 1 (intDs_i64s t3_0))] [[.grow 1 (intDs_i64s t3_0).length]] := by
 unfold z31_typesValid_j1 at e
 refine Runs.enter T_ok ?_; conv => whnf
 obtain ⟨v5, qv5, e⟩ := bnd e
 first | (refine said_pure (P_z31_Sized qv5) rfl ?_) | (refine said_pure2 (P_z31_Sized qv5) rfl (by simp [YN.Ds_all, intDs_i64_all, intDs_i64s_all, YN.D, listAll] <;> (repeat' first | rfl | apply And.intro)) ?_)
 (conv => whnf)
 refine RunsL.runs (RunsL.weak ((P_z31_typesValid_l2 e) a0 (by simp)) ?_)
 repeat' first | exact wk.of_eq rfl | exact wk.pure rfl | exact wk.un _ | exact wk.hold _ _ _ | exact wk.holdG _ _ _ | exact rfl | exact trivial | refine ⟨?_, ?_⟩
def M_z31_typesValid_l0 (t3_0 : (List (List Int))) (t4_0 : Int) (a0 : (List YN)) (r : Bool) : Prop := LoopAt T Try.prog Try.f53 Fx0 [13, 7] [1, 1, 0, 1, 0] (EP T Try.f53 (.bool r)) [(0, .d (.slice 3 (YN.Ds a0))), (3, .own 0 0 1 (intDs_i64s t3_0)), (4, .d (.int .i64 t4_0))] [[.grow 1 (intDs_i64s t3_0).length]]
def M_z31_typesValid_j0 (a0 : (List YN)) (t3_0 : (List (List Int))) (t4_0 : Int) (r : Bool) : Prop := JoinAt T Try.prog Try.f53 Fx0 [13, 7] [1, 1, 0, 1, 0, 0, 1, 0, 0, 1, 0, 0] (EP T Try.f53 (.bool r)) [(0, .d (.slice 3 (YN.Ds a0))), (3, .own 0 0 1 (intDs_i64s t3_0)), (4, .d (.int .i64 t4_0))] [[.grow 1 (intDs_i64s t3_0).length]]
def M_z31_typesValid_l1 (t3_1 : (List (List Int))) (t4_1 : Int) (t5_1 : Int) (a0 : (List YN)) (r : Bool) : Prop := LoopAt T Try.prog Try.f53 Fx0 [13, 7] [1, 1, 0, 1, 0, 0, 1, 0, 0, 1, 0, 1, 0] (EP T Try.f53 (.bool r)) [(0, .d (.slice 3 (YN.Ds a0))), (3, .own 0 0 1 (intDs_i64s t3_1)), (4, .d (.int .i64 t4_1)), (5, .d (.int .i64 t5_1))] [[.grow 1 (intDs_i64s t3_1).length]]
theorem G_z31_typesValid_l0 : (∀ p r, z31_typesValid_l0' p = some r → ∀ t3_0 t4_0 a0, (t3_0, t4_0, a0) = p → M_z31_typesValid_l0 t3_0 t4_0 a0 r) ∧
  (∀ p r, z31_typesValid_j0' p = some r → ∀ a0 t3_0 t4_0, (a0, t3_0, t4_0) = p → M_z31_typesValid_j0 a0 t3_0 t4_0 r) ∧
  (∀ p r, z31_typesValid_l1' p = some r → ∀ t3_1 t4_1 t5_1 a0, (t3_1, t4_1, t5_1, a0) = p → M_z31_typesValid_l1 t3_1 t4_1 t5_1 a0 r) := by
 refine z31_typesValid_l0'.mutual_partial_correctness (fun (p : ((List (List Int)) × Int × (List YN))) (r : Bool) => ∀ (t3_0 : (List (List Int))) (t4_0 : Int) (a0 : (List YN)), (t3_0, t4_0, a0) = p → M_z31_typesValid_l0 t3_0 t4_0 a0 r) (fun (p : ((List YN) × (List (List Int)) × Int)) (r : Bool) => ∀ (a0 : (List YN)) (t3_0 : (List (List Int))) (t4_0 : Int), (a0, t3_0, t4_0) = p → M_z31_typesValid_j0 a0 t3_0 t4_0 r) (fun (p : ((List (List Int)) × Int × Int × (List YN))) (r : Bool) => ∀ (t3_1 : (List (List Int))) (t4_1 : Int) (t5_1 : Int) (a0 : (List YN)), (t3_1, t4_1, t5_1, a0) = p → M_z31_typesValid_l1 t3_1 t4_1 t5_1 a0 r) ?_ ?_ ?_
 ·intro f_z31_typesValid_j0 ih_z31_typesValid_j0 p r e t3_0 t4_0 a0 hp
  subst hp
  refine RunsL.of_awp (js := [13, 7]) T_ok ?_; conv => whnf
  refine ⟨⟨fun h17 => ?_, fun h17 => ?_⟩⟩
  ·replace e := ifp (by first | exact h17 | omega | simpa [YN.Ds_all, intDs_i64_all, intDs_i64s_all, YN.D, listAll] using h17) e; conv => whnf
   refine draw_rule [] T_ok mixed z31_typesValid_pl5 (by decide +kernel) ?_; conv => whnf
   obtain ⟨v18, qv18, e⟩ := bnd e
   obtain ⟨qv18k, qv18a, qv18b⟩ := geti_some qv18
   refine ⟨qv18k, _, qv18a, YN.Ds_get qv18b, ?_⟩; conv => whnf
   refine brK.split (fun hb19 => ?_) (fun hb19 => ?_)
   ·replace e := ifpb hb19 e; conv => whnf
    refine brK.tt hb19 ?_; conv => whnf
    refine brK.tt hb19 ?_; conv => whnf
    obtain ⟨v20, qv20, e⟩ := bnd e
    obtain ⟨qv20k, qv20a, qv20b⟩ := geti_some qv20
    refine ⟨qv20k, _, qv20a, YN.Ds_get qv20b, ?_⟩; conv => whnf
    refine brK.tt hb19 ?_; conv => whnf
    refine brK.tt hb19 ?_; conv => whnf
    refine brK.tt hb19 ?_; conv => whnf
    refine brK.tt hb19 ?_; conv => whnf
    refine ⟨⟨fun h21 => ?_, fun h21 => ?_⟩⟩
    ·replace e := ifp (by first | exact h21 | omega | simpa [YN.Ds_all, intDs_i64_all, intDs_i64s_all, YN.D, listAll] using h21) e; conv => whnf
     refine brK.tt hb19 ?_; conv => whnf
     obtain rfl := sm e
     repeat' first | exact rfl | exact trivial | refine ⟨?_, ?_⟩
    ·replace e := ifn (by first | exact h21 | omega | simpa [YN.Ds_all, intDs_i64_all, intDs_i64s_all, YN.D, listAll] using h21) e; conv => whnf
     refine brK.tt hb19 ?_; conv => whnf
     obtain ⟨v22, qv22, e⟩ := bnd e
     obtain ⟨qv22k, qv22a, qv22b⟩ := geti_some qv22
     refine ⟨qv22k, _, qv22a, YN.Ds_get qv22b, ?_⟩; conv => whnf
     refine ⟨⟨fun h23 => ?_, fun h23 => ?_⟩⟩
     ·replace e := ifp (by first | exact h23 | omega | simpa [YN.Ds_all, intDs_i64_all, intDs_i64s_all, YN.D, listAll] using h23) e; conv => whnf
      obtain rfl := sm e
      repeat' first | exact rfl | exact trivial | refine ⟨?_, ?_⟩
     ·replace e := ifn (by first | exact h23 | omega | simpa [YN.Ds_all, intDs_i64_all, intDs_i64s_all, YN.D, listAll] using h23) e; conv => whnf
      obtain ⟨v24, qv24, e⟩ := bnd e
      obtain ⟨qv24k, qv24a, qv24b⟩ := geti_some qv24
      refine ⟨qv24k, _, qv24a, YN.Ds_get qv24b, ?_⟩; conv => whnf
      obtain ⟨v25, qv25, e⟩ := bnd e
      obtain ⟨qv25k, qv25a, qv25b⟩ := geti_some qv25
      refine ⟨qv25k, _, qv25a, YN.Ds_get qv25b, ?_⟩; conv => whnf
      obtain ⟨v26, qv26, e⟩ := bnd e
      refine said_pure (P_z01_Valid qv26) rfl ⟨Keeps.refl _ _, ?_⟩; conv => whnf
      refine brK.nsplit (fun hb27 => ?_) (fun hb27 => ?_)
      ·replace e := ifpb hb27 e; conv => whnf
       refine brK.ntt hb27 ?_; conv => whnf
       refine brK.ntt hb27 ?_; conv => whnf
       obtain ⟨v28, qv28, e⟩ := bnd e
       obtain ⟨qv28k, qv28a, qv28b⟩ := geti_some qv28
       refine ⟨qv28k, _, qv28a, YN.Ds_get qv28b, ?_⟩; conv => whnf
       refine brK.ntt hb27 ?_; conv => whnf
       refine brK.ntt hb27 ?_; conv => whnf
       refine brK.ntt hb27 ?_; conv => whnf
       refine brK.ntt hb27 ?_; conv => whnf
       obtain ⟨v29, qv29, e⟩ := bnd e
       refine said_pure (P_z31_below qv29) rfl ⟨Keeps.refl _ _, ?_⟩; conv => whnf
       refine brK.ntt hb27 ?_; conv => whnf
       refine brK.ntt hb27 ?_; conv => whnf
       refine brK.nsplit (fun hb30 => ?_) (fun hb30 => ?_)
       ·replace e := ifpb hb30 e; conv => whnf
        refine Runs.weak (ih_z31_typesValid_j0 _ _ e _ _ _ rfl) ?_
        repeat' first | exact wk.of_eq rfl | exact wk.pure rfl | exact wk.un _ | exact wk.hold _ _ _ | exact wk.holdG _ _ _ | exact rfl | exact trivial | refine ⟨?_, ?_⟩ | (refine wk.of_eq ?_; (conv => lhs; whnf); (simp [YN.Ds_all, intDs_i64_all, intDs_i64s_all, YN.D, listAll] <;> (repeat' first | rfl | apply And.intro)); done) | (refine wk.pure ?_; (conv => lhs; whnf); (simp [YN.Ds_all, intDs_i64_all, intDs_i64s_all, YN.D, listAll] <;> (repeat' first | rfl | apply And.intro)); done) | ((simp [YN.Ds_all, intDs_i64_all, intDs_i64s_all, YN.D, listAll] <;> (repeat' first | rfl | apply And.intro)); done) | (simp [YN.Ds_all, intDs_i64_all, intDs_i64s_all, YN.D, listAll]; omega)
       ·replace e := ifnb hb30 e; conv => whnf
        obtain rfl := sm e
        repeat' first | exact rfl | exact trivial | refine ⟨?_, ?_⟩
      ·replace e := ifnb hb27 e; conv => whnf
       refine brK.nff hb27 ?_; conv => whnf
       refine brK.nff hb27 ?_; conv => whnf
       refine brK.nff hb27 ?_; conv => whnf
       refine brK.nff hb27 ?_; conv => whnf
       refine brK.nff hb27 ?_; conv => whnf
       refine brK.nff hb27 ?_; conv => whnf
       refine brK.nff hb27 ?_; conv => whnf
       refine brK.nff hb27 ?_; conv => whnf
       obtain rfl := sm e
       repeat' first | exact rfl | exact trivial | refine ⟨?_, ?_⟩
   ·replace e := ifnb hb19 e; conv => whnf
    refine brK.ff hb19 ?_; conv => whnf
    refine brK.ff hb19 ?_; conv => whnf
    refine brK.ff hb19 ?_; conv => whnf
    refine brK.ff hb19 ?_; conv => whnf
    refine brK.ff hb19 ?_; conv => whnf
    refine brK.ff hb19 ?_; conv => whnf
    refine brK.ff hb19 ?_; conv => whnf
    obtain ⟨v20, qv20, e⟩ := bnd e
    obtain ⟨qv20k, qv20a, qv20b⟩ := geti_some qv20
    refine ⟨qv20k, _, qv20a, YN.Ds_get qv20b, ?_⟩; conv => whnf
    refine ⟨⟨fun h21 => ?_, fun h21 => ?_⟩⟩
    ·replace e := ifp (by first | exact h21 | omega | simpa [YN.Ds_all, intDs_i64_all, intDs_i64s_all, YN.D, listAll] using h21) e; conv => whnf
     obtain rfl := sm e
     repeat' first | exact rfl | exact trivial | refine ⟨?_, ?_⟩
    ·replace e := ifn (by first | exact h21 | omega | simpa [YN.Ds_all, intDs_i64_all, intDs_i64s_all, YN.D, listAll] using h21) e; conv => whnf
     obtain ⟨v22, qv22, e⟩ := bnd e
     obtain ⟨qv22k, qv22a, qv22b⟩ := geti_some qv22
     refine ⟨qv22k, _, qv22a, YN.Ds_get qv22b, ?_⟩; conv => whnf
     obtain ⟨v23, qv23, e⟩ := bnd e
     obtain ⟨qv23k, qv23a, qv23b⟩ := geti_some qv23
     refine ⟨qv23k, _, qv23a, YN.Ds_get qv23b, ?_⟩; conv => whnf
     obtain ⟨v24, qv24, e⟩ := bnd e
     refine said_pure (P_z01_Valid qv24) rfl ⟨Keeps.refl _ _, ?_⟩; conv => whnf
     refine brK.nsplit (fun hb25 => ?_) (fun hb25 => ?_)
     ·replace e := ifpb hb25 e; conv => whnf
      refine brK.ntt hb25 ?_; conv => whnf
      refine brK.ntt hb25 ?_; conv => whnf
      obtain ⟨v26, qv26, e⟩ := bnd e
      obtain ⟨qv26k, qv26a, qv26b⟩ := geti_some qv26
      refine ⟨qv26k, _, qv26a, YN.Ds_get qv26b, ?_⟩; conv => whnf
      refine brK.ntt hb25 ?_; conv => whnf
      refine brK.ntt hb25 ?_; conv => whnf
      refine brK.ntt hb25 ?_; conv => whnf
      refine brK.ntt hb25 ?_; conv => whnf
      obtain ⟨v27, qv27, e⟩ := bnd e
      refine said_pure (P_z31_below qv27) rfl ⟨Keeps.refl _ _, ?_⟩; conv => whnf
      refine brK.ntt hb25 ?_; conv => whnf
      refine brK.ntt hb25 ?_; conv => whnf
      refine brK.nsplit (fun hb28 => ?_) (fun hb28 => ?_)
      ·replace e := ifpb hb28 e; conv => whnf
       refine Runs.weak (ih_z31_typesValid_j0 _ _ e _ _ _ rfl) ?_
       repeat' first | exact wk.of_eq rfl | exact wk.pure rfl | exact wk.un _ | exact wk.hold _ _ _ | exact wk.holdG _ _ _ | exact rfl | exact trivial | refine ⟨?_, ?_⟩ | (refine wk.of_eq ?_; (conv => lhs; whnf); (simp [YN.Ds_all, intDs_i64_all, intDs_i64s_all, YN.D, listAll] <;> (repeat' first | rfl | apply And.intro)); done) | (refine wk.pure ?_; (conv => lhs; whnf); (simp [YN.Ds_all, intDs_i64_all, intDs_i64s_all, YN.D, listAll] <;> (repeat' first | rfl | apply And.intro)); done) | ((simp [YN.Ds_all, intDs_i64_all, intDs_i64s_all, YN.D, listAll] <;> (repeat' first | rfl | apply And.intro)); done) | (simp [YN.Ds_all, intDs_i64_all, intDs_i64s_all, YN.D, listAll]; omega)
      ·replace e := ifnb hb28 e; conv => whnf
       obtain rfl := sm e
       repeat' first | exact rfl | exact trivial | refine ⟨?_, ?_⟩
     ·replace e := ifnb hb25 e; conv => whnf
      refine brK.nff hb25 ?_; conv => whnf
      refine brK.nff hb25 ?_; conv => whnf
      refine brK.nff hb25 ?_; conv => whnf
      refine brK.nff hb25 ?_; conv => whnf
      refine brK.nff hb25 ?_; conv => whnf
      refine brK.nff hb25 ?_; conv => whnf
      refine brK.nff hb25 ?_; conv => whnf
      refine brK.nff hb25 ?_; conv => whnf
      obtain rfl := sm e
      repeat' first | exact rfl | exact trivial | refine ⟨?_, ?_⟩
  ·replace e := ifn (by first | exact h17 | omega | simpa [YN.Ds_all, intDs_i64_all, intDs_i64s_all, YN.D, listAll] using h17) e; conv => whnf
   refine Runs.weak (P_z31_typesValid_j1 e) ?_
   repeat' first | exact wk.of_eq rfl | exact wk.pure rfl | exact wk.un _ | exact wk.hold _ _ _ | exact wk.holdG _ _ _ | exact rfl | exact trivial | refine ⟨?_, ?_⟩ | (refine wk.of_eq ?_; (conv => lhs; whnf); (simp [YN.Ds_all, intDs_i64_all, intDs_i64s_all, YN.D, listAll] <;> (repeat' first | rfl | apply And.intro)); done) | (refine wk.pure ?_; (conv => lhs; whnf); (simp [YN.Ds_all, intDs_i64_all, intDs_i64s_all, YN.D, listAll] <;> (repeat' first | rfl | apply And.intro)); done) | ((simp [YN.Ds_all, intDs_i64_all, intDs_i64s_all, YN.D, listAll] <;> (repeat' first | rfl | apply And.intro)); done) | (simp [YN.Ds_all, intDs_i64_all, intDs_i64s_all, YN.D, listAll]; omega)
 ·intro f_z31_typesValid_l1 ih_z31_typesValid_l1 p r e a0 t3_0 t4_0 hp
  subst hp
  refine Runs.enter T_ok ?_; conv => whnf
  refine RunsL.runs (RunsL.weak (ih_z31_typesValid_l1 _ _ e _ _ _ _ rfl) ?_)
  repeat' first | exact wk.of_eq rfl | exact wk.pure rfl | exact wk.un _ | exact wk.hold _ _ _ | exact wk.holdG _ _ _ | exact rfl | exact trivial | refine ⟨?_, ?_⟩ | (refine wk.of_eq ?_; (conv => lhs; whnf); (simp [YN.Ds_all, intDs_i64_all, intDs_i64s_all, YN.D, listAll] <;> (repeat' first | rfl | apply And.intro)); done) | (refine wk.pure ?_; (conv => lhs; whnf); (simp [YN.Ds_all, intDs_i64_all, intDs_i64s_all, YN.D, listAll] <;> (repeat' first | rfl | apply And.intro)); done) | ((simp [YN.Ds_all, intDs_i64_all, intDs_i64s_all, YN.D, listAll] <;> (repeat' first | rfl | apply And.intro)); done) | (simp [YN.Ds_all, intDs_i64_all, intDs_i64s_all, YN.D, listAll]; omega)
 ·intro f_z31_typesValid_l0 f_z31_typesValid_l1 ih_z31_typesValid_l0 ih_z31_typesValid_l1 p r e t3_1 t4_1 t5_1 a0 hp
  subst hp
  refine RunsL.of_awp (js := [13, 7]) T_ok ?_; conv => whnf
  refine ⟨⟨fun h30 => ?_, fun h30 => ?_⟩⟩
  ·replace e := ifp h30 e; conv => whnf
   refine draw_rule [] T_ok mixed z31_typesValid_pl10 (by decide +kernel) ?_; conv => whnf
   obtain ⟨v31, qv31, e⟩ := bnd e
   obtain ⟨qv31k, qv31a, qv31b⟩ := geti_some qv31
   refine ⟨qv31k, _, qv31a, YN.Ds_get qv31b, ?_⟩; conv => whnf
   refine ⟨YN.Ds_fit _ rfl rfl, ?_⟩; conv => whnf
   obtain ⟨v32, qv32, e⟩ := bnd e
   obtain ⟨qv32k, qv32a, qv32b⟩ := geti_some qv32
   refine ⟨qv32k, _, qv32a, YN.Ds_get qv32b, ?_⟩; conv => whnf
   refine ⟨YN.Ds_fit _ rfl rfl, ?_⟩; conv => whnf
   obtain ⟨v33, qv33, e⟩ := bnd e
   refine said_pure (P_z31_sameType qv33) rfl ⟨Keeps.refl _ _, ?_⟩; conv => whnf
   refine brK.split (fun hb34 => ?_) (fun hb34 => ?_)
   ·replace e := ifpb hb34 e; conv => whnf
    obtain rfl := sm e
    repeat' first | exact rfl | exact trivial | refine ⟨?_, ?_⟩
   ·replace e := ifnb hb34 e; conv => whnf
    obtain ⟨v35, qv35, e⟩ := bnd e
    refine ⟨v35, sm qv35, ?_⟩; conv => whnf
    refine (RunsL.weak (ih_z31_typesValid_l1 _ _ e _ _ _ _ rfl) ?_)
    repeat' first | exact wk.of_eq rfl | exact wk.pure rfl | exact wk.un _ | exact wk.hold _ _ _ | exact wk.holdG _ _ _ | exact rfl | exact trivial | refine ⟨?_, ?_⟩ | (refine wk.of_eq ?_; (conv => lhs; whnf); (simp [YN.Ds_all, intDs_i64_all, intDs_i64s_all, YN.D, listAll] <;> (repeat' first | rfl | apply And.intro)); done) | (refine wk.pure ?_; (conv => lhs; whnf); (simp [YN.Ds_all, intDs_i64_all, intDs_i64s_all, YN.D, listAll] <;> (repeat' first | rfl | apply And.intro)); done) | ((simp [YN.Ds_all, intDs_i64_all, intDs_i64s_all, YN.D, listAll] <;> (repeat' first | rfl | apply And.intro)); done) | (simp [YN.Ds_all, intDs_i64_all, intDs_i64s_all, YN.D, listAll]; omega)
  ·replace e := ifn h30 e; conv => whnf
   obtain ⟨v31, qv31, e⟩ := bnd e
   obtain ⟨qv31k, qv31a, qv31b⟩ := geti_some qv31
   refine ⟨qv31k, _, qv31a, YN.Ds_get qv31b, ?_⟩; conv => whnf
   refine ⟨⟨⟨rfl, rfl⟩, trivial⟩, ?_⟩; conv => whnf
   obtain ⟨v32, qv32, e⟩ := bnd e
   obtain ⟨qv32l, qv32e⟩ := app_some qv32
   refine ⟨(by first | exact qv32l | simpa [YN.Ds_all, intDs_i64_all, intDs_i64s_all, YN.D, listAll] using qv32l), rfl, (by first | rfl | simp [YN.Ds_all, intDs_i64_all, intDs_i64s_all, YN.D, listAll]), ?_⟩; conv => whnf
   obtain ⟨v33, qv33, e⟩ := bnd e
   refine ⟨v33, sm qv33, ?_⟩; conv => whnf
   refine (RunsL.weak (ih_z31_typesValid_l0 _ _ e _ _ _ rfl) ?_)
   repeat' first | exact wk.of_eq rfl | exact wk.pure rfl | exact wk.un _ | exact wk.hold _ _ _ | exact wk.holdG _ _ _ | exact rfl | exact trivial | refine ⟨?_, ?_⟩ | (refine wk.of_eq ?_; (conv => lhs; whnf); (simp [YN.Ds_all, intDs_i64_all, intDs_i64s_all, YN.D, listAll, qv32e] <;> (repeat' first | rfl | apply And.intro)); done) | (refine wk.pure ?_; (conv => lhs; whnf); (simp [YN.Ds_all, intDs_i64_all, intDs_i64s_all, YN.D, listAll, qv32e] <;> (repeat' first | rfl | apply And.intro)); done) | ((simp [YN.Ds_all, intDs_i64_all, intDs_i64s_all, YN.D, listAll, qv32e] <;> (repeat' first | rfl | apply And.intro)); done) | (simp [YN.Ds_all, intDs_i64_all, intDs_i64s_all, YN.D, listAll, qv32e]; omega)
theorem P_z31_typesValid_l0 {t3_0 : (List (List Int))} {t4_0 : Int} {a0 : (List YN)} {r : Bool} (e : z31_typesValid_l0 t3_0 t4_0 a0 = some r) : M_z31_typesValid_l0 t3_0 t4_0 a0 r := G_z31_typesValid_l0.1 _ _ e _ _ _ rfl
theorem P_z31_typesValid {a0 : (List YN)} {r : Bool} (e : z31_typesValid a0 = some r) : Pure Try.prog 53 [(.slice 3 (YN.Ds a0))] (.bool r) := by
 unfold z31_typesValid at e
 refine pure_of_awp (js := [13, 7]) T_ok Try.func53 rfl (by decide +kernel) rfl ?_; conv => whnf
 refine Runs.hold 1 ?_
 refine RunsL.runs (RunsL.weak (P_z31_typesValid_l0 e) ?_)
 repeat' first | exact wk.of_eq rfl | exact wk.pure rfl | exact wk.un _ | exact wk.hold _ _ _ | exact wk.holdG _ _ _ | exact rfl | exact trivial | refine ⟨?_, ?_⟩ | (refine wk.of_eq ?_; (conv => lhs; whnf); (simp [YN.Ds_all, intDs_i64_all, intDs_i64s_all, YN.D, listAll] <;> (repeat' first | rfl | apply And.intro)); done) | (refine wk.pure ?_; (conv => lhs; whnf); (simp [YN.Ds_all, intDs_i64_all, intDs_i64s_all, YN.D, listAll] <;> (repeat' first | rfl | apply And.intro)); done) | ((simp [YN.Ds_all, intDs_i64_all, intDs_i64s_all, YN.D, listAll] <;> (repeat' first | rfl | apply And.intro)); done) | (simp [YN.Ds_all, intDs_i64_all, intDs_i64s_all, YN.D, listAll]; omega)
theorem P_z02_Name {a0 : ByteArray} {r : Bool} (e : z02_Name a0 = some r) : Pure Try.prog 59 [(.str a0)] (.bool r) := by
 unfold z02_Name at e
 refine pure_of_awp (js := []) T_ok Try.func59 rfl (by decide +kernel) rfl ?_; conv => whnf
 obtain ⟨v1, qv1, e⟩ := bnd e
 refine said_pure (P_z01_Name qv1) rfl ?_; conv => whnf
 refine brK.split (fun hb2 => ?_) (fun hb2 => ?_)
 ·replace e := ifpb hb2 e; conv => whnf
  refine brK.tt hb2 ?_; conv => whnf
  obtain ⟨v3, qv3, e⟩ := bnd e
  obtain ⟨qv3k, qv3q, qv3a, qv3b, qv3c⟩ := getb_some qv3
  refine ⟨qv3k, qv3q, qv3a, qv3b, ?_⟩; rw [qv3c]; conv => whnf
  refine brK.tt hb2 ?_; conv => whnf
  refine test.dec ?_; conv => whnf
  refine brK.tt hb2 ?_; conv => whnf
  obtain rfl := sm e
  repeat' first | exact rfl | exact trivial | refine ⟨?_, ?_⟩
 ·replace e := ifnb hb2 e; conv => whnf
  refine brK.ff hb2 ?_; conv => whnf
  refine brK.ff hb2 ?_; conv => whnf
  refine brK.ff hb2 ?_; conv => whnf
  obtain rfl := sm e
  repeat' first | exact rfl | exact trivial | refine ⟨?_, ?_⟩
end Go.Proofs.Ytemfpemejagndaa.Fw


set_option maxHeartbeats 4000000
namespace Go.Proofs.Ytemfpemejagndaa.Fw
open Go Go.Proofs Go.RowKit
theorem P_z31_fine_j1 {t8_1 : Bool} {a0 : XN} {t7_0 : Bool} {r : Bool} (e : z31_fine_j1 t8_1 a0 t7_0 = some r) : JoinAt T Try.prog Try.f54 Fx0 [4, 5] [1, 1, 1, 1, 0, 0] (EP T Try.f54 (.bool r)) [(3, .ptr 0 0 0), (7, .d (.bool t7_0)), (8, .d (.bool t8_1))] [[.cells [.d (.int .u8 a0.kind), .d (.str a0.name), .d (.int .i64 a0.type_), .d (.int .i64 a0.index), .d (.slice 1 (intDs_i64 a0.sub))]]] := by
 unfold z31_fine_j1 at e
 refine Runs.enter T_ok ?_; conv => whnf
 refine ⟨⟨fun h9 => ?_, fun h9 => ?_⟩⟩
 ·replace e := ifp h9 e; conv => whnf
  refine brK.split (fun hb10 => ?_) (fun hb10 => ?_)
  ·replace e := ifpb hb10 e; conv => whnf
   refine brK.tt hb10 ?_; conv => whnf
   refine brK.tt hb10 ?_; conv => whnf
   refine brK.tt hb10 ?_; conv => whnf
   refine test.dec ?_; conv => whnf
   refine brK.tt hb10 ?_; conv => whnf
   obtain rfl := sm e
   repeat' first | exact rfl | exact trivial | refine ⟨?_, ?_⟩
  ·replace e := ifnb hb10 e; conv => whnf
   refine brK.ff hb10 ?_; conv => whnf
   refine brK.ff hb10 ?_; conv => whnf
   refine brK.ff hb10 ?_; conv => whnf
   refine brK.ff hb10 ?_; conv => whnf
   obtain rfl := sm e
   repeat' first | exact rfl | exact trivial | refine ⟨?_, ?_⟩
 ·replace e := ifn h9 e; conv => whnf
  refine ⟨⟨fun h10 => ?_, fun h10 => ?_⟩⟩
  ·replace e := ifp h10 e; conv => whnf
   refine brK.split (fun hb11 => ?_) (fun hb11 => ?_)
   ·replace e := ifpb hb11 e; conv => whnf
    refine brK.tt hb11 ?_; conv => whnf
    refine brK.tt hb11 ?_; conv => whnf
    refine brK.tt hb11 ?_; conv => whnf
    refine test.dec ?_; conv => whnf
    refine brK.tt hb11 ?_; conv => whnf
    obtain rfl := sm e
    repeat' first | exact rfl | exact trivial | refine ⟨?_, ?_⟩
   ·replace e := ifnb hb11 e; conv => whnf
    refine brK.ff hb11 ?_; conv => whnf
    refine brK.ff hb11 ?_; conv => whnf
    refine brK.ff hb11 ?_; conv => whnf
    refine brK.ff hb11 ?_; conv => whnf
    obtain rfl := sm e
    repeat' first | exact rfl | exact trivial | refine ⟨?_, ?_⟩
  ·replace e := ifn h10 e; conv => whnf
   refine ⟨⟨fun h11 => ?_, fun h11 => ?_⟩⟩
   ·replace e := ifp h11 e; conv => whnf
    refine brK.split (fun hb12 => ?_) (fun hb12 => ?_)
    ·replace e := ifpb hb12 e; conv => whnf
     refine brK.tt hb12 ?_; conv => whnf
     refine brK.tt hb12 ?_; conv => whnf
     refine ⟨⟨fun h13 => ?_, fun h13 => ?_⟩⟩
     ·replace e := ifp h13 e; conv => whnf
      refine brK.tt hb12 ?_; conv => whnf
      refine ⟨⟨fun h14 => ?_, fun h14 => ?_⟩⟩
      ·replace e := ifp h14 e; conv => whnf
       refine test.dec ?_; conv => whnf
       obtain rfl := sm e
       repeat' first | exact rfl | exact trivial | refine ⟨?_, ?_⟩
      ·replace e := ifn h14 e; conv => whnf
       obtain rfl := sm e
       repeat' first | exact rfl | exact trivial | refine ⟨?_, ?_⟩
     ·replace e := ifn h13 e; conv => whnf
      refine brK.tt hb12 ?_; conv => whnf
      obtain rfl := sm e
      repeat' first | exact rfl | exact trivial | refine ⟨?_, ?_⟩
    ·replace e := ifnb hb12 e; conv => whnf
     refine brK.ff hb12 ?_; conv => whnf
     refine brK.ff hb12 ?_; conv => whnf
     refine brK.ff hb12 ?_; conv => whnf
     obtain rfl := sm e
     repeat' first | exact rfl | exact trivial | refine ⟨?_, ?_⟩
   ·replace e := ifn h11 e; conv => whnf
    refine ⟨⟨fun h12 => ?_, fun h12 => ?_⟩⟩
    ·replace e := ifp h12 e; conv => whnf
     refine brK.split (fun hb13 => ?_) (fun hb13 => ?_)
     ·replace e := ifpb hb13 e; conv => whnf
      refine brK.tt hb13 ?_; conv => whnf
      refine brK.tt hb13 ?_; conv => whnf
      refine ⟨⟨fun h14 => ?_, fun h14 => ?_⟩⟩
      ·replace e := ifp h14 e; conv => whnf
       refine brK.tt hb13 ?_; conv => whnf
       refine test.dec ?_; conv => whnf
       obtain rfl := sm e
       repeat' first | exact rfl | exact trivial | refine ⟨?_, ?_⟩
      ·replace e := ifn h14 e; conv => whnf
       refine brK.tt hb13 ?_; conv => whnf
       obtain rfl := sm e
       repeat' first | exact rfl | exact trivial | refine ⟨?_, ?_⟩
     ·replace e := ifnb hb13 e; conv => whnf
      refine brK.ff hb13 ?_; conv => whnf
      refine brK.ff hb13 ?_; conv => whnf
      refine brK.ff hb13 ?_; conv => whnf
      obtain rfl := sm e
      repeat' first | exact rfl | exact trivial | refine ⟨?_, ?_⟩
    ·replace e := ifn h12 e; conv => whnf
     refine ⟨⟨fun h13 => ?_, fun h13 => ?_⟩⟩
     ·replace e := ifp h13 e; conv => whnf
      refine brK.split (fun hb14 => ?_) (fun hb14 => ?_)
      ·replace e := ifpb hb14 e; conv => whnf
       refine brK.tt hb14 ?_; conv => whnf
       refine brK.tt hb14 ?_; conv => whnf
       refine brK.tt hb14 ?_; conv => whnf
       refine test.dec ?_; conv => whnf
       refine brK.tt hb14 ?_; conv => whnf
       obtain rfl := sm e
       repeat' first | exact rfl | exact trivial | refine ⟨?_, ?_⟩
      ·replace e := ifnb hb14 e; conv => whnf
       refine brK.ff hb14 ?_; conv => whnf
       refine brK.ff hb14 ?_; conv => whnf
       refine brK.ff hb14 ?_; conv => whnf
       refine brK.ff hb14 ?_; conv => whnf
       obtain rfl := sm e
       repeat' first | exact rfl | exact trivial | refine ⟨?_, ?_⟩
     ·replace e := ifn h13 e; conv => whnf
      obtain rfl := sm e
      repeat' first | exact rfl | exact trivial | refine ⟨?_, ?_⟩
theorem P_z31_fine_j0 {t7_0 : Bool} {a0 : XN} {r : Bool} (e : z31_fine_j0 t7_0 a0 = some r) : JoinAt T Try.prog Try.f54 Fx0 [4, 5] [1, 1, 1, 0] (EP T Try.f54 (.bool r)) [(3, .ptr 0 0 0), (7, .d (.bool t7_0))] [[.cells [.d (.int .u8 a0.kind), .d (.str a0.name), .d (.int .i64 a0.type_), .d (.int .i64 a0.index), .d (.slice 1 (intDs_i64 a0.sub))]]] := by
 unfold z31_fine_j0 at e
 refine Runs.enter T_ok ?_; conv => whnf
 refine ⟨⟨fun h8 => ?_, fun h8 => ?_⟩⟩
 ·replace e := ifp h8 e; conv => whnf
  refine ⟨⟨fun h9 => ?_, fun h9 => ?_⟩⟩
  ·replace e := ifp h9 e; conv => whnf
   refine Runs.weak (P_z31_fine_j1 e) ?_
   repeat' first | exact wk.of_eq rfl | exact wk.pure rfl | exact wk.un _ | exact wk.hold _ _ _ | exact wk.holdG _ _ _ | exact rfl | exact trivial | refine ⟨?_, ?_⟩
  ·replace e := ifn h9 e; conv => whnf
   refine Runs.weak (P_z31_fine_j1 e) ?_
   repeat' first | exact wk.of_eq rfl | exact wk.pure rfl | exact wk.un _ | exact wk.hold _ _ _ | exact wk.holdG _ _ _ | exact rfl | exact trivial | refine ⟨?_, ?_⟩
 ·replace e := ifn h8 e; conv => whnf
  refine Runs.weak (P_z31_fine_j1 e) ?_
  repeat' first | exact wk.of_eq rfl | exact wk.pure rfl | exact wk.un _ | exact wk.hold _ _ _ | exact wk.holdG _ _ _ | exact rfl | exact trivial | refine ⟨?_, ?_⟩
theorem P_z31_fine {a0 : XN} {a1 : Int} {a2 : Int} {r : Bool} (e : z31_fine a0 a1 a2 = some r) : Pure Try.prog 54 [(XN.D a0), (.int .i64 a1), (.int .i64 a2)] (.bool r) := by
 unfold z31_fine at e
 refine pure_of_awp (js := [4, 5]) T_ok Try.func54 rfl (by decide +kernel) rfl ?_; conv => whnf
 obtain ⟨v1, qv1, e⟩ := bnd e
 refine said_pure (P_z31_below qv1) rfl ?_; conv => whnf
 refine brK.nsplit (fun hb2 => ?_) (fun hb2 => ?_)
 ·replace e := ifpb hb2 e; conv => whnf
  obtain ⟨v3, qv3, e⟩ := bnd e
  refine said_pure (P_z02_Name qv3) rfl ?_; conv => whnf
  refine brK.split (fun hb4 => ?_) (fun hb4 => ?_)
  ·replace e := ifpb hb4 e; conv => whnf
   refine brK.tt hb4 ?_; conv => whnf
   refine brK.tt hb4 ?_; conv => whnf
   refine ⟨⟨fun h5 => ?_, fun h5 => ?_⟩⟩
   ·replace e := ifp h5 e; conv => whnf
    refine brK.tt hb4 ?_; conv => whnf
    refine ⟨⟨fun h6 => ?_, fun h6 => ?_⟩⟩
    ·replace e := ifp h6 e; conv => whnf
     refine ⟨⟨fun h7 => ?_, fun h7 => ?_⟩⟩
     ·replace e := ifp h7 e; conv => whnf
      refine Runs.weak (P_z31_fine_j0 e) ?_
      repeat' first | exact wk.of_eq rfl | exact wk.pure rfl | exact wk.un _ | exact wk.hold _ _ _ | exact wk.holdG _ _ _ | exact rfl | exact trivial | refine ⟨?_, ?_⟩
     ·replace e := ifn h7 e; conv => whnf
      refine Runs.weak (P_z31_fine_j0 e) ?_
      repeat' first | exact wk.of_eq rfl | exact wk.pure rfl | exact wk.un _ | exact wk.hold _ _ _ | exact wk.holdG _ _ _ | exact rfl | exact trivial | refine ⟨?_, ?_⟩
    ·replace e := ifn h6 e; conv => whnf
     refine Runs.weak (P_z31_fine_j0 e) ?_
     repeat' first | exact wk.of_eq rfl | exact wk.pure rfl | exact wk.un _ | exact wk.hold _ _ _ | exact wk.holdG _ _ _ | exact rfl | exact trivial | refine ⟨?_, ?_⟩
   ·replace e := ifn h5 e; conv => whnf
    refine brK.tt hb4 ?_; conv => whnf
    refine Runs.weak (P_z31_fine_j0 e) ?_
    repeat' first | exact wk.of_eq rfl | exact wk.pure rfl | exact wk.un _ | exact wk.hold _ _ _ | exact wk.holdG _ _ _ | exact rfl | exact trivial | refine ⟨?_, ?_⟩
  ·replace e := ifnb hb4 e; conv => whnf
   refine brK.ff hb4 ?_; conv => whnf
   refine brK.ff hb4 ?_; conv => whnf
   refine brK.ff hb4 ?_; conv => whnf
   refine Runs.weak (P_z31_fine_j0 e) ?_
   repeat' first | exact wk.of_eq rfl | exact wk.pure rfl | exact wk.un _ | exact wk.hold _ _ _ | exact wk.holdG _ _ _ | exact rfl | exact trivial | refine ⟨?_, ?_⟩
 ·replace e := ifnb hb2 e; conv => whnf
  obtain rfl := sm e
  repeat' first | exact rfl | exact trivial | refine ⟨?_, ?_⟩
theorem P_z31_sameTerm {a0 : XN} {a1 : XN} {r : Bool} (e : z31_sameTerm a0 a1 = some r) : Pure Try.prog 27 [(XN.D a0), (XN.D a1)] (.bool r) := by
 unfold z31_sameTerm at e
 refine pure_of_awp (js := []) T_ok Try.func27 rfl (by decide +kernel) rfl ?_; conv => whnf
 refine ⟨⟨fun h1 => ?_, fun h1 => ?_⟩⟩
 ·replace e := ifp h1 e; conv => whnf
  refine ⟨⟨fun h2 => ?_, fun h2 => ?_⟩⟩
  ·replace e := ifp h2 e; conv => whnf
   refine ⟨⟨fun h3 => ?_, fun h3 => ?_⟩⟩
   ·replace e := ifp h3 e; conv => whnf
    refine ⟨⟨fun h4 => ?_, fun h4 => ?_⟩⟩
    ·replace e := ifp h4 e; conv => whnf
     obtain ⟨v5, qv5, e⟩ := bnd e
     refine said_pure (P_z31_ints qv5) rfl ?_; conv => whnf
     obtain rfl := sm e
     repeat' first | exact rfl | exact trivial | refine ⟨?_, ?_⟩
    ·replace e := ifn h4 e; conv => whnf
     obtain rfl := sm e
     repeat' first | exact rfl | exact trivial | refine ⟨?_, ?_⟩
   ·replace e := ifn h3 e; conv => whnf
    obtain rfl := sm e
    repeat' first | exact rfl | exact trivial | refine ⟨?_, ?_⟩
  ·replace e := ifn h2 e; conv => whnf
   refine ⟨⟨fun h3 => ?_, fun h3 => ?_⟩⟩
   ·replace e := ifp h3 e; conv => whnf
    refine ⟨⟨fun h4 => ?_, fun h4 => ?_⟩⟩
    ·replace e := ifp h4 e; conv => whnf
     refine ⟨⟨fun h5 => ?_, fun h5 => ?_⟩⟩
     ·replace e := ifp h5 e; conv => whnf
      obtain ⟨v6, qv6, e⟩ := bnd e
      refine said_pure (P_z31_ints qv6) rfl ?_; conv => whnf
      obtain rfl := sm e
      repeat' first | exact rfl | exact trivial | refine ⟨?_, ?_⟩
     ·replace e := ifn h5 e; conv => whnf
      obtain rfl := sm e
      repeat' first | exact rfl | exact trivial | refine ⟨?_, ?_⟩
    ·replace e := ifn h4 e; conv => whnf
     obtain rfl := sm e
     repeat' first | exact rfl | exact trivial | refine ⟨?_, ?_⟩
   ·replace e := ifn h3 e; conv => whnf
    obtain rfl := sm e
    repeat' first | exact rfl | exact trivial | refine ⟨?_, ?_⟩
 ·replace e := ifn h1 e; conv => whnf
  obtain rfl := sm e
  repeat' first | exact rfl | exact trivial | refine ⟨?_, ?_⟩
def M_z31_Valid_l0 (rest0 : (List XN)) (k0 : Nat) (a0 : AStore) (r : Bool) : Prop := ∀ (hd0 : rest0 = a0.terms.drop k0), LoopAt T Try.prog Try.f40 Fx0 [] [1, 1, 0, 1, 0] (EP T Try.f40 (.bool r)) [(1, .ptr 0 0 0), (3, .d (.int .i64 (k0 : Int)))] [[.cells [.d (.slice 3 (YN.Ds a0.types)), .d (.slice 5 (XN.Ds a0.terms))]]]
def M_z31_Valid_l1 (t4_1 : Int) (a0 : AStore) (k0 : Nat) (rest0 : (List XN)) (v4 : XN) (r : Bool) : Prop := ∀ (hxv4 : a0.terms[k0]? = some v4) (hd0 : rest0 = a0.terms.drop (k0 + 1)) (hltv4 : k0 < a0.terms.length) (hlenk0 : (XN.Ds a0.terms).length ≤ 9223372036854775807), LoopAt T Try.prog Try.f40 Fx0 [] [1, 1, 0, 1, 0, 0, 1, 0, 0, 1, 1, 0] (EP T Try.f40 (.bool r)) [(1, .ptr 0 0 0), (3, .d (.int .i64 (k0 : Int))), (4, .d (.int .i64 t4_1))] [[.cells [.d (.slice 3 (YN.Ds a0.types)), .d (.slice 5 (XN.Ds a0.terms))]]]
theorem G_z31_Valid_l0 : (∀ p r, z31_Valid_l0' p = some r → ∀ rest0 k0 a0, (rest0, k0, a0) = p → M_z31_Valid_l0 rest0 k0 a0 r) ∧
  (∀ p r, z31_Valid_l1' p = some r → ∀ t4_1 a0 k0 rest0 v4, (t4_1, a0, k0, rest0, v4) = p → M_z31_Valid_l1 t4_1 a0 k0 rest0 v4 r) := by
 refine z31_Valid_l0'.mutual_partial_correctness (fun (p : ((List XN) × Nat × AStore)) (r : Bool) => ∀ (rest0 : (List XN)) (k0 : Nat) (a0 : AStore), (rest0, k0, a0) = p → M_z31_Valid_l0 rest0 k0 a0 r) (fun (p : (Int × AStore × Nat × (List XN) × XN)) (r : Bool) => ∀ (t4_1 : Int) (a0 : AStore) (k0 : Nat) (rest0 : (List XN)) (v4 : XN), (t4_1, a0, k0, rest0, v4) = p → M_z31_Valid_l1 t4_1 a0 k0 rest0 v4 r) ?_ ?_
 ·intro f_z31_Valid_l1 ih_z31_Valid_l1 p r e rest0 k0 a0 hp
  subst hp
  intro hd0
  refine RunsL.len_cell 0 1 rfl rfl rfl fun hlenk0 => ?_
  refine RunsL.of_awp (js := []) T_ok ?_; conv => whnf
  have hls := XN.Ds_len a0.terms
  cases rest0 with
  | nil =>
   have hk := drop_nil hd0
   refine ⟨⟨fun h => absurd h (by omega), fun _ => ?_⟩⟩; conv => whnf
   obtain rfl := sm e
   repeat' first | exact rfl | exact trivial | refine ⟨?_, ?_⟩
  | cons v4 rest0 =>
   obtain ⟨hxv4, hd0, hltv4⟩ := drop_head hd0
   refine ⟨⟨fun _ => ?_, fun h => absurd (by omega) h⟩⟩; conv => whnf
   refine draw_rule [] T_ok mixed z31_Valid_pl6 (by decide +kernel) ?_; conv => whnf
   refine ⟨k0, _, rfl, XN.Ds_get hxv4, ?_⟩; conv => whnf
   refine ⟨XN.Ds_fit _ rfl rfl, ?_⟩; conv => whnf
   obtain ⟨v5, qv5, e⟩ := bnd e
   first | (refine said_pure (P_z31_fine qv5) rfl ⟨Keeps.refl _ _, ?_⟩) | (refine said_pure2 (P_z31_fine qv5) rfl (by simp [XN.Ds_all, YN.Ds_all, AStore.D, XN.D, YN.D, listAll] <;> (repeat' first | rfl | apply And.intro)) ⟨Keeps.refl _ _, ?_⟩)
   (conv => whnf)
   refine brK.nsplit (fun hb6 => ?_) (fun hb6 => ?_)
   ·replace e := ifpb hb6 e; conv => whnf
    refine RunsL.runs (RunsL.weak ((ih_z31_Valid_l1 _ _ e _ _ _ _ _ rfl) hxv4 hd0 hltv4 hlenk0) ?_)
    repeat' first | exact wk.of_eq rfl | exact wk.pure rfl | exact wk.un _ | exact wk.hold _ _ _ | exact wk.holdG _ _ _ | exact rfl | exact trivial | refine ⟨?_, ?_⟩
   ·replace e := ifnb hb6 e; conv => whnf
    obtain rfl := sm e
    repeat' first | exact rfl | exact trivial | refine ⟨?_, ?_⟩
 ·intro f_z31_Valid_l0 f_z31_Valid_l1 ih_z31_Valid_l0 ih_z31_Valid_l1 p r e t4_1 a0 k0 rest0 v4 hp
  subst hp
  intro hxv4 hd0 hltv4 hlenk0
  have hlsv4 := XN.Ds_len a0.terms
  refine RunsL.of_awp (js := []) T_ok ?_; conv => whnf
  refine ⟨⟨fun h7 => ?_, fun h7 => ?_⟩⟩
  ·replace e := ifp h7 e; conv => whnf
   refine draw_rule [] T_ok mixed z31_Valid_pl11 (by decide +kernel) ?_; conv => whnf
   obtain ⟨v8, qv8, e⟩ := bnd e
   obtain ⟨qv8k, qv8a, qv8b⟩ := geti_some qv8
   refine ⟨qv8k, _, qv8a, XN.Ds_get qv8b, ?_⟩; conv => whnf
   refine ⟨XN.Ds_fit _ rfl rfl, ?_⟩; conv => whnf
   refine ⟨k0, _, rfl, XN.Ds_get hxv4, ?_⟩; conv => whnf
   refine ⟨XN.Ds_fit _ rfl rfl, ?_⟩; conv => whnf
   obtain ⟨v9, qv9, e⟩ := bnd e
   refine said_pure (P_z31_sameTerm qv9) rfl ⟨Keeps.refl _ _, ?_⟩; conv => whnf
   refine brK.split (fun hb10 => ?_) (fun hb10 => ?_)
   ·replace e := ifpb hb10 e; conv => whnf
    obtain rfl := sm e
    repeat' first | exact rfl | exact trivial | refine ⟨?_, ?_⟩
   ·replace e := ifnb hb10 e; conv => whnf
    obtain ⟨v11, qv11, e⟩ := bnd e
    refine ⟨v11, sm qv11, ?_⟩; conv => whnf
    refine (RunsL.weak ((ih_z31_Valid_l1 _ _ e _ _ _ _ _ rfl) hxv4 hd0 hltv4 hlenk0) ?_)
    repeat' first | exact wk.of_eq rfl | exact wk.pure rfl | exact wk.un _ | exact wk.hold _ _ _ | exact wk.holdG _ _ _ | exact rfl | exact trivial | refine ⟨?_, ?_⟩
  ·replace e := ifn h7 e; conv => whnf
   refine ⟨((k0 + 1 : Nat) : Int), wrap64e (by omega) (by omega) (by omega), ?_⟩; conv => whnf
   refine (RunsL.weak ((ih_z31_Valid_l0 _ _ e _ _ _ rfl) hd0) ?_)
   repeat' first | exact wk.of_eq rfl | exact wk.pure rfl | exact wk.un _ | exact wk.hold _ _ _ | exact wk.holdG _ _ _ | exact rfl | exact trivial | refine ⟨?_, ?_⟩
theorem P_z31_Valid_l0 {rest0 : (List XN)} {k0 : Nat} {a0 : AStore} {r : Bool} (e : z31_Valid_l0 rest0 k0 a0 = some r) : M_z31_Valid_l0 rest0 k0 a0 r := G_z31_Valid_l0.1 _ _ e _ _ _ rfl
theorem P_z31_Valid {a0 : AStore} {r : Bool} (e : z31_Valid a0 = some r) : Pure Try.prog 40 [(AStore.D a0)] (.bool r) := by
 unfold z31_Valid at e
 refine pure_of_awp (js := []) T_ok Try.func40 rfl (by decide +kernel) rfl ?_; conv => whnf
 obtain ⟨v1, qv1, e⟩ := bnd e
 refine said_pure (P_z31_typesValid qv1) rfl ?_; conv => whnf
 refine brK.nsplit (fun hb2 => ?_) (fun hb2 => ?_)
 ·replace e := ifpb hb2 e; conv => whnf
  refine RunsL.runs (RunsL.weak ((P_z31_Valid_l0 e) (by simp)) ?_)
  repeat' first | exact wk.of_eq rfl | exact wk.pure rfl | exact wk.un _ | exact wk.hold _ _ _ | exact wk.holdG _ _ _ | exact rfl | exact trivial | refine ⟨?_, ?_⟩
 ·replace e := ifnb hb2 e; conv => whnf
  obtain rfl := sm e
  repeat' first | exact rfl | exact trivial | refine ⟨?_, ?_⟩
theorem P_z31_Check {a0 : AStore} {r : Int} (e : z31_Check a0 = some r) : Pure Try.prog 22 [(AStore.D a0)] (.int .i64 r) := by
 unfold z31_Check at e
 refine pure_of_awp (js := []) T_ok Try.func22 rfl (by decide +kernel) rfl ?_; conv => whnf
 refine ⟨⟨fun h1 => ?_, fun h1 => ?_⟩⟩
 ·replace e := ifp (by first | exact h1 | omega | simpa [XN.Ds_all, YN.Ds_all, AStore.D, XN.D, YN.D, listAll] using h1) e; conv => whnf
  obtain rfl := sm e
  repeat' first | exact rfl | exact trivial | refine ⟨?_, ?_⟩
 ·replace e := ifn (by first | exact h1 | omega | simpa [XN.Ds_all, YN.Ds_all, AStore.D, XN.D, YN.D, listAll] using h1) e; conv => whnf
  refine ⟨⟨fun h2 => ?_, fun h2 => ?_⟩⟩
  ·replace e := ifp (by first | exact h2 | omega | simpa [XN.Ds_all, YN.Ds_all, AStore.D, XN.D, YN.D, listAll] using h2) e; conv => whnf
   obtain rfl := sm e
   repeat' first | exact rfl | exact trivial | refine ⟨?_, ?_⟩
  ·replace e := ifn (by first | exact h2 | omega | simpa [XN.Ds_all, YN.Ds_all, AStore.D, XN.D, YN.D, listAll] using h2) e; conv => whnf
   obtain ⟨v3, qv3, e⟩ := bnd e
   refine said_pure (P_z31_Valid qv3) rfl ?_; conv => whnf
   refine brK.nsplit (fun hb4 => ?_) (fun hb4 => ?_)
   ·replace e := ifpb hb4 e; conv => whnf
    obtain rfl := sm e
    repeat' first | exact rfl | exact trivial | refine ⟨?_, ?_⟩
   ·replace e := ifnb hb4 e; conv => whnf
    obtain rfl := sm e
    repeat' first | exact rfl | exact trivial | refine ⟨?_, ?_⟩
theorem P_z01_Check {a0 : Ty} {r : Int} (e : z01_Check a0 = some r) : Pure Try.prog 23 [(Ty.D a0)] (.int .i64 r) := by
 unfold z01_Check at e
 refine pure_of_awp (js := []) T_ok Try.func23 rfl (by decide +kernel) rfl ?_; conv => whnf
 obtain ⟨v1, qv1, e⟩ := bnd e
 refine said_pure (P_z01_Valid qv1) rfl ?_; conv => whnf
 refine brK.nsplit (fun hb2 => ?_) (fun hb2 => ?_)
 ·replace e := ifpb hb2 e; conv => whnf
  obtain rfl := sm e
  repeat' first | exact rfl | exact trivial | refine ⟨?_, ?_⟩
 ·replace e := ifnb hb2 e; conv => whnf
  obtain rfl := sm e
  repeat' first | exact rfl | exact trivial | refine ⟨?_, ?_⟩
end Go.Proofs.Ytemfpemejagndaa.Fw


set_option maxHeartbeats 4000000
namespace Go.Proofs.Ytemfpemejagndaa.Fw
open Go Go.Proofs Go.RowKit
def M_z31_PutType_l1 (rest1 : (List YN)) (k1 : Nat) (a1 : Ty) (c0_0_0 : (List YN)) (c0_1_0 : (List XN)) (c3_2_0 : (List Int)) (r : (AStore × Int)) : Prop := ∀ (hd1 : rest1 = c0_0_0.drop k1), LoopAt T Try.prog Try.f24 Fx0 [8] [1, 1, 1, 0, 1, 0] (EP T Try.f24 (.tuple [(AStore.D r.1), (.int .i64 r.2)])) [(2, .ptr 0 0 0), (4, .ptr 0 2 0), (6, .ptr 0 3 0), (10, .d (.int .i64 (k1 : Int)))] [[.cells [.d (.slice 3 (YN.Ds c0_0_0)), .d (.slice 5 (XN.Ds c0_1_0))], .cells [.d (.bool a1.v), .d (.str a1.name), .d (.slice 3 (Ty.Ds a1.args))], .cells [.nil 3, .nil 5], .cells [.d (.bool a1.v), .d (.str a1.name), .own 0 4 1 (intDs_i64 c3_2_0)], .grow 1 (intDs_i64 c3_2_0).length]]
theorem G_z31_PutType_l1 : (∀ p r, z31_PutType_l1' p = some r → ∀ rest1 k1 a1 c0_0_0 c0_1_0 c3_2_0, (rest1, k1, a1, c0_0_0, c0_1_0, c3_2_0) = p → M_z31_PutType_l1 rest1 k1 a1 c0_0_0 c0_1_0 c3_2_0 r) := by
 refine z31_PutType_l1'.partial_correctness (fun (p : ((List YN) × Nat × Ty × (List YN) × (List XN) × (List Int))) (r : (AStore × Int)) => ∀ (rest1 : (List YN)) (k1 : Nat) (a1 : Ty) (c0_0_0 : (List YN)) (c0_1_0 : (List XN)) (c3_2_0 : (List Int)), (rest1, k1, a1, c0_0_0, c0_1_0, c3_2_0) = p → M_z31_PutType_l1 rest1 k1 a1 c0_0_0 c0_1_0 c3_2_0 r) ?_
 ·intro f_z31_PutType_l1 ih_z31_PutType_l1 p r e rest1 k1 a1 c0_0_0 c0_1_0 c3_2_0 hp
  subst hp
  intro hd1
  refine RunsL.len_cell 0 0 rfl rfl rfl fun hlenk1 => ?_
  refine RunsL.of_awp (js := [8]) T_ok ?_; conv => whnf
  have hls := YN.Ds_len c0_0_0
  cases rest1 with
  | nil =>
   have hk := drop_nil hd1
   refine ⟨⟨fun h => absurd h (by omega), fun _ => ?_⟩⟩; conv => whnf
   refine draw_rule [] T_ok mixed z31_PutType_pl13 (by decide +kernel) ?_; conv => whnf
   refine ⟨trivial, ?_⟩; conv => whnf
   refine ⟨⟨⟨rfl, rfl⟩, trivial⟩, ?_⟩; conv => whnf
   obtain ⟨v12, qv12, e⟩ := bnd e
   obtain ⟨qv12l, qv12e⟩ := app_some qv12
   refine ⟨(by first | exact qv12l | simpa [XN.Ds_all, YN.Ds_all, Ty.Ds_all, intDs_i64_all, AStore.D, XN.D, YN.D, Ty.D, listAll] using qv12l), rfl, fun hz => ?_, fun hz => ?_⟩
   ·have hyv12 : c0_0_0 = [] := by simpa [YN.Ds_map, List.map_eq_nil_iff, XN.Ds_all, YN.Ds_all, Ty.Ds_all, intDs_i64_all, AStore.D, XN.D, YN.D, Ty.D, listAll] using hz
    have hzv12 : v12 = ([] : List YN) := by rw [qv12e, hyv12]; simp
    (conv => whnf)
    obtain ⟨v13, qv13, e⟩ := bnd e
    obtain ⟨qv13l, qv13e⟩ := app_some qv13
    refine ⟨(by first | exact qv13l | simpa [XN.Ds_all, YN.Ds_all, Ty.Ds_all, intDs_i64_all, AStore.D, XN.D, YN.D, Ty.D, listAll] using qv13l | simpa [XN.Ds_all, YN.Ds_all, Ty.Ds_all, intDs_i64_all, AStore.D, XN.D, YN.D, Ty.D, listAll, hzv12] using qv13l), rfl, fun h => (by first | cases h | simp at h), fun _ => ?_⟩; conv => whnf
    refine draw_rule [] T_ok mixed z31_PutType_pl14 (by decide +kernel) ?_; conv => whnf
    obtain ⟨v14, qv14, e⟩ := bnd e
    refine ⟨v14, (by have := sm qv14; first | exact this | simpa [XN.Ds_all, YN.Ds_all, Ty.Ds_all, intDs_i64_all, AStore.D, XN.D, YN.D, Ty.D, listAll] using this | simpa [XN.Ds_all, YN.Ds_all, Ty.Ds_all, intDs_i64_all, AStore.D, XN.D, YN.D, Ty.D, listAll, hzv12, qv13e] using this), ?_⟩; conv => whnf
    obtain rfl := sm e
    repeat' first | exact rfl | exact trivial | refine ⟨_, rfl, ?_, ?_⟩ | refine ⟨?_, ?_⟩ | (simp [XN.Ds_all, YN.Ds_all, Ty.Ds_all, intDs_i64_all, AStore.D, XN.D, YN.D, Ty.D, listAll, hzv12, qv13e] <;> (repeat' first | rfl | apply And.intro))
   ·(conv => whnf)
    obtain ⟨v13, qv13, e⟩ := bnd e
    obtain ⟨qv13l, qv13e⟩ := app_some qv13
    refine ⟨(by first | exact qv13l | simpa [XN.Ds_all, YN.Ds_all, Ty.Ds_all, intDs_i64_all, AStore.D, XN.D, YN.D, Ty.D, listAll] using qv13l | simpa [XN.Ds_all, YN.Ds_all, Ty.Ds_all, intDs_i64_all, AStore.D, XN.D, YN.D, Ty.D, listAll, qv12e] using qv13l), rfl, (by first | rfl | simp [XN.Ds_all, YN.Ds_all, Ty.Ds_all, intDs_i64_all, AStore.D, XN.D, YN.D, Ty.D, listAll]), ?_⟩; conv => whnf
    refine draw_rule [] T_ok mixed z31_PutType_pl14 (by decide +kernel) ?_; conv => whnf
    obtain ⟨v14, qv14, e⟩ := bnd e
    refine ⟨v14, (by have := sm qv14; first | exact this | simpa [XN.Ds_all, YN.Ds_all, Ty.Ds_all, intDs_i64_all, AStore.D, XN.D, YN.D, Ty.D, listAll] using this | simpa [XN.Ds_all, YN.Ds_all, Ty.Ds_all, intDs_i64_all, AStore.D, XN.D, YN.D, Ty.D, listAll, qv12e, qv13e] using this), ?_⟩; conv => whnf
    obtain rfl := sm e
    repeat' first | exact rfl | exact trivial | refine ⟨_, rfl, ?_, ?_⟩ | refine ⟨?_, ?_⟩ | (simp [XN.Ds_all, YN.Ds_all, Ty.Ds_all, intDs_i64_all, AStore.D, XN.D, YN.D, Ty.D, listAll, qv12e, qv13e] <;> (repeat' first | rfl | apply And.intro))
  | cons v11 rest1 =>
   obtain ⟨hxv11, hd1, hltv11⟩ := drop_head hd1
   refine ⟨⟨fun _ => ?_, fun h => absurd (by omega) h⟩⟩; conv => whnf
   refine draw_rule [] T_ok mixed z31_PutType_pl11 (by decide +kernel) ?_; conv => whnf
   refine ⟨k1, _, rfl, YN.Ds_get hxv11, ?_⟩; conv => whnf
   refine ⟨YN.Ds_fit _ rfl rfl, ?_⟩; conv => whnf
   obtain ⟨v12, qv12, e⟩ := bnd e
   first | (refine said_pure (P_z31_sameType qv12) rfl ⟨Keeps.refl _ _, ?_⟩) | (refine said_pure2 (P_z31_sameType qv12) rfl (by simp [XN.Ds_all, YN.Ds_all, Ty.Ds_all, intDs_i64_all, AStore.D, XN.D, YN.D, Ty.D, listAll] <;> (repeat' first | rfl | apply And.intro)) ⟨Keeps.refl _ _, ?_⟩)
   (conv => whnf)
   refine brK.split (fun hb13 => ?_) (fun hb13 => ?_)
   ·replace e := ifpb hb13 e; conv => whnf
    obtain rfl := sm e
    repeat' first | exact rfl | exact trivial | refine ⟨?_, ?_⟩
   ·replace e := ifnb hb13 e; conv => whnf
    refine ⟨((k1 + 1 : Nat) : Int), wrap64e (by omega) (by omega) (by omega), ?_⟩; conv => whnf
    refine (RunsL.weak ((ih_z31_PutType_l1 _ _ e _ _ _ _ _ _ rfl) hd1) ?_)
    repeat' first | exact wk.of_eq rfl | exact wk.pure rfl | exact wk.un _ | exact wk.hold _ _ _ | exact wk.holdG _ _ _ | exact rfl | exact trivial | refine ⟨?_, ?_⟩ | (refine wk.of_eq ?_; (conv => lhs; whnf); (simp [XN.Ds_all, YN.Ds_all, Ty.Ds_all, intDs_i64_all, AStore.D, XN.D, YN.D, Ty.D, listAll] <;> (repeat' first | rfl | apply And.intro)); done) | (refine wk.pure ?_; (conv => lhs; whnf); (simp [XN.Ds_all, YN.Ds_all, Ty.Ds_all, intDs_i64_all, AStore.D, XN.D, YN.D, Ty.D, listAll] <;> (repeat' first | rfl | apply And.intro)); done) | ((simp [XN.Ds_all, YN.Ds_all, Ty.Ds_all, intDs_i64_all, AStore.D, XN.D, YN.D, Ty.D, listAll] <;> (repeat' first | rfl | apply And.intro)); done) | (simp [XN.Ds_all, YN.Ds_all, Ty.Ds_all, intDs_i64_all, AStore.D, XN.D, YN.D, Ty.D, listAll]; omega)
theorem P_z31_PutType_l1 {rest1 : (List YN)} {k1 : Nat} {a1 : Ty} {c0_0_0 : (List YN)} {c0_1_0 : (List XN)} {c3_2_0 : (List Int)} {r : (AStore × Int)} (e : z31_PutType_l1 rest1 k1 a1 c0_0_0 c0_1_0 c3_2_0 = some r) : M_z31_PutType_l1 rest1 k1 a1 c0_0_0 c0_1_0 c3_2_0 r := G_z31_PutType_l1 _ _ e _ _ _ _ _ _ rfl
theorem P_z31_PutType_j0 {a1 : Ty} {c0_0_0 : (List YN)} {c0_1_0 : (List XN)} {c3_2_0 : (List Int)} {r : (AStore × Int)} (e : z31_PutType_j0 a1 c0_0_0 c0_1_0 c3_2_0 = some r) : JoinAt T Try.prog Try.f24 Fx0 [8] [1, 1, 1, 0, 0] (EP T Try.f24 (.tuple [(AStore.D r.1), (.int .i64 r.2)])) [(2, .ptr 0 0 0), (4, .ptr 0 2 0), (6, .ptr 0 3 0)] [[.cells [.d (.slice 3 (YN.Ds c0_0_0)), .d (.slice 5 (XN.Ds c0_1_0))], .cells [.d (.bool a1.v), .d (.str a1.name), .d (.slice 3 (Ty.Ds a1.args))], .cells [.nil 3, .nil 5], .cells [.d (.bool a1.v), .d (.str a1.name), .own 0 4 1 (intDs_i64 c3_2_0)], .grow 1 (intDs_i64 c3_2_0).length]] := by
 unfold z31_PutType_j0 at e
 refine Runs.enter T_ok ?_; conv => whnf
 refine RunsL.runs (RunsL.weak ((P_z31_PutType_l1 e) (by simp)) ?_)
 repeat' first | exact wk.of_eq rfl | exact wk.pure rfl | exact wk.un _ | exact wk.hold _ _ _ | exact wk.holdG _ _ _ | exact rfl | exact trivial | refine ⟨?_, ?_⟩ | (refine wk.of_eq ?_; (conv => lhs; whnf); (simp [XN.Ds_all, YN.Ds_all, Ty.Ds_all, intDs_i64_all, AStore.D, XN.D, YN.D, Ty.D, listAll] <;> (repeat' first | rfl | apply And.intro)); done) | (refine wk.pure ?_; (conv => lhs; whnf); (simp [XN.Ds_all, YN.Ds_all, Ty.Ds_all, intDs_i64_all, AStore.D, XN.D, YN.D, Ty.D, listAll] <;> (repeat' first | rfl | apply And.intro)); done) | ((simp [XN.Ds_all, YN.Ds_all, Ty.Ds_all, intDs_i64_all, AStore.D, XN.D, YN.D, Ty.D, listAll] <;> (repeat' first | rfl | apply And.intro)); done) | (simp [XN.Ds_all, YN.Ds_all, Ty.Ds_all, intDs_i64_all, AStore.D, XN.D, YN.D, Ty.D, listAll]; omega)
def M_z31_PutType (a0 : AStore) (a1 : Ty) (r : (AStore × Int)) : Prop := Pure Try.prog 24 [(AStore.D a0), (Ty.D a1)] (.tuple [(AStore.D r.1), (.int .i64 r.2)])
def M_z31_PutType_l0 (rest0 : (List Ty)) (c0_0_0 : (List YN)) (c0_1_0 : (List XN)) (c3_2_0 : (List Int)) (a1 : Ty) (r : (AStore × Int)) : Prop := ∀ (k0 : Nat) (hd0 : rest0 = a1.args.drop k0), LoopAt T Try.prog Try.f24 Fx0 [8] [1, 1, 0, 1, 0] (EP T Try.f24 (.tuple [(AStore.D r.1), (.int .i64 r.2)])) [(2, .ptr 0 0 0), (3, .ptr 0 1 0), (4, .ptr 0 2 0), (6, .ptr 0 3 0), (7, .d (.int .i64 (k0 : Int)))] [[.cells [.d (.slice 3 (YN.Ds c0_0_0)), .d (.slice 5 (XN.Ds c0_1_0))], .cells [.d (.bool a1.v), .d (.str a1.name), .d (.slice 3 (Ty.Ds a1.args))], .cells [.nil 3, .nil 5], .cells [.d (.bool a1.v), .d (.str a1.name), .own 0 4 1 (intDs_i64 c3_2_0)], .grow 1 (intDs_i64 c3_2_0).length]]
theorem G_z31_PutType : (∀ p r, z31_PutType' p = some r → ∀ a0 a1, (a0, a1) = p → M_z31_PutType a0 a1 r) ∧
  (∀ p r, z31_PutType_l0' p = some r → ∀ rest0 c0_0_0 c0_1_0 c3_2_0 a1, (rest0, c0_0_0, c0_1_0, c3_2_0, a1) = p → M_z31_PutType_l0 rest0 c0_0_0 c0_1_0 c3_2_0 a1 r) := by
 refine z31_PutType'.mutual_partial_correctness (fun (p : (AStore × Ty)) (r : (AStore × Int)) => ∀ (a0 : AStore) (a1 : Ty), (a0, a1) = p → M_z31_PutType a0 a1 r) (fun (p : ((List Ty) × (List YN) × (List XN) × (List Int) × Ty)) (r : (AStore × Int)) => ∀ (rest0 : (List Ty)) (c0_0_0 : (List YN)) (c0_1_0 : (List XN)) (c3_2_0 : (List Int)) (a1 : Ty), (rest0, c0_0_0, c0_1_0, c3_2_0, a1) = p → M_z31_PutType_l0 rest0 c0_0_0 c0_1_0 c3_2_0 a1 r) ?_ ?_
 ·intro f_z31_PutType_l0 ih_z31_PutType_l0 p r e a0 a1 hp
  subst hp
  refine pure_of_awp (js := [8]) T_ok Try.func24 rfl (by decide +kernel) rfl ?_; conv => whnf
  refine Runs.hold 1 ?_
  refine RunsL.runs (RunsL.weak ((ih_z31_PutType_l0 _ _ e _ _ _ _ _ rfl) 0 (by simp)) ?_)
  repeat' first | exact wk.of_eq rfl | exact wk.pure rfl | exact wk.un _ | exact wk.hold _ _ _ | exact wk.holdG _ _ _ | exact rfl | exact trivial | refine ⟨?_, ?_⟩ | (refine wk.of_eq ?_; (conv => lhs; whnf); (simp [XN.Ds_all, YN.Ds_all, Ty.Ds_all, intDs_i64_all, AStore.D, XN.D, YN.D, Ty.D, listAll] <;> (repeat' first | rfl | apply And.intro)); done) | (refine wk.pure ?_; (conv => lhs; whnf); (simp [XN.Ds_all, YN.Ds_all, Ty.Ds_all, intDs_i64_all, AStore.D, XN.D, YN.D, Ty.D, listAll] <;> (repeat' first | rfl | apply And.intro)); done) | ((simp [XN.Ds_all, YN.Ds_all, Ty.Ds_all, intDs_i64_all, AStore.D, XN.D, YN.D, Ty.D, listAll] <;> (repeat' first | rfl | apply And.intro)); done) | (simp [XN.Ds_all, YN.Ds_all, Ty.Ds_all, intDs_i64_all, AStore.D, XN.D, YN.D, Ty.D, listAll]; omega)
 ·intro f_z31_PutType f_z31_PutType_l0 ih_z31_PutType ih_z31_PutType_l0 p r e rest0 c0_0_0 c0_1_0 c3_2_0 a1 hp
  subst hp
  intro k0 hd0
  refine RunsL.len_cell 1 2 rfl rfl rfl fun hlenk0 => ?_
  refine RunsL.of_awp (js := [8]) T_ok ?_; conv => whnf
  have hls := Ty.Ds_len a1.args
  cases rest0 with
  | nil =>
   have hk := drop_nil hd0
   refine ⟨⟨fun h => absurd h (by omega), fun _ => ?_⟩⟩; conv => whnf
   refine Runs.weak (P_z31_PutType_j0 e) ?_
   repeat' first | exact wk.of_eq rfl | exact wk.pure rfl | exact wk.un _ | exact wk.hold _ _ _ | exact wk.holdG _ _ _ | exact rfl | exact trivial | refine ⟨?_, ?_⟩ | (refine wk.of_eq ?_; (conv => lhs; whnf); (simp [XN.Ds_all, YN.Ds_all, Ty.Ds_all, intDs_i64_all, AStore.D, XN.D, YN.D, Ty.D, listAll] <;> (repeat' first | rfl | apply And.intro)); done) | (refine wk.pure ?_; (conv => lhs; whnf); (simp [XN.Ds_all, YN.Ds_all, Ty.Ds_all, intDs_i64_all, AStore.D, XN.D, YN.D, Ty.D, listAll] <;> (repeat' first | rfl | apply And.intro)); done) | ((simp [XN.Ds_all, YN.Ds_all, Ty.Ds_all, intDs_i64_all, AStore.D, XN.D, YN.D, Ty.D, listAll] <;> (repeat' first | rfl | apply And.intro)); done) | (simp [XN.Ds_all, YN.Ds_all, Ty.Ds_all, intDs_i64_all, AStore.D, XN.D, YN.D, Ty.D, listAll]; omega)
  | cons v8 rest0 =>
   obtain ⟨hxv8, hd0, hltv8⟩ := drop_head hd0
   refine ⟨⟨fun _ => ?_, fun h => absurd (by omega) h⟩⟩; conv => whnf
   refine draw_rule [] T_ok mixed z31_PutType_pl5 (by decide +kernel) ?_; conv => whnf
   refine ⟨k0, _, rfl, Ty.Ds_get hxv8, ?_⟩; conv => whnf
   refine ⟨Ty.Ds_fit _ rfl rfl, ?_⟩; conv => whnf
   obtain ⟨v9, qv9, e⟩ := bnd e
   refine ⟨?_, ?_⟩
   ·(conv => whnf)
    refine said_pure (ih_z31_PutType _ _ qv9 _ _ rfl) rfl ⟨Keeps.refl _ _, ?_⟩; conv => whnf
    refine ⟨⟨⟨rfl, rfl⟩, trivial⟩, ?_⟩; conv => whnf
    obtain ⟨v10, qv10, e⟩ := bnd e
    obtain ⟨qv10l, qv10e⟩ := app_some qv10
    refine ⟨(by first | exact qv10l | simpa [XN.Ds_all, YN.Ds_all, Ty.Ds_all, intDs_i64_all, AStore.D, XN.D, YN.D, Ty.D, listAll] using qv10l), rfl, (by first | rfl | simp [XN.Ds_all, YN.Ds_all, Ty.Ds_all, intDs_i64_all, AStore.D, XN.D, YN.D, Ty.D, listAll]), ?_⟩; conv => whnf
    refine ⟨((k0 + 1 : Nat) : Int), wrap64e (by omega) (by omega) (by omega), ?_⟩; conv => whnf
    refine (RunsL.weak ((ih_z31_PutType_l0 _ _ e _ _ _ _ _ rfl) (k0 + 1) hd0) ?_)
    repeat' first | exact wk.of_eq rfl | exact wk.pure rfl | exact wk.un _ | exact wk.hold _ _ _ | exact wk.holdG _ _ _ | exact rfl | exact trivial | refine ⟨?_, ?_⟩ | (refine wk.of_eq ?_; (conv => lhs; whnf); (simp [XN.Ds_all, YN.Ds_all, Ty.Ds_all, intDs_i64_all, AStore.D, XN.D, YN.D, Ty.D, listAll, qv10e] <;> (repeat' first | rfl | apply And.intro)); done) | (refine wk.pure ?_; (conv => lhs; whnf); (simp [XN.Ds_all, YN.Ds_all, Ty.Ds_all, intDs_i64_all, AStore.D, XN.D, YN.D, Ty.D, listAll, qv10e] <;> (repeat' first | rfl | apply And.intro)); done) | ((simp [XN.Ds_all, YN.Ds_all, Ty.Ds_all, intDs_i64_all, AStore.D, XN.D, YN.D, Ty.D, listAll, qv10e] <;> (repeat' first | rfl | apply And.intro)); done) | (simp [XN.Ds_all, YN.Ds_all, Ty.Ds_all, intDs_i64_all, AStore.D, XN.D, YN.D, Ty.D, listAll, qv10e]; omega)
   ·(conv => whnf)
    refine said_pure (ih_z31_PutType _ _ qv9 _ _ rfl) rfl ⟨Keeps.refl _ _, ?_⟩; conv => whnf
    refine ⟨⟨⟨rfl, rfl⟩, trivial⟩, ?_⟩; conv => whnf
    obtain ⟨v11, qv11, e⟩ := bnd e
    obtain ⟨qv11l, qv11e⟩ := app_some qv11
    refine ⟨(by first | exact qv11l | simpa [XN.Ds_all, YN.Ds_all, Ty.Ds_all, intDs_i64_all, AStore.D, XN.D, YN.D, Ty.D, listAll] using qv11l), rfl, (by first | rfl | simp [XN.Ds_all, YN.Ds_all, Ty.Ds_all, intDs_i64_all, AStore.D, XN.D, YN.D, Ty.D, listAll]), ?_⟩; conv => whnf
    refine ⟨((k0 + 1 : Nat) : Int), wrap64e (by omega) (by omega) (by omega), ?_⟩; conv => whnf
    refine (RunsL.weak ((ih_z31_PutType_l0 _ _ e _ _ _ _ _ rfl) (k0 + 1) hd0) ?_)
    repeat' first | exact wk.of_eq rfl | exact wk.pure rfl | exact wk.un _ | exact wk.hold _ _ _ | exact wk.holdG _ _ _ | exact rfl | exact trivial | refine ⟨?_, ?_⟩ | (refine wk.of_eq ?_; (conv => lhs; whnf); (simp [XN.Ds_all, YN.Ds_all, Ty.Ds_all, intDs_i64_all, AStore.D, XN.D, YN.D, Ty.D, listAll, qv11e] <;> (repeat' first | rfl | apply And.intro)); done) | (refine wk.pure ?_; (conv => lhs; whnf); (simp [XN.Ds_all, YN.Ds_all, Ty.Ds_all, intDs_i64_all, AStore.D, XN.D, YN.D, Ty.D, listAll, qv11e] <;> (repeat' first | rfl | apply And.intro)); done) | ((simp [XN.Ds_all, YN.Ds_all, Ty.Ds_all, intDs_i64_all, AStore.D, XN.D, YN.D, Ty.D, listAll, qv11e] <;> (repeat' first | rfl | apply And.intro)); done) | (simp [XN.Ds_all, YN.Ds_all, Ty.Ds_all, intDs_i64_all, AStore.D, XN.D, YN.D, Ty.D, listAll, qv11e]; omega)
theorem P_z31_PutType {a0 : AStore} {a1 : Ty} {r : (AStore × Int)} (e : z31_PutType a0 a1 = some r) : M_z31_PutType a0 a1 r := G_z31_PutType.1 _ _ e _ _ rfl
theorem P_z31_full {a0 : AStore} {a1 : Int} {r : (AStore × Int × Int)} (e : z31_full a0 a1 = some r) : Pure Try.prog 25 [(AStore.D a0), (.int .i64 a1)] (.tuple [(AStore.D r.1), (.int .i64 r.2.1), (.int .i64 r.2.2)]) := by
 unfold z31_full at e
 refine pure_of_awp (js := []) T_ok Try.func25 rfl (by decide +kernel) rfl ?_; conv => whnf
 refine ⟨⟨fun h1 => ?_, fun h1 => ?_⟩⟩
 ·replace e := ifp (by first | exact h1 | omega | simpa [XN.Ds_all, YN.Ds_all, AStore.D, XN.D, YN.D, listAll] using h1) e; conv => whnf
  obtain rfl := sm e
  repeat' first | exact rfl | exact trivial | refine ⟨?_, ?_⟩
 ·replace e := ifn (by first | exact h1 | omega | simpa [XN.Ds_all, YN.Ds_all, AStore.D, XN.D, YN.D, listAll] using h1) e; conv => whnf
  refine ⟨⟨fun h2 => ?_, fun h2 => ?_⟩⟩
  ·replace e := ifp (by first | exact h2 | omega | simpa [XN.Ds_all, YN.Ds_all, AStore.D, XN.D, YN.D, listAll] using h2) e; conv => whnf
   obtain rfl := sm e
   repeat' first | exact rfl | exact trivial | refine ⟨?_, ?_⟩
  ·replace e := ifn (by first | exact h2 | omega | simpa [XN.Ds_all, YN.Ds_all, AStore.D, XN.D, YN.D, listAll] using h2) e; conv => whnf
   obtain rfl := sm e
   repeat' first | exact rfl | exact trivial | refine ⟨?_, ?_⟩
theorem P_z31_AddType_j0 {t7_0 : Int} {a0 : AStore} {a1 : Ty} {r : (AStore × Int × Int)} (e : z31_AddType_j0 t7_0 a0 a1 = some r) : JoinAt T Try.prog Try.f9 Fx0 [4] [1, 1, 1, 0, 0] (EP T Try.f9 (.tuple [(AStore.D r.1), (.int .i64 r.2.1), (.int .i64 r.2.2)])) [(2, .ptr 0 0 0), (3, .ptr 0 1 0), (4, .ptr 0 2 0), (7, .d (.int .i64 t7_0))] [[.cells [.d (.slice 3 (YN.Ds a0.types)), .d (.slice 5 (XN.Ds a0.terms))], .cells [.d (.bool a1.v), .d (.str a1.name), .d (.slice 3 (Ty.Ds a1.args))], .cells [.nil 3, .nil 5]]] := by
 unfold z31_AddType_j0 at e
 refine Runs.enter T_ok ?_; conv => whnf
 refine ⟨⟨fun h8 => ?_, fun h8 => ?_⟩⟩
 ·replace e := ifp h8 e; conv => whnf
  obtain rfl := sm e
  repeat' first | exact rfl | exact trivial | refine ⟨?_, ?_⟩
 ·replace e := ifn h8 e; conv => whnf
  obtain ⟨v9, qv9, e⟩ := bnd e
  refine said_pure (P_z31_PutType qv9) rfl ?_; conv => whnf
  obtain ⟨v10, qv10, e⟩ := bnd e
  refine said_pure (P_z31_full qv10) rfl ?_; conv => whnf
  obtain rfl := sm e
  repeat' first | exact rfl | exact trivial | refine ⟨?_, ?_⟩
theorem P_z31_AddType {a0 : AStore} {a1 : Ty} {r : (AStore × Int × Int)} (e : z31_AddType a0 a1 = some r) : Pure Try.prog 9 [(AStore.D a0), (Ty.D a1)] (.tuple [(AStore.D r.1), (.int .i64 r.2.1), (.int .i64 r.2.2)]) := by
 unfold z31_AddType at e
 refine pure_of_awp (js := [4]) T_ok Try.func9 rfl (by decide +kernel) rfl ?_; conv => whnf
 obtain ⟨v1, qv1, e⟩ := bnd e
 refine said_pure (P_z31_Check qv1) rfl ?_; conv => whnf
 refine ⟨⟨fun h2 => ?_, fun h2 => ?_⟩⟩
 ·replace e := ifp h2 e; conv => whnf
  obtain ⟨v3, qv3, e⟩ := bnd e
  refine said_pure (P_z01_Check qv3) rfl ?_; conv => whnf
  refine Runs.weak (P_z31_AddType_j0 e) ?_
  repeat' first | exact wk.of_eq rfl | exact wk.pure rfl | exact wk.un _ | exact wk.hold _ _ _ | exact wk.holdG _ _ _ | exact rfl | exact trivial | refine ⟨?_, ?_⟩
 ·replace e := ifn h2 e; conv => whnf
  refine Runs.weak (P_z31_AddType_j0 e) ?_
  repeat' first | exact wk.of_eq rfl | exact wk.pure rfl | exact wk.un _ | exact wk.hold _ _ _ | exact wk.holdG _ _ _ | exact rfl | exact trivial | refine ⟨?_, ?_⟩
def M_z02_Size (a0 : Tm) (r : Int) : Prop := Pure Try.prog 17 [(Tm.D a0)] (.int .i64 r)
def M_z02_Size_l0 (rest0 : (List Tm)) (t3_0 : Int) (r : Int) : Prop := ∀ (a0 : Tm) (k0 : Nat) (hd0 : rest0 = a0.sub.drop k0), LoopAt T Try.prog Try.f17 Fx0 [] [1, 1, 0, 1, 0] (EP T Try.f17 (.int .i64 r)) [(1, .ptr 0 0 0), (3, .d (.int .i64 t3_0)), (4, .d (.int .i64 (k0 : Int)))] [[.cells [.d (.int .u8 a0.kind), .d (.str a0.name), .d (.bool a0.ty.v), .d (.str a0.ty.name), .d (.slice 3 (Ty.Ds a0.ty.args)), .d (.int .i64 a0.index), .d (.slice 7 (Tm.Ds a0.sub))]]]
theorem G_z02_Size : (∀ p r, z02_Size' p = some r → ∀ a0, a0 = p → M_z02_Size a0 r) ∧
  (∀ p r, z02_Size_l0' p = some r → ∀ rest0 t3_0, (rest0, t3_0) = p → M_z02_Size_l0 rest0 t3_0 r) := by
 refine z02_Size'.mutual_partial_correctness (fun (p : Tm) (r : Int) => ∀ (a0 : Tm), a0 = p → M_z02_Size a0 r) (fun (p : ((List Tm) × Int)) (r : Int) => ∀ (rest0 : (List Tm)) (t3_0 : Int), (rest0, t3_0) = p → M_z02_Size_l0 rest0 t3_0 r) ?_ ?_
 ·intro f_z02_Size_l0 ih_z02_Size_l0 p r e a0 hp
  subst hp
  refine pure_of_awp (js := []) T_ok Try.func17 rfl (by decide +kernel) rfl ?_; conv => whnf
  refine RunsL.runs (RunsL.weak ((ih_z02_Size_l0 _ _ e _ _ rfl) a0 0 (by simp)) ?_)
  repeat' first | exact wk.of_eq rfl | exact wk.pure rfl | exact wk.un _ | exact wk.hold _ _ _ | exact wk.holdG _ _ _ | exact rfl | exact trivial | refine ⟨?_, ?_⟩
 ·intro f_z02_Size f_z02_Size_l0 ih_z02_Size ih_z02_Size_l0 p r e rest0 t3_0 hp
  subst hp
  intro a0 k0 hd0
  refine RunsL.len_cell 0 6 rfl rfl rfl fun hlenk0 => ?_
  refine RunsL.of_awp (js := []) T_ok ?_; conv => whnf
  have hls := Tm.Ds_len a0.sub
  cases rest0 with
  | nil =>
   have hk := drop_nil hd0
   refine ⟨⟨fun h => absurd h (by omega), fun _ => ?_⟩⟩; conv => whnf
   obtain rfl := sm e
   repeat' first | exact rfl | exact trivial | refine ⟨?_, ?_⟩
  | cons v5 rest0 =>
   obtain ⟨hxv5, hd0, hltv5⟩ := drop_head hd0
   refine ⟨⟨fun _ => ?_, fun h => absurd (by omega) h⟩⟩; conv => whnf
   refine ⟨k0, _, rfl, Tm.Ds_get hxv5, ?_⟩; conv => whnf
   refine ⟨Tm.Ds_fit _ rfl rfl, ?_⟩; conv => whnf
   obtain ⟨v6, qv6, e⟩ := bnd e
   refine said_pure (ih_z02_Size _ _ qv6 _ rfl) rfl ?_; conv => whnf
   obtain ⟨v7, qv7, e⟩ := bnd e
   refine ⟨v7, sm qv7, ?_⟩; conv => whnf
   refine ⟨((k0 + 1 : Nat) : Int), wrap64e (by omega) (by omega) (by omega), ?_⟩; conv => whnf
   refine (RunsL.weak ((ih_z02_Size_l0 _ _ e _ _ rfl) a0 (k0 + 1) hd0) ?_)
   repeat' first | exact wk.of_eq rfl | exact wk.pure rfl | exact wk.un _ | exact wk.hold _ _ _ | exact wk.holdG _ _ _ | exact rfl | exact trivial | refine ⟨?_, ?_⟩
theorem P_z02_Size {a0 : Tm} {r : Int} (e : z02_Size a0 = some r) : M_z02_Size a0 r := G_z02_Size.1 _ _ e _ rfl
def M_z02_Depth (a0 : Tm) (r : Int) : Prop := Pure Try.prog 45 [(Tm.D a0)] (.int .i64 r)
def M_z02_Depth_l0 (rest0 : (List Tm)) (t3_0 : Int) (r : Int) : Prop := ∀ (a0 : Tm) (k0 : Nat) (hd0 : rest0 = a0.sub.drop k0), LoopAt T Try.prog Try.f45 Fx0 [] [1, 1, 0, 1, 0] (EP T Try.f45 (.int .i64 r)) [(1, .ptr 0 0 0), (3, .d (.int .i64 t3_0)), (4, .d (.int .i64 (k0 : Int)))] [[.cells [.d (.int .u8 a0.kind), .d (.str a0.name), .d (.bool a0.ty.v), .d (.str a0.ty.name), .d (.slice 3 (Ty.Ds a0.ty.args)), .d (.int .i64 a0.index), .d (.slice 7 (Tm.Ds a0.sub))]]]
theorem G_z02_Depth : (∀ p r, z02_Depth' p = some r → ∀ a0, a0 = p → M_z02_Depth a0 r) ∧
  (∀ p r, z02_Depth_l0' p = some r → ∀ rest0 t3_0, (rest0, t3_0) = p → M_z02_Depth_l0 rest0 t3_0 r) := by
 refine z02_Depth'.mutual_partial_correctness (fun (p : Tm) (r : Int) => ∀ (a0 : Tm), a0 = p → M_z02_Depth a0 r) (fun (p : ((List Tm) × Int)) (r : Int) => ∀ (rest0 : (List Tm)) (t3_0 : Int), (rest0, t3_0) = p → M_z02_Depth_l0 rest0 t3_0 r) ?_ ?_
 ·intro f_z02_Depth_l0 ih_z02_Depth_l0 p r e a0 hp
  subst hp
  refine pure_of_awp (js := []) T_ok Try.func45 rfl (by decide +kernel) rfl ?_; conv => whnf
  refine RunsL.runs (RunsL.weak ((ih_z02_Depth_l0 _ _ e _ _ rfl) a0 0 (by simp)) ?_)
  repeat' first | exact wk.of_eq rfl | exact wk.pure rfl | exact wk.un _ | exact wk.hold _ _ _ | exact wk.holdG _ _ _ | exact rfl | exact trivial | refine ⟨?_, ?_⟩
 ·intro f_z02_Depth f_z02_Depth_l0 ih_z02_Depth ih_z02_Depth_l0 p r e rest0 t3_0 hp
  subst hp
  intro a0 k0 hd0
  refine RunsL.len_cell 0 6 rfl rfl rfl fun hlenk0 => ?_
  refine RunsL.of_awp (js := []) T_ok ?_; conv => whnf
  have hls := Tm.Ds_len a0.sub
  cases rest0 with
  | nil =>
   have hk := drop_nil hd0
   refine ⟨⟨fun h => absurd h (by omega), fun _ => ?_⟩⟩; conv => whnf
   obtain ⟨v6, qv6, e⟩ := bnd e
   refine ⟨v6, sm qv6, ?_⟩; conv => whnf
   obtain rfl := sm e
   repeat' first | exact rfl | exact trivial | refine ⟨?_, ?_⟩
  | cons v5 rest0 =>
   obtain ⟨hxv5, hd0, hltv5⟩ := drop_head hd0
   refine ⟨⟨fun _ => ?_, fun h => absurd (by omega) h⟩⟩; conv => whnf
   refine ⟨k0, _, rfl, Tm.Ds_get hxv5, ?_⟩; conv => whnf
   refine ⟨Tm.Ds_fit _ rfl rfl, ?_⟩; conv => whnf
   obtain ⟨v6, qv6, e⟩ := bnd e
   refine said_pure (ih_z02_Depth _ _ qv6 _ rfl) rfl ?_; conv => whnf
   refine ⟨((k0 + 1 : Nat) : Int), wrap64e (by omega) (by omega) (by omega), ?_⟩; conv => whnf
   refine (RunsL.weak ((ih_z02_Depth_l0 _ _ e _ _ rfl) a0 (k0 + 1) hd0) ?_)
   repeat' first | exact wk.of_eq rfl | exact wk.pure rfl | exact wk.un _ | exact wk.hold _ _ _ | exact wk.holdG _ _ _ | exact rfl | exact trivial | refine ⟨?_, ?_⟩
theorem P_z02_Depth {a0 : Tm} {r : Int} (e : z02_Depth a0 = some r) : M_z02_Depth a0 r := G_z02_Depth.1 _ _ e _ rfl
end Go.Proofs.Ytemfpemejagndaa.Fw


set_option maxHeartbeats 4000000
namespace Go.Proofs.Ytemfpemejagndaa.Fw
open Go Go.Proofs Go.RowKit
theorem P_z02_Small {a0 : Tm} {r : Bool} (e : z02_Small a0 = some r) : Pure Try.prog 33 [(Tm.D a0)] (.bool r) := by
 unfold z02_Small at e
 refine pure_of_awp (js := []) T_ok Try.func33 rfl (by decide +kernel) rfl ?_; conv => whnf
 obtain ⟨v1, qv1, e⟩ := bnd e
 refine said_pure (P_z02_Size qv1) rfl ?_; conv => whnf
 refine ⟨⟨fun h2 => ?_, fun h2 => ?_⟩⟩
 ·replace e := ifp h2 e; conv => whnf
  obtain ⟨v3, qv3, e⟩ := bnd e
  refine said_pure (P_z02_Depth qv3) rfl ?_; conv => whnf
  refine test.dec ?_; conv => whnf
  obtain rfl := sm e
  repeat' first | exact rfl | exact trivial | refine ⟨?_, ?_⟩
 ·replace e := ifn h2 e; conv => whnf
  obtain rfl := sm e
  repeat' first | exact rfl | exact trivial | refine ⟨?_, ?_⟩
theorem P_z02_none {a0 : Ty} {r : Bool} (e : z02_none a0 = some r) : Pure Try.prog 60 [(Ty.D a0)] (.bool r) := by
 unfold z02_none at e
 refine pure_of_awp (js := []) T_ok Try.func60 rfl (by decide +kernel) rfl ?_; conv => whnf
 refine brK.nsplit (fun hb1 => ?_) (fun hb1 => ?_)
 ·replace e := ifpb hb1 e; conv => whnf
  refine brK.ntt hb1 ?_; conv => whnf
  refine brK.ntt hb1 ?_; conv => whnf
  refine brK.ntt hb1 ?_; conv => whnf
  obtain rfl := sm e
  repeat' first | exact rfl | exact trivial | refine ⟨?_, ?_⟩
 ·replace e := ifnb hb1 e; conv => whnf
  refine brK.nff hb1 ?_; conv => whnf
  refine brK.nff hb1 ?_; conv => whnf
  refine ⟨⟨fun h2 => ?_, fun h2 => ?_⟩⟩
  ·replace e := ifp h2 e; conv => whnf
   refine brK.nff hb1 ?_; conv => whnf
   refine test.dec ?_; conv => whnf
   obtain rfl := sm e
   repeat' first | exact rfl | exact trivial | refine ⟨?_, ?_⟩
  ·replace e := ifn h2 e; conv => whnf
   refine brK.nff hb1 ?_; conv => whnf
   obtain rfl := sm e
   repeat' first | exact rfl | exact trivial | refine ⟨?_, ?_⟩
def M_z01_Compare (a0 : Ty) (a1 : Ty) (r : Int) : Prop := Pure Try.prog 75 [(Ty.D a0), (Ty.D a1)] (.int .i64 r)
def M_z01_Compare_l0 (rest0 : (List Ty)) (k0 : Nat) (a1 : Ty) (r : Int) : Prop := ∀ (a0 : Ty) (hd0 : rest0 = a0.args.drop k0), LoopAt T Try.prog Try.f75 Fx0 [] [1, 1, 1, 1, 0, 1, 0] (EP T Try.f75 (.int .i64 r)) [(2, .ptr 0 0 0), (3, .ptr 0 1 0), (5, .d (.int .i64 (k0 : Int)))] [[.cells [.d (.bool a0.v), .d (.str a0.name), .d (.slice 3 (Ty.Ds a0.args))], .cells [.d (.bool a1.v), .d (.str a1.name), .d (.slice 3 (Ty.Ds a1.args))]]]
theorem G_z01_Compare : (∀ p r, z01_Compare' p = some r → ∀ a0 a1, (a0, a1) = p → M_z01_Compare a0 a1 r) ∧
  (∀ p r, z01_Compare_l0' p = some r → ∀ rest0 k0 a1, (rest0, k0, a1) = p → M_z01_Compare_l0 rest0 k0 a1 r) := by
 refine z01_Compare'.mutual_partial_correctness (fun (p : (Ty × Ty)) (r : Int) => ∀ (a0 : Ty) (a1 : Ty), (a0, a1) = p → M_z01_Compare a0 a1 r) (fun (p : ((List Ty) × Nat × Ty)) (r : Int) => ∀ (rest0 : (List Ty)) (k0 : Nat) (a1 : Ty), (rest0, k0, a1) = p → M_z01_Compare_l0 rest0 k0 a1 r) ?_ ?_
 ·intro f_z01_Compare_l0 ih_z01_Compare_l0 p r e a0 a1 hp
  subst hp
  refine pure_of_awp (js := []) T_ok Try.func75 rfl (by decide +kernel) rfl ?_; conv => whnf
  refine ⟨⟨fun h1 => ?_, fun h1 => ?_⟩⟩
  ·replace e := ifp h1 e; conv => whnf
   refine brK.split (fun hb2 => ?_) (fun hb2 => ?_)
   ·replace e := ifpb hb2 e; conv => whnf
    obtain rfl := sm e
    repeat' first | exact rfl | exact trivial | refine ⟨?_, ?_⟩
   ·replace e := ifnb hb2 e; conv => whnf
    obtain rfl := sm e
    repeat' first | exact rfl | exact trivial | refine ⟨?_, ?_⟩
  ·replace e := ifn h1 e; conv => whnf
   refine ⟨⟨fun h2 => ?_, fun h2 => ?_⟩⟩
   ·replace e := ifp h2 e; conv => whnf
    refine ⟨⟨fun h3 => ?_, fun h3 => ?_⟩⟩
    ·replace e := ifp h3 e; conv => whnf
     obtain rfl := sm e
     repeat' first | exact rfl | exact trivial | refine ⟨?_, ?_⟩
    ·replace e := ifn h3 e; conv => whnf
     obtain rfl := sm e
     repeat' first | exact rfl | exact trivial | refine ⟨?_, ?_⟩
   ·replace e := ifn h2 e; conv => whnf
    refine ⟨⟨fun h3 => ?_, fun h3 => ?_⟩⟩
    ·replace e := ifp (by first | exact h3 | omega | simpa [Ty.Ds_all, Ty.D, listAll] using h3) e; conv => whnf
     refine ⟨⟨fun h4 => ?_, fun h4 => ?_⟩⟩
     ·replace e := ifp (by first | exact h4 | omega | simpa [Ty.Ds_all, Ty.D, listAll] using h4) e; conv => whnf
      obtain rfl := sm e
      repeat' first | exact rfl | exact trivial | refine ⟨?_, ?_⟩
     ·replace e := ifn (by first | exact h4 | omega | simpa [Ty.Ds_all, Ty.D, listAll] using h4) e; conv => whnf
      obtain rfl := sm e
      repeat' first | exact rfl | exact trivial | refine ⟨?_, ?_⟩
    ·replace e := ifn (by first | exact h3 | omega | simpa [Ty.Ds_all, Ty.D, listAll] using h3) e; conv => whnf
     refine RunsL.runs (RunsL.weak ((ih_z01_Compare_l0 _ _ e _ _ _ rfl) a0 (by simp)) ?_)
     repeat' first | exact wk.of_eq rfl | exact wk.pure rfl | exact wk.un _ | exact wk.hold _ _ _ | exact wk.holdG _ _ _ | exact rfl | exact trivial | refine ⟨?_, ?_⟩
 ·intro f_z01_Compare f_z01_Compare_l0 ih_z01_Compare ih_z01_Compare_l0 p r e rest0 k0 a1 hp
  subst hp
  intro a0 hd0
  refine RunsL.len_cell 0 2 rfl rfl rfl fun hlenk0 => ?_
  refine RunsL.of_awp (js := []) T_ok ?_; conv => whnf
  have hls := Ty.Ds_len a0.args
  cases rest0 with
  | nil =>
   have hk := drop_nil hd0
   refine ⟨⟨fun h => absurd h (by omega), fun _ => ?_⟩⟩; conv => whnf
   obtain rfl := sm e
   repeat' first | exact rfl | exact trivial | refine ⟨?_, ?_⟩
  | cons v6 rest0 =>
   obtain ⟨hxv6, hd0, hltv6⟩ := drop_head hd0
   refine ⟨⟨fun _ => ?_, fun h => absurd (by omega) h⟩⟩; conv => whnf
   refine draw_rule [] T_ok mixed z01_Compare_pl16 (by decide +kernel) ?_; conv => whnf
   refine ⟨k0, _, rfl, Ty.Ds_get hxv6, ?_⟩; conv => whnf
   refine ⟨Ty.Ds_fit _ rfl rfl, ?_⟩; conv => whnf
   obtain ⟨v7, qv7, e⟩ := bnd e
   obtain ⟨qv7k, qv7a, qv7b⟩ := geti_some qv7
   refine ⟨qv7k, _, qv7a, Ty.Ds_get qv7b, ?_⟩; conv => whnf
   refine ⟨Ty.Ds_fit _ rfl rfl, ?_⟩; conv => whnf
   obtain ⟨v8, qv8, e⟩ := bnd e
   refine said_pure (ih_z01_Compare _ _ qv8 _ _ rfl) rfl ⟨Keeps.refl _ _, ?_⟩; conv => whnf
   refine ⟨⟨fun h9 => ?_, fun h9 => ?_⟩⟩
   ·replace e := ifp h9 e; conv => whnf
    obtain rfl := sm e
    repeat' first | exact rfl | exact trivial | refine ⟨?_, ?_⟩
   ·replace e := ifn h9 e; conv => whnf
    refine ⟨((k0 + 1 : Nat) : Int), wrap64e (by omega) (by omega) (by omega), ?_⟩; conv => whnf
    refine (RunsL.weak ((ih_z01_Compare_l0 _ _ e _ _ _ rfl) a0 hd0) ?_)
    repeat' first | exact wk.of_eq rfl | exact wk.pure rfl | exact wk.un _ | exact wk.hold _ _ _ | exact wk.holdG _ _ _ | exact rfl | exact trivial | refine ⟨?_, ?_⟩
theorem P_z01_Compare {a0 : Ty} {a1 : Ty} {r : Int} (e : z01_Compare a0 a1 = some r) : M_z01_Compare a0 a1 r := G_z01_Compare.1 _ _ e _ _ rfl
theorem P_z01_Same {a0 : Ty} {a1 : Ty} {r : Bool} (e : z01_Same a0 a1 = some r) : Pure Try.prog 61 [(Ty.D a0), (Ty.D a1)] (.bool r) := by
 unfold z01_Same at e
 refine pure_of_awp (js := []) T_ok Try.func61 rfl (by decide +kernel) rfl ?_; conv => whnf
 obtain ⟨v1, qv1, e⟩ := bnd e
 refine said_pure (P_z01_Compare qv1) rfl ?_; conv => whnf
 refine test.dec ?_; conv => whnf
 obtain rfl := sm e
 repeat' first | exact rfl | exact trivial | refine ⟨?_, ?_⟩
def M_z01_Twin (a0 : Ty) (r : Ty) : Prop := Pure Try.prog 76 [(Ty.D a0)] (Ty.D r)
def M_z01_Twin_l0 (rest0 : (List Ty)) (c2_2_0 : (List Ty)) (a0 : Ty) (r : Ty) : Prop := ∀ (k0 : Nat) (hd0 : rest0 = a0.args.drop k0), LoopAt T Try.prog Try.f76 Fx0 [] [1, 1, 0, 1, 0] (EP T Try.f76 (Ty.D r)) [(1, .ptr 0 0 0), (2, .ptr 0 1 0), (3, .ptr 0 2 0), (4, .d (.int .i64 (k0 : Int)))] [[.cells [.d (.bool a0.v), .d (.str a0.name), .d (.slice 3 (Ty.Ds a0.args))], .cells [.d (.bool false), .d (.str ByteArray.empty), .nil 3], .cells [.d (.bool a0.v), .d (.str a0.name), .own 0 3 3 (Ty.Ds c2_2_0)], .grow 3 (Ty.Ds c2_2_0).length]]
theorem G_z01_Twin : (∀ p r, z01_Twin' p = some r → ∀ a0, a0 = p → M_z01_Twin a0 r) ∧
  (∀ p r, z01_Twin_l0' p = some r → ∀ rest0 c2_2_0 a0, (rest0, c2_2_0, a0) = p → M_z01_Twin_l0 rest0 c2_2_0 a0 r) := by
 refine z01_Twin'.mutual_partial_correctness (fun (p : Ty) (r : Ty) => ∀ (a0 : Ty), a0 = p → M_z01_Twin a0 r) (fun (p : ((List Ty) × (List Ty) × Ty)) (r : Ty) => ∀ (rest0 : (List Ty)) (c2_2_0 : (List Ty)) (a0 : Ty), (rest0, c2_2_0, a0) = p → M_z01_Twin_l0 rest0 c2_2_0 a0 r) ?_ ?_
 ·intro f_z01_Twin_l0 ih_z01_Twin_l0 p r e a0 hp
  subst hp
  refine pure_of_awp (js := []) T_ok Try.func76 rfl (by decide +kernel) rfl ?_; conv => whnf
  refine Runs.hold 3 ?_
  refine RunsL.runs (RunsL.weak ((ih_z01_Twin_l0 _ _ e _ _ _ rfl) 0 (by simp)) ?_)
  repeat' first | exact wk.of_eq rfl | exact wk.pure rfl | exact wk.un _ | exact wk.hold _ _ _ | exact wk.holdG _ _ _ | exact rfl | exact trivial | refine ⟨?_, ?_⟩ | (refine wk.of_eq ?_; (conv => lhs; whnf); (simp [Ty.Ds_all, Ty.D, listAll] <;> (repeat' first | rfl | apply And.intro)); done) | (refine wk.pure ?_; (conv => lhs; whnf); (simp [Ty.Ds_all, Ty.D, listAll] <;> (repeat' first | rfl | apply And.intro)); done) | ((simp [Ty.Ds_all, Ty.D, listAll] <;> (repeat' first | rfl | apply And.intro)); done) | (simp [Ty.Ds_all, Ty.D, listAll]; omega)
 ·intro f_z01_Twin f_z01_Twin_l0 ih_z01_Twin ih_z01_Twin_l0 p r e rest0 c2_2_0 a0 hp
  subst hp
  intro k0 hd0
  refine RunsL.len_cell 0 2 rfl rfl rfl fun hlenk0 => ?_
  refine RunsL.of_awp (js := []) T_ok ?_; conv => whnf
  have hls := Ty.Ds_len a0.args
  cases rest0 with
  | nil =>
   have hk := drop_nil hd0
   refine ⟨⟨fun h => absurd h (by omega), fun _ => ?_⟩⟩; conv => whnf
   obtain rfl := sm e
   repeat' first | exact rfl | exact trivial | refine ⟨_, rfl, ?_, ?_⟩ | refine ⟨?_, ?_⟩ | (simp [Ty.Ds_all, Ty.D, listAll] <;> (repeat' first | rfl | apply And.intro))
  | cons v6 rest0 =>
   obtain ⟨hxv6, hd0, hltv6⟩ := drop_head hd0
   refine ⟨⟨fun _ => ?_, fun h => absurd (by omega) h⟩⟩; conv => whnf
   refine draw_rule [] T_ok mixed z01_Twin_pl5 (by decide +kernel) ?_; conv => whnf
   refine ⟨k0, _, rfl, Ty.Ds_get hxv6, ?_⟩; conv => whnf
   refine ⟨Ty.Ds_fit _ rfl rfl, ?_⟩; conv => whnf
   obtain ⟨v7, qv7, e⟩ := bnd e
   refine said_pure (ih_z01_Twin _ _ qv7 _ rfl) rfl ⟨Keeps.refl _ _, ?_⟩; conv => whnf
   refine ⟨⟨⟨rfl, rfl⟩, trivial⟩, ?_⟩; conv => whnf
   obtain ⟨v8, qv8, e⟩ := bnd e
   obtain ⟨qv8l, qv8e⟩ := app_some qv8
   refine ⟨(by first | exact qv8l | simpa [Ty.Ds_all, Ty.D, listAll] using qv8l), rfl, (by first | rfl | simp [Ty.Ds_all, Ty.D, listAll]), ?_⟩; conv => whnf
   refine ⟨((k0 + 1 : Nat) : Int), wrap64e (by omega) (by omega) (by omega), ?_⟩; conv => whnf
   refine (RunsL.weak ((ih_z01_Twin_l0 _ _ e _ _ _ rfl) (k0 + 1) hd0) ?_)
   repeat' first | exact wk.of_eq rfl | exact wk.pure rfl | exact wk.un _ | exact wk.hold _ _ _ | exact wk.holdG _ _ _ | exact rfl | exact trivial | refine ⟨?_, ?_⟩ | (refine wk.of_eq ?_; (conv => lhs; whnf); (simp [Ty.Ds_all, Ty.D, listAll, qv8e] <;> (repeat' first | rfl | apply And.intro)); done) | (refine wk.pure ?_; (conv => lhs; whnf); (simp [Ty.Ds_all, Ty.D, listAll, qv8e] <;> (repeat' first | rfl | apply And.intro)); done) | ((simp [Ty.Ds_all, Ty.D, listAll, qv8e] <;> (repeat' first | rfl | apply And.intro)); done) | (simp [Ty.Ds_all, Ty.D, listAll, qv8e]; omega)
theorem P_z01_Twin {a0 : Ty} {r : Ty} (e : z01_Twin a0 = some r) : M_z01_Twin a0 r := G_z01_Twin.1 _ _ e _ rfl
theorem P_z01_Fun {a0 : Ty} {a1 : Ty} {r : Ty} (e : z01_Fun a0 a1 = some r) : Pure Try.prog 62 [(Ty.D a0), (Ty.D a1)] (Ty.D r) := by
 unfold z01_Fun at e
 refine pure_of_awp (js := []) T_ok Try.func62 rfl (by decide +kernel) rfl ?_; conv => whnf
 refine draw_rule [] T_ok mixed z01_Fun_pl1 (by decide +kernel) ?_; conv => whnf
 obtain ⟨v1, qv1, e⟩ := bnd e
 refine said_pure (P_z01_Twin qv1) rfl ⟨Keeps.refl _ _, ?_⟩; conv => whnf
 obtain ⟨v2, qv2, e⟩ := bnd e
 refine said_pure (P_z01_Twin qv2) rfl ⟨Keeps.refl _ _, ?_⟩; conv => whnf
 refine ⟨⟨⟨rfl, rfl⟩, ⟨⟨rfl, rfl⟩, trivial⟩⟩, ?_⟩; conv => whnf
 obtain rfl := sm e
 repeat' first | exact rfl | exact trivial | refine ⟨_, rfl, ?_, ?_⟩ | refine ⟨?_, ?_⟩ | (simp [Ty.Ds_all, Ty.D, listAll] <;> (repeat' first | rfl | apply And.intro))
theorem P_z02_Formed_j0 {a0 : Tm} {v14 : (Ty × Bool)} {r : (Ty × Bool)} (e : z02_Formed_j0 a0 v14 = some r) : (∀ (v13 : (List Ty)), JoinAt T Try.prog Try.f44 Fx0 [21] [1, 0, 1, 0, 1, 1, 1, 1, 1, 1, 1, 0, 1, 1, 0] (EP T Try.f44 (.tuple [(Ty.D r.1), (.bool r.2)])) [(2, .ptr 0 0 0), (4, .ptr 0 1 0), (10, .ptr 0 3 0), (11, .d (.bool v14.2))] [[.cells [.d (.int .u8 a0.kind), .d (.str a0.name), .d (.bool a0.ty.v), .d (.str a0.ty.name), .d (.slice 3 (Ty.Ds a0.ty.args)), .d (.int .i64 a0.index), .d (.slice 7 (Tm.Ds a0.sub))], .cells [.d (.bool false), .d (.str ByteArray.empty), .nil 3], .grow 3 (Ty.Ds v13).length, .cells [.d (.bool v14.1.v), .d (.str v14.1.name), .d (.slice 3 (Ty.Ds v14.1.args))]]]) ∧ (JoinAt T Try.prog Try.f44 Fx0 [21] [1, 0, 1, 0, 1, 1, 1, 1, 1, 1, 1, 0, 1, 1, 0] (EP T Try.f44 (.tuple [(Ty.D r.1), (.bool r.2)])) [(2, .ptr 0 0 0), (4, .ptr 0 1 0), (10, .ptr 0 2 0), (11, .d (.bool v14.2))] [[.cells [.d (.int .u8 a0.kind), .d (.str a0.name), .d (.bool a0.ty.v), .d (.str a0.ty.name), .d (.slice 3 (Ty.Ds a0.ty.args)), .d (.int .i64 a0.index), .d (.slice 7 (Tm.Ds a0.sub))], .cells [.d (.bool false), .d (.str ByteArray.empty), .nil 3], .cells [.d (.bool v14.1.v), .d (.str v14.1.name), .d (.slice 3 (Ty.Ds v14.1.args))]]]) := by
 unfold z02_Formed_j0 at e
 refine ⟨?_, ?_⟩
 ·intro v13
  refine Runs.enter T_ok ?_; conv => whnf
  obtain ⟨v15, qv15, e⟩ := bnd e
  refine said_pure (P_z01_Fun qv15) rfl ?_; conv => whnf
  refine draw_rule [] T_ok mixed z02_Formed_pl22 (by decide +kernel) ?_; conv => whnf
  refine brK.split (fun hb16 => ?_) (fun hb16 => ?_)
  ·replace e := ifpb hb16 e; conv => whnf
   refine brK.tt hb16 ?_; conv => whnf
   obtain ⟨v17, qv17, e⟩ := bnd e
   refine said_pure (P_z01_Valid qv17) rfl ⟨Keeps.refl _ _, ?_⟩; conv => whnf
   refine brK.tt hb16 ?_; conv => whnf
   obtain rfl := sm e
   repeat' first | exact rfl | exact trivial | refine ⟨?_, ?_⟩
  ·replace e := ifnb hb16 e; conv => whnf
   refine brK.ff hb16 ?_; conv => whnf
   refine brK.ff hb16 ?_; conv => whnf
   obtain rfl := sm e
   repeat' first | exact rfl | exact trivial | refine ⟨?_, ?_⟩
 ·refine Runs.enter T_ok ?_; conv => whnf
  obtain ⟨v15, qv15, e⟩ := bnd e
  refine said_pure (P_z01_Fun qv15) rfl ?_; conv => whnf
  refine draw_rule [] T_ok mixed z02_Formed_pl22 (by decide +kernel) ?_; conv => whnf
  refine brK.split (fun hb16 => ?_) (fun hb16 => ?_)
  ·replace e := ifpb hb16 e; conv => whnf
   refine brK.tt hb16 ?_; conv => whnf
   obtain ⟨v17, qv17, e⟩ := bnd e
   refine said_pure (P_z01_Valid qv17) rfl ⟨Keeps.refl _ _, ?_⟩; conv => whnf
   refine brK.tt hb16 ?_; conv => whnf
   obtain rfl := sm e
   repeat' first | exact rfl | exact trivial | refine ⟨?_, ?_⟩
  ·replace e := ifnb hb16 e; conv => whnf
   refine brK.ff hb16 ?_; conv => whnf
   refine brK.ff hb16 ?_; conv => whnf
   obtain rfl := sm e
   repeat' first | exact rfl | exact trivial | refine ⟨?_, ?_⟩
end Go.Proofs.Ytemfpemejagndaa.Fw

