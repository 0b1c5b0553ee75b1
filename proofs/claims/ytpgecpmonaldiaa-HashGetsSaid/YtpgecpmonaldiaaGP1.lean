/- The code computes the functions. -/
import Derived.Test.YtpgecpmonaldiaaGP0
set_option autoImplicit false
set_option linter.unusedVariables false
set_option linter.unusedSimpArgs false
set_option maxHeartbeats 4000000
namespace Go.Proofs.Ytpgecpmonaldiaa.Fw
open Go Go.Proofs Go.RowKit
def M_r31_Valid_l0 (rest0 : (List XN)) (k0 : Nat) (a0 : AStore) (r : Bool) : Prop := ∀ (hd0 : rest0 = a0.terms.drop k0), LoopAt T Try.prog Try.f64 Fx0 [] [1, 1, 0, 1, 0] (EP T Try.f64 (.bool r)) [(1, .ptr 0 0 0), (3, .d (.int .i64 (k0 : Int)))] [[.cells [.d (.slice 3 (YN.Ds a0.types)), .d (.slice 5 (XN.Ds a0.terms))]]]
def M_r31_Valid_l1 (t4_1 : Int) (a0 : AStore) (k0 : Nat) (rest0 : (List XN)) (v4 : XN) (r : Bool) : Prop := ∀ (hxv4 : a0.terms[k0]? = some v4) (hd0 : rest0 = a0.terms.drop (k0 + 1)) (hltv4 : k0 < a0.terms.length) (hlenk0 : (XN.Ds a0.terms).length ≤ 9223372036854775807), LoopAt T Try.prog Try.f64 Fx0 [] [1, 1, 0, 1, 0, 0, 1, 0, 0, 1, 1, 0] (EP T Try.f64 (.bool r)) [(1, .ptr 0 0 0), (3, .d (.int .i64 (k0 : Int))), (4, .d (.int .i64 t4_1))] [[.cells [.d (.slice 3 (YN.Ds a0.types)), .d (.slice 5 (XN.Ds a0.terms))]]]
theorem G_r31_Valid_l0 : (∀ p r, r31_Valid_l0' p = some r → ∀ rest0 k0 a0, (rest0, k0, a0) = p → M_r31_Valid_l0 rest0 k0 a0 r) ∧
    (∀ p r, r31_Valid_l1' p = some r → ∀ t4_1 a0 k0 rest0 v4, (t4_1, a0, k0, rest0, v4) = p → M_r31_Valid_l1 t4_1 a0 k0 rest0 v4 r) := by
  refine r31_Valid_l0'.mutual_partial_correctness (fun (p : ((List XN) × Nat × AStore)) (r : Bool) => ∀ (rest0 : (List XN)) (k0 : Nat) (a0 : AStore), (rest0, k0, a0) = p → M_r31_Valid_l0 rest0 k0 a0 r) (fun (p : (Int × AStore × Nat × (List XN) × XN)) (r : Bool) => ∀ (t4_1 : Int) (a0 : AStore) (k0 : Nat) (rest0 : (List XN)) (v4 : XN), (t4_1, a0, k0, rest0, v4) = p → M_r31_Valid_l1 t4_1 a0 k0 rest0 v4 r) ?_ ?_
  · intro f_r31_Valid_l1 ih_r31_Valid_l1 p r e rest0 k0 a0 hp
    subst hp
    intro hd0
    refine RunsL.len_cell 0 1 rfl rfl rfl fun hlenk0 => ?_
    refine RunsL.of_awp (js := []) T_ok ?_; conv => whnf
    have hls := XN.Ds_len a0.terms
    cases rest0 with
    | nil =>
      have hk := drop_nil hd0
      refine ⟨⟨fun h => absurd h (by omega), fun _ => ?_⟩⟩; conv => whnf
      obtain rfl := sm e
      exact rfl
    | cons v4 rest0 =>
      obtain ⟨hxv4, hd0, hltv4⟩ := drop_head hd0
      refine ⟨⟨fun _ => ?_, fun h => absurd (by omega) h⟩⟩; conv => whnf
      refine draw_rule [] T_ok mixed r31_Valid_pl6 (by decide +kernel) ?_; conv => whnf
      refine ⟨k0, _, rfl, XN.Ds_get hxv4, ?_⟩; conv => whnf
      refine ⟨XN.Ds_fit _ rfl rfl, ?_⟩; conv => whnf
      obtain ⟨v5, qv5, e⟩ := bnd e
      first | (refine said_pure (P_r31_fine qv5) rfl ⟨Keeps.refl _ _, ?_⟩) | (refine said_pure2 (P_r31_fine qv5) rfl (by simp [XN.Ds_all, YN.Ds_all, AStore.D, XN.D, YN.D, listAll] <;> (repeat' first | rfl | apply And.intro)) ⟨Keeps.refl _ _, ?_⟩)
      (conv => whnf)
      refine brK.nsplit (fun hb6 => ?_) (fun hb6 => ?_)
      · replace e := ifpb hb6 e; conv => whnf
        refine RunsL.runs (RunsL.weak ((ih_r31_Valid_l1 _ _ e _ _ _ _ _ rfl) hxv4 hd0 hltv4 hlenk0) ?_)
        repeat' first | exact wk.of_eq rfl | exact rfl | exact trivial | refine ⟨?_, ?_⟩
      · replace e := ifnb hb6 e; conv => whnf
        obtain rfl := sm e
        exact rfl
  · intro f_r31_Valid_l0 f_r31_Valid_l1 ih_r31_Valid_l0 ih_r31_Valid_l1 p r e t4_1 a0 k0 rest0 v4 hp
    subst hp
    intro hxv4 hd0 hltv4 hlenk0
    have hlsv4 := XN.Ds_len a0.terms
    refine RunsL.of_awp (js := []) T_ok ?_; conv => whnf
    refine ⟨⟨fun h7 => ?_, fun h7 => ?_⟩⟩
    · replace e := ifp h7 e; conv => whnf
      refine draw_rule [] T_ok mixed r31_Valid_pl11 (by decide +kernel) ?_; conv => whnf
      obtain ⟨v8, qv8, e⟩ := bnd e
      obtain ⟨qv8k, qv8a, qv8b⟩ := geti_some qv8
      refine ⟨qv8k, _, qv8a, XN.Ds_get qv8b, ?_⟩; conv => whnf
      refine ⟨XN.Ds_fit _ rfl rfl, ?_⟩; conv => whnf
      refine ⟨k0, _, rfl, XN.Ds_get hxv4, ?_⟩; conv => whnf
      refine ⟨XN.Ds_fit _ rfl rfl, ?_⟩; conv => whnf
      obtain ⟨v9, qv9, e⟩ := bnd e
      refine said_pure (P_r31_sameTerm qv9) rfl ⟨Keeps.refl _ _, ?_⟩; conv => whnf
      refine brK.split (fun hb10 => ?_) (fun hb10 => ?_)
      · replace e := ifpb hb10 e; conv => whnf
        obtain rfl := sm e
        exact rfl
      · replace e := ifnb hb10 e; conv => whnf
        obtain ⟨v11, qv11, e⟩ := bnd e
        refine ⟨v11, sm qv11, ?_⟩; conv => whnf
        refine (RunsL.weak ((ih_r31_Valid_l1 _ _ e _ _ _ _ _ rfl) hxv4 hd0 hltv4 hlenk0) ?_)
        repeat' first | exact wk.of_eq rfl | exact rfl | exact trivial | refine ⟨?_, ?_⟩
    · replace e := ifn h7 e; conv => whnf
      refine ⟨((k0 + 1 : Nat) : Int), wrap64e (by omega) (by omega) (by omega), ?_⟩; conv => whnf
      refine (RunsL.weak ((ih_r31_Valid_l0 _ _ e _ _ _ rfl) hd0) ?_)
      repeat' first | exact wk.of_eq rfl | exact rfl | exact trivial | refine ⟨?_, ?_⟩
theorem P_r31_Valid_l0 {rest0 : (List XN)} {k0 : Nat} {a0 : AStore} {r : Bool} (e : r31_Valid_l0 rest0 k0 a0 = some r) : M_r31_Valid_l0 rest0 k0 a0 r := G_r31_Valid_l0.1 _ _ e _ _ _ rfl
theorem P_r31_Valid {a0 : AStore} {r : Bool} (e : r31_Valid a0 = some r) : Pure Try.prog 64 [(AStore.D a0)] (.bool r) := by
  unfold r31_Valid at e
  refine pure_of_awp (js := []) T_ok Try.func64 rfl (by decide +kernel) rfl ?_; conv => whnf
  obtain ⟨v1, qv1, e⟩ := bnd e
  refine said_pure (P_r31_typesValid qv1) rfl ?_; conv => whnf
  refine brK.nsplit (fun hb2 => ?_) (fun hb2 => ?_)
  · replace e := ifpb hb2 e; conv => whnf
    refine RunsL.runs (RunsL.weak ((P_r31_Valid_l0 e) (by simp)) ?_)
    repeat' first | exact wk.of_eq rfl | exact rfl | exact trivial | refine ⟨?_, ?_⟩
  · replace e := ifnb hb2 e; conv => whnf
    obtain rfl := sm e
    exact rfl
theorem P_r31_Check {a0 : AStore} {r : Int} (e : r31_Check a0 = some r) : Pure Try.prog 32 [(AStore.D a0)] (.int .i64 r) := by
  unfold r31_Check at e
  refine pure_of_awp (js := []) T_ok Try.func32 rfl (by decide +kernel) rfl ?_; conv => whnf
  refine ⟨⟨fun h1 => ?_, fun h1 => ?_⟩⟩
  · replace e := ifp h1 e; conv => whnf
    obtain rfl := sm e
    exact rfl
  · replace e := ifn h1 e; conv => whnf
    refine ⟨⟨fun h2 => ?_, fun h2 => ?_⟩⟩
    · replace e := ifp h2 e; conv => whnf
      obtain rfl := sm e
      exact rfl
    · replace e := ifn h2 e; conv => whnf
      obtain ⟨v3, qv3, e⟩ := bnd e
      refine said_pure (P_r31_Valid qv3) rfl ?_; conv => whnf
      refine brK.nsplit (fun hb4 => ?_) (fun hb4 => ?_)
      · replace e := ifpb hb4 e; conv => whnf
        obtain rfl := sm e
        exact rfl
      · replace e := ifnb hb4 e; conv => whnf
        obtain rfl := sm e
        exact rfl
theorem P_r31_Size_j1 {a1 : Int} {t7_1 : (List (List Int))} {r : (Int × Int)} (e : r31_Size_j1 a1 t7_1 = some r) : ∀ (a0 : AStore), JoinAt T Try.prog Try.f28 Fx0 [4, 11] [1, 1, 1, 1, 1, 1, 0] (EP T Try.f28 (.tuple [(.int .i64 r.1), (.int .i64 r.2)])) [(1, .d (.int .i64 a1)), (7, .own 0 1 1 (intDs_i64s t7_1))] [[.cells [.d (.slice 3 (YN.Ds a0.types)), .d (.slice 5 (XN.Ds a0.terms))], .grow 1 (intDs_i64s t7_1).length]] := by
  unfold r31_Size_j1 at e
  intro a0
  refine Runs.enter T_ok ?_; conv => whnf
  obtain ⟨v9, qv9, e⟩ := bnd e
  first | (refine said_pure (P_r31_Sized qv9) rfl ?_) | (refine said_pure2 (P_r31_Sized qv9) rfl (by simp [XN.Ds_all, YN.Ds_all, ia, intDs_i64s_all, AStore.D, XN.D, YN.D, listAll] <;> (repeat' first | rfl | apply And.intro)) ?_)
  (conv => whnf)
  obtain ⟨v10, qv10, e⟩ := bnd e
  obtain ⟨qv10k, qv10a, qv10b⟩ := geti_some qv10
  refine ⟨qv10k, _, qv10a, intDs_i64_get qv10b, ?_⟩; conv => whnf
  refine ⟨intDs_i64_fit _ rfl rfl, ?_⟩; conv => whnf
  refine ⟨⟨fun h11 => ?_, fun h11 => ?_⟩⟩
  · replace e := ifp h11 e; conv => whnf
    obtain rfl := sm e
    repeat' first | exact rfl | exact trivial | refine ⟨?_, ?_⟩
  · replace e := ifn h11 e; conv => whnf
    obtain ⟨v12, qv12, e⟩ := bnd e
    obtain ⟨qv12k, qv12a, qv12b⟩ := geti_some qv12
    refine ⟨qv12k, _, qv12a, intDs_i64_get qv12b, ?_⟩; conv => whnf
    refine ⟨intDs_i64_fit _ rfl rfl, ?_⟩; conv => whnf
    refine ⟨⟨fun h13 => ?_, fun h13 => ?_⟩⟩
    · replace e := ifp h13 e; conv => whnf
      obtain rfl := sm e
      repeat' first | exact rfl | exact trivial | refine ⟨?_, ?_⟩
    · replace e := ifn h13 e; conv => whnf
      obtain ⟨v14, qv14, e⟩ := bnd e
      obtain ⟨qv14k, qv14a, qv14b⟩ := geti_some qv14
      refine ⟨qv14k, _, qv14a, intDs_i64_get qv14b, ?_⟩; conv => whnf
      refine ⟨intDs_i64_fit _ rfl rfl, ?_⟩; conv => whnf
      obtain rfl := sm e
      repeat' first | exact rfl | exact trivial | refine ⟨?_, ?_⟩
def M_r31_Size_l0 (rest1 : (List XN)) (t7_1 : (List (List Int))) (a1 : Int) (r : (Int × Int)) : Prop := ∀ (a0 : AStore) (k1 : Nat) (hd1 : rest1 = a0.terms.drop k1), LoopAt T Try.prog Try.f28 Fx0 [4, 11] [1, 1, 1, 1, 1, 0, 1, 0] (EP T Try.f28 (.tuple [(.int .i64 r.1), (.int .i64 r.2)])) [(1, .d (.int .i64 a1)), (2, .ptr 0 0 0), (7, .own 0 1 1 (intDs_i64s t7_1)), (8, .d (.int .i64 (k1 : Int)))] [[.cells [.d (.slice 3 (YN.Ds a0.types)), .d (.slice 5 (XN.Ds a0.terms))], .grow 1 (intDs_i64s t7_1).length]]
theorem G_r31_Size_l0 : (∀ p r, r31_Size_l0' p = some r → ∀ rest1 t7_1 a1, (rest1, t7_1, a1) = p → M_r31_Size_l0 rest1 t7_1 a1 r) := by
  refine r31_Size_l0'.partial_correctness (fun (p : ((List XN) × (List (List Int)) × Int)) (r : (Int × Int)) => ∀ (rest1 : (List XN)) (t7_1 : (List (List Int))) (a1 : Int), (rest1, t7_1, a1) = p → M_r31_Size_l0 rest1 t7_1 a1 r) ?_
  · intro f_r31_Size_l0 ih_r31_Size_l0 p r e rest1 t7_1 a1 hp
    subst hp
    intro a0 k1 hd1
    refine RunsL.len_cell 0 1 rfl rfl rfl fun hlenk1 => ?_
    refine RunsL.of_awp (js := [4, 11]) T_ok ?_; conv => whnf
    have hls := XN.Ds_len a0.terms
    cases rest1 with
    | nil =>
      have hk := drop_nil hd1
      refine ⟨⟨fun h => absurd h (by omega), fun _ => ?_⟩⟩; conv => whnf
      refine Runs.weak ((P_r31_Size_j1 e) a0) ?_
      repeat' first | exact wk.of_eq rfl | exact rfl | exact trivial | refine ⟨?_, ?_⟩
    | cons v11 rest1 =>
      obtain ⟨hxv11, hd1, hltv11⟩ := drop_head hd1
      refine ⟨⟨fun _ => ?_, fun h => absurd (by omega) h⟩⟩; conv => whnf
      refine ⟨k1, _, rfl, XN.Ds_get hxv11, ?_⟩; conv => whnf
      refine ⟨⟨⟨rfl, rfl⟩, trivial⟩, ?_⟩; conv => whnf
      obtain ⟨v12, qv12, e⟩ := bnd e
      obtain ⟨qv12l, qv12e⟩ := app_some qv12
      refine ⟨(by simpa [XN.Ds_all, YN.Ds_all, ia, intDs_i64s_all, AStore.D, XN.D, YN.D, listAll] using qv12l), rfl, (by rfl), ?_⟩; conv => whnf
      refine ⟨((k1 + 1 : Nat) : Int), wrap64e (by omega) (by omega) (by omega), ?_⟩; conv => whnf
      refine (RunsL.weak ((ih_r31_Size_l0 _ _ e _ _ _ rfl) a0 (k1 + 1) hd1) ?_)
      repeat' first | exact wk.of_eq rfl | exact rfl | exact trivial | refine ⟨?_, ?_⟩ | (refine wk.of_eq ?_; (conv => lhs; whnf); (simp [XN.Ds_all, YN.Ds_all, ia, intDs_i64s_all, AStore.D, XN.D, YN.D, listAll, qv12e] <;> (repeat' first | rfl | apply And.intro)); done) | ((simp [XN.Ds_all, YN.Ds_all, ia, intDs_i64s_all, AStore.D, XN.D, YN.D, listAll, qv12e] <;> (repeat' first | rfl | apply And.intro)); done)
theorem P_r31_Size_l0 {rest1 : (List XN)} {t7_1 : (List (List Int))} {a1 : Int} {r : (Int × Int)} (e : r31_Size_l0 rest1 t7_1 a1 = some r) : M_r31_Size_l0 rest1 t7_1 a1 r := G_r31_Size_l0 _ _ e _ _ _ rfl
theorem P_r31_Size_j0 {t6_0 : Int} {a0 : AStore} {a1 : Int} {r : (Int × Int)} (e : r31_Size_j0 t6_0 a0 a1 = some r) : JoinAt T Try.prog Try.f28 Fx0 [4, 11] [1, 1, 1, 0, 0] (EP T Try.f28 (.tuple [(.int .i64 r.1), (.int .i64 r.2)])) [(1, .d (.int .i64 a1)), (2, .ptr 0 0 0), (6, .d (.int .i64 t6_0))] [[.cells [.d (.slice 3 (YN.Ds a0.types)), .d (.slice 5 (XN.Ds a0.terms))]]] := by
  unfold r31_Size_j0 at e
  refine Runs.enter T_ok ?_; conv => whnf
  refine ⟨⟨fun h7 => ?_, fun h7 => ?_⟩⟩
  · replace e := ifp h7 e; conv => whnf
    obtain rfl := sm e
    repeat' first | exact rfl | exact trivial | refine ⟨?_, ?_⟩
  · replace e := ifn h7 e; conv => whnf
    refine Runs.hold 1 ?_
    refine RunsL.runs (RunsL.weak ((P_r31_Size_l0 e) a0 0 (by simp)) ?_)
    repeat' first | exact wk.of_eq rfl | exact wk.hold _ _ _ | exact rfl | exact trivial | refine ⟨?_, ?_⟩
theorem P_r31_Size {a0 : AStore} {a1 : Int} {r : (Int × Int)} (e : r31_Size a0 a1 = some r) : Pure Try.prog 28 [(AStore.D a0), (.int .i64 a1)] (.tuple [(.int .i64 r.1), (.int .i64 r.2)]) := by
  unfold r31_Size at e
  refine pure_of_awp (js := [4, 11]) T_ok Try.func28 rfl (by decide +kernel) rfl ?_; conv => whnf
  obtain ⟨v1, qv1, e⟩ := bnd e
  refine said_pure (P_r31_Check qv1) rfl ?_; conv => whnf
  refine ⟨⟨fun h2 => ?_, fun h2 => ?_⟩⟩
  · replace e := ifp h2 e; conv => whnf
    refine ⟨⟨fun h3 => ?_, fun h3 => ?_⟩⟩
    · replace e := ifp h3 e; conv => whnf
      refine Runs.weak (P_r31_Size_j0 e) ?_
      repeat' first | exact wk.of_eq rfl | exact rfl | exact trivial | refine ⟨?_, ?_⟩
    · replace e := ifn h3 e; conv => whnf
      refine ⟨⟨fun h4 => ?_, fun h4 => ?_⟩⟩
      · replace e := ifp h4 e; conv => whnf
        refine Runs.weak (P_r31_Size_j0 e) ?_
        repeat' first | exact wk.of_eq rfl | exact rfl | exact trivial | refine ⟨?_, ?_⟩
      · replace e := ifn h4 e; conv => whnf
        refine Runs.weak (P_r31_Size_j0 e) ?_
        repeat' first | exact wk.of_eq rfl | exact rfl | exact trivial | refine ⟨?_, ?_⟩
  · replace e := ifn h2 e; conv => whnf
    refine Runs.weak (P_r31_Size_j0 e) ?_
    repeat' first | exact wk.of_eq rfl | exact rfl | exact trivial | refine ⟨?_, ?_⟩
theorem P_r31_Huge {a0 : AStore} {a1 : Int} {r : Bool} (e : r31_Huge a0 a1 = some r) : Pure Try.prog 22 [(AStore.D a0), (.int .i64 a1)] (.bool r) := by
  unfold r31_Huge at e
  refine pure_of_awp (js := []) T_ok Try.func22 rfl (by decide +kernel) rfl ?_; conv => whnf
  obtain ⟨v1, qv1, e⟩ := bnd e
  refine said_pure (P_r31_Size qv1) rfl ?_; conv => whnf
  refine ⟨⟨fun h2 => ?_, fun h2 => ?_⟩⟩
  · replace e := ifp h2 e; conv => whnf
    refine test.dec ?_; conv => whnf
    obtain rfl := sm e
    exact rfl
  · replace e := ifn h2 e; conv => whnf
    obtain rfl := sm e
    exact rfl
def M_r31_Twin_l1 (rest1 : (List XN)) (c2_1_1 : (List XN)) (c2_0_0 : (List YN)) (r : AStore) : Prop := ∀ (a0 : AStore) (k1 : Nat) (hd1 : rest1 = a0.terms.drop k1), LoopAt T Try.prog Try.f14 Fx0 [8] [1, 1, 1, 0, 1, 0] (EP T Try.f14 (AStore.D r)) [(1, .ptr 0 0 0), (2, .ptr 0 1 0), (3, .ptr 0 2 0), (6, .d (.int .i64 (k1 : Int)))] [[.cells [.d (.slice 3 (YN.Ds a0.types)), .d (.slice 5 (XN.Ds a0.terms))], .cells [.nil 3, .nil 5], .cells [.own 0 3 3 (YN.Ds c2_0_0), .own 0 4 5 (XN.Ds c2_1_1)], .grow 3 (YN.Ds c2_0_0).length, .grow 5 (XN.Ds c2_1_1).length]]
theorem G_r31_Twin_l1 : (∀ p r, r31_Twin_l1' p = some r → ∀ rest1 c2_1_1 c2_0_0, (rest1, c2_1_1, c2_0_0) = p → M_r31_Twin_l1 rest1 c2_1_1 c2_0_0 r) := by
  refine r31_Twin_l1'.partial_correctness (fun (p : ((List XN) × (List XN) × (List YN))) (r : AStore) => ∀ (rest1 : (List XN)) (c2_1_1 : (List XN)) (c2_0_0 : (List YN)), (rest1, c2_1_1, c2_0_0) = p → M_r31_Twin_l1 rest1 c2_1_1 c2_0_0 r) ?_
  · intro f_r31_Twin_l1 ih_r31_Twin_l1 p r e rest1 c2_1_1 c2_0_0 hp
    subst hp
    intro a0 k1 hd1
    refine RunsL.len_cell 0 1 rfl rfl rfl fun hlenk1 => ?_
    refine RunsL.of_awp (js := [8]) T_ok ?_; conv => whnf
    have hls := XN.Ds_len a0.terms
    cases rest1 with
    | nil =>
      have hk := drop_nil hd1
      refine ⟨⟨fun h => absurd h (by omega), fun _ => ?_⟩⟩; conv => whnf
      obtain rfl := sm e
      repeat' first | exact rfl | exact trivial | refine ⟨?_, ?_⟩
    | cons v7 rest1 =>
      obtain ⟨hxv7, hd1, hltv7⟩ := drop_head hd1
      refine ⟨⟨fun _ => ?_, fun h => absurd (by omega) h⟩⟩; conv => whnf
      refine ⟨k1, _, rfl, XN.Ds_get hxv7, ?_⟩; conv => whnf
      refine ⟨XN.Ds_fit _ rfl rfl, ?_⟩; conv => whnf
      refine ⟨trivial, ?_⟩; conv => whnf
      obtain ⟨v8, qv8, e⟩ := bnd e
      obtain ⟨qv8l, qv8e⟩ := app_some qv8
      refine ⟨(by simpa [XN.Ds_all, YN.Ds_all, ia, AStore.D, XN.D, YN.D, listAll] using qv8l), rfl, fun hz => ?_, fun hz => ?_⟩
      · have hyv8 : v7.sub = [] := by simpa [intDs_i64_map, List.map_eq_nil_iff, XN.Ds_all, YN.Ds_all, ia, AStore.D, XN.D, YN.D, listAll] using hz
        have hzv8 : v8 = ([] : List Int) := by rw [qv8e, hyv8]; simp
        (conv => whnf)
        refine ⟨⟨⟨rfl, rfl⟩, trivial⟩, ?_⟩; conv => whnf
        obtain ⟨v9, qv9, e⟩ := bnd e
        obtain ⟨qv9l, qv9e⟩ := app_some qv9
        refine ⟨(by simpa [XN.Ds_all, YN.Ds_all, ia, AStore.D, XN.D, YN.D, listAll] using qv9l), rfl, (by rfl), ?_⟩; conv => whnf
        refine ⟨((k1 + 1 : Nat) : Int), wrap64e (by omega) (by omega) (by omega), ?_⟩; conv => whnf
        refine (RunsL.weak ((ih_r31_Twin_l1 _ _ e _ _ _ rfl) a0 (k1 + 1) hd1) ?_)
        repeat' first | exact wk.of_eq rfl | exact rfl | exact trivial | refine ⟨?_, ?_⟩ | (refine wk.of_eq ?_; (conv => lhs; whnf); (simp [XN.Ds_all, YN.Ds_all, ia, AStore.D, XN.D, YN.D, listAll, hzv8, qv9e] <;> (repeat' first | rfl | apply And.intro)); done) | ((simp [XN.Ds_all, YN.Ds_all, ia, AStore.D, XN.D, YN.D, listAll, hzv8, qv9e] <;> (repeat' first | rfl | apply And.intro)); done)
      · (conv => whnf)
        refine ⟨⟨⟨rfl, rfl⟩, trivial⟩, ?_⟩; conv => whnf
        obtain ⟨v9, qv9, e⟩ := bnd e
        obtain ⟨qv9l, qv9e⟩ := app_some qv9
        refine ⟨(by simpa [XN.Ds_all, YN.Ds_all, ia, AStore.D, XN.D, YN.D, listAll] using qv9l), rfl, (by rfl), ?_⟩; conv => whnf
        refine ⟨((k1 + 1 : Nat) : Int), wrap64e (by omega) (by omega) (by omega), ?_⟩; conv => whnf
        refine (RunsL.weak ((ih_r31_Twin_l1 _ _ e _ _ _ rfl) a0 (k1 + 1) hd1) ?_)
        repeat' first | exact wk.of_eq rfl | exact rfl | exact trivial | refine ⟨?_, ?_⟩ | (refine wk.of_eq ?_; (conv => lhs; whnf); (simp [XN.Ds_all, YN.Ds_all, ia, AStore.D, XN.D, YN.D, listAll, qv8e, qv9e] <;> (repeat' first | rfl | apply And.intro)); done) | ((simp [XN.Ds_all, YN.Ds_all, ia, AStore.D, XN.D, YN.D, listAll, qv8e, qv9e] <;> (repeat' first | rfl | apply And.intro)); done)
theorem P_r31_Twin_l1 {rest1 : (List XN)} {c2_1_1 : (List XN)} {c2_0_0 : (List YN)} {r : AStore} (e : r31_Twin_l1 rest1 c2_1_1 c2_0_0 = some r) : M_r31_Twin_l1 rest1 c2_1_1 c2_0_0 r := G_r31_Twin_l1 _ _ e _ _ _ rfl
theorem P_r31_Twin_j0 {a0 : AStore} {c2_0_0 : (List YN)} {r : AStore} (e : r31_Twin_j0 a0 c2_0_0 = some r) : JoinAt T Try.prog Try.f14 Fx0 [8] [1, 1, 1, 0, 0] (EP T Try.f14 (AStore.D r)) [(1, .ptr 0 0 0), (2, .ptr 0 1 0), (3, .ptr 0 2 0)] [[.cells [.d (.slice 3 (YN.Ds a0.types)), .d (.slice 5 (XN.Ds a0.terms))], .cells [.nil 3, .nil 5], .cells [.own 0 3 3 (YN.Ds c2_0_0), .nil 5], .grow 3 (YN.Ds c2_0_0).length]] := by
  unfold r31_Twin_j0 at e
  refine Runs.enter T_ok ?_; conv => whnf
  refine Runs.hold 5 ?_
  refine RunsL.runs (RunsL.weak ((P_r31_Twin_l1 e) a0 0 (by simp)) ?_)
  repeat' first | exact wk.of_eq rfl | exact wk.hold _ _ _ | exact rfl | exact trivial | refine ⟨?_, ?_⟩
def M_r31_Twin_l0 (rest0 : (List YN)) (c2_0_0 : (List YN)) (a0 : AStore) (r : AStore) : Prop := ∀ (k0 : Nat) (hd0 : rest0 = a0.types.drop k0), LoopAt T Try.prog Try.f14 Fx0 [8] [1, 1, 0, 1, 0] (EP T Try.f14 (AStore.D r)) [(1, .ptr 0 0 0), (2, .ptr 0 1 0), (3, .ptr 0 2 0), (4, .d (.int .i64 (k0 : Int)))] [[.cells [.d (.slice 3 (YN.Ds a0.types)), .d (.slice 5 (XN.Ds a0.terms))], .cells [.nil 3, .nil 5], .cells [.own 0 3 3 (YN.Ds c2_0_0), .nil 5], .grow 3 (YN.Ds c2_0_0).length]]
theorem G_r31_Twin_l0 : (∀ p r, r31_Twin_l0' p = some r → ∀ rest0 c2_0_0 a0, (rest0, c2_0_0, a0) = p → M_r31_Twin_l0 rest0 c2_0_0 a0 r) := by
  refine r31_Twin_l0'.partial_correctness (fun (p : ((List YN) × (List YN) × AStore)) (r : AStore) => ∀ (rest0 : (List YN)) (c2_0_0 : (List YN)) (a0 : AStore), (rest0, c2_0_0, a0) = p → M_r31_Twin_l0 rest0 c2_0_0 a0 r) ?_
  · intro f_r31_Twin_l0 ih_r31_Twin_l0 p r e rest0 c2_0_0 a0 hp
    subst hp
    intro k0 hd0
    refine RunsL.len_cell 0 0 rfl rfl rfl fun hlenk0 => ?_
    refine RunsL.of_awp (js := [8]) T_ok ?_; conv => whnf
    have hls := YN.Ds_len a0.types
    cases rest0 with
    | nil =>
      have hk := drop_nil hd0
      refine ⟨⟨fun h => absurd h (by omega), fun _ => ?_⟩⟩; conv => whnf
      refine Runs.weak (P_r31_Twin_j0 e) ?_
      repeat' first | exact wk.of_eq rfl | exact rfl | exact trivial | refine ⟨?_, ?_⟩
    | cons v6 rest0 =>
      obtain ⟨hxv6, hd0, hltv6⟩ := drop_head hd0
      refine ⟨⟨fun _ => ?_, fun h => absurd (by omega) h⟩⟩; conv => whnf
      refine ⟨k0, _, rfl, YN.Ds_get hxv6, ?_⟩; conv => whnf
      refine ⟨YN.Ds_fit _ rfl rfl, ?_⟩; conv => whnf
      refine ⟨trivial, ?_⟩; conv => whnf
      obtain ⟨v7, qv7, e⟩ := bnd e
      obtain ⟨qv7l, qv7e⟩ := app_some qv7
      refine ⟨(by simpa [XN.Ds_all, YN.Ds_all, ia, AStore.D, XN.D, YN.D, listAll] using qv7l), rfl, fun hz => ?_, fun hz => ?_⟩
      · have hyv7 : v6.args = [] := by simpa [intDs_i64_map, List.map_eq_nil_iff, XN.Ds_all, YN.Ds_all, ia, AStore.D, XN.D, YN.D, listAll] using hz
        have hzv7 : v7 = ([] : List Int) := by rw [qv7e, hyv7]; simp
        (conv => whnf)
        refine ⟨⟨⟨rfl, rfl⟩, trivial⟩, ?_⟩; conv => whnf
        obtain ⟨v8, qv8, e⟩ := bnd e
        obtain ⟨qv8l, qv8e⟩ := app_some qv8
        refine ⟨(by simpa [XN.Ds_all, YN.Ds_all, ia, AStore.D, XN.D, YN.D, listAll] using qv8l), rfl, (by rfl), ?_⟩; conv => whnf
        refine ⟨((k0 + 1 : Nat) : Int), wrap64e (by omega) (by omega) (by omega), ?_⟩; conv => whnf
        refine (RunsL.weak ((ih_r31_Twin_l0 _ _ e _ _ _ rfl) (k0 + 1) hd0) ?_)
        repeat' first | exact wk.of_eq rfl | exact rfl | exact trivial | refine ⟨?_, ?_⟩ | (refine wk.of_eq ?_; (conv => lhs; whnf); (simp [XN.Ds_all, YN.Ds_all, ia, AStore.D, XN.D, YN.D, listAll, hzv7, qv8e] <;> (repeat' first | rfl | apply And.intro)); done) | ((simp [XN.Ds_all, YN.Ds_all, ia, AStore.D, XN.D, YN.D, listAll, hzv7, qv8e] <;> (repeat' first | rfl | apply And.intro)); done)
      · (conv => whnf)
        refine ⟨⟨⟨rfl, rfl⟩, trivial⟩, ?_⟩; conv => whnf
        obtain ⟨v8, qv8, e⟩ := bnd e
        obtain ⟨qv8l, qv8e⟩ := app_some qv8
        refine ⟨(by simpa [XN.Ds_all, YN.Ds_all, ia, AStore.D, XN.D, YN.D, listAll] using qv8l), rfl, (by rfl), ?_⟩; conv => whnf
        refine ⟨((k0 + 1 : Nat) : Int), wrap64e (by omega) (by omega) (by omega), ?_⟩; conv => whnf
        refine (RunsL.weak ((ih_r31_Twin_l0 _ _ e _ _ _ rfl) (k0 + 1) hd0) ?_)
        repeat' first | exact wk.of_eq rfl | exact rfl | exact trivial | refine ⟨?_, ?_⟩ | (refine wk.of_eq ?_; (conv => lhs; whnf); (simp [XN.Ds_all, YN.Ds_all, ia, AStore.D, XN.D, YN.D, listAll, qv7e, qv8e] <;> (repeat' first | rfl | apply And.intro)); done) | ((simp [XN.Ds_all, YN.Ds_all, ia, AStore.D, XN.D, YN.D, listAll, qv7e, qv8e] <;> (repeat' first | rfl | apply And.intro)); done)
theorem P_r31_Twin_l0 {rest0 : (List YN)} {c2_0_0 : (List YN)} {a0 : AStore} {r : AStore} (e : r31_Twin_l0 rest0 c2_0_0 a0 = some r) : M_r31_Twin_l0 rest0 c2_0_0 a0 r := G_r31_Twin_l0 _ _ e _ _ _ rfl
theorem P_r31_Twin {a0 : AStore} {r : AStore} (e : r31_Twin a0 = some r) : Pure Try.prog 14 [(AStore.D a0)] (AStore.D r) := by
  unfold r31_Twin at e
  refine pure_of_awp (js := [8]) T_ok Try.func14 rfl (by decide +kernel) rfl ?_; conv => whnf
  refine Runs.hold 3 ?_
  refine RunsL.runs (RunsL.weak ((P_r31_Twin_l0 e) 0 (by simp)) ?_)
  repeat' first | exact wk.of_eq rfl | exact wk.hold _ _ _ | exact rfl | exact trivial | refine ⟨?_, ?_⟩
theorem P_slices_Clone_int_int {a0 : (List Int)} {r : (List Int)} (e : slices_Clone_int_int a0 = some r) : Pure Try.prog 66 [(.slice 1 (intDs_i64 a0))] (.slice 1 (intDs_i64 r)) := by
  unfold slices_Clone_int_int at e
  refine pure_of_awp (js := []) T_ok Try.func66 rfl (by decide +kernel) rfl ?_; conv => whnf
  refine ⟨fun h1 => ?_, ?_⟩
  · replace e := agree_a (by simpa [intDs_i64_map, List.map_eq_nil_iff] using h1) e; conv => whnf
    obtain rfl := sm e
    exact rfl
  · replace e := agree_b e; conv => whnf
    refine ⟨trivial, ?_⟩; conv => whnf
    obtain ⟨v4, qv4, e⟩ := bnd e
    obtain ⟨qv4l, qv4e⟩ := app_some qv4
    refine ⟨(by simpa [ia, listAll] using qv4l), rfl, fun hz => ?_, fun hz => ?_⟩
    · have hyv4 : a0 = [] := by simpa [intDs_i64_map, List.map_eq_nil_iff, ia, listAll] using hz
      have hzv4 : v4 = ([] : List Int) := by rw [qv4e, hyv4]; simp
      (conv => whnf)
      obtain rfl := sm e
      repeat' first | (simp [ia, listAll, hzv4] <;> (repeat' first | rfl | apply And.intro))
    · (conv => whnf)
      obtain rfl := sm e
      repeat' first | (simp [ia, listAll, qv4e] <;> (repeat' first | rfl | apply And.intro))
def M_hash_Twin_io_l1 (rest1 : (List XN)) (c2_1_1 : (List XN)) (c2_0_0 : (List YN)) (r : ((List YN) × (List XN))) : Prop := ∀ (a0 : AStore) (k1 : Nat) (hd1 : rest1 = a0.terms.drop k1), LoopAt T Try.prog Try.f35 ⟨[], 0⟩ [8] [1, 1, 1, 0, 1, 0] (ES T Try.f35 0 (.agg [.own 0 0 3 (YN.Ds r.1), .own 0 1 5 (XN.Ds r.2)]) ([.grow 3 (YN.Ds r.1).length, .grow 5 (XN.Ds r.2).length])) [(2, .ptr 0 1 0), (3, .ptr 0 2 0), (27, .d (.slice 5 (XN.Ds a0.terms))), (28, .d (.int .i64 ((XN.Ds a0.terms).length : Int))), (29, .d (.int .i64 (k1 : Int)))] [[.cells [.d (.slice 3 (YN.Ds a0.types)), .d (.slice 5 (XN.Ds a0.terms))], .cells [.nil 3, .nil 5], .cells [.own 0 3 3 (YN.Ds c2_0_0), .own 0 4 5 (XN.Ds c2_1_1)], .grow 3 (YN.Ds c2_0_0).length, .grow 5 (XN.Ds c2_1_1).length]]
theorem G_hash_Twin_io_l1 : (∀ p r, hash_Twin_io_l1' p = some r → ∀ rest1 c2_1_1 c2_0_0, (rest1, c2_1_1, c2_0_0) = p → M_hash_Twin_io_l1 rest1 c2_1_1 c2_0_0 r) := by
  refine hash_Twin_io_l1'.partial_correctness (fun (p : ((List XN) × (List XN) × (List YN))) (r : ((List YN) × (List XN))) => ∀ (rest1 : (List XN)) (c2_1_1 : (List XN)) (c2_0_0 : (List YN)), (rest1, c2_1_1, c2_0_0) = p → M_hash_Twin_io_l1 rest1 c2_1_1 c2_0_0 r) ?_
  · intro f_hash_Twin_io_l1 ih_hash_Twin_io_l1 p r e rest1 c2_1_1 c2_0_0 hp
    subst hp
    intro a0 k1 hd1
    refine RunsL.len_tmp 27 rfl fun hlenk1 => ?_
    refine RunsL.of_awp (js := [8]) T_ok ?_; conv => whnf
    have hls := XN.Ds_len a0.terms
    cases rest1 with
    | nil =>
      have hk := drop_nil hd1
      refine ⟨⟨fun h => absurd h (by omega), fun _ => ?_⟩⟩; conv => whnf
      obtain rfl := sm e
      refine ⟨[3, 4], ⟨rfl, rfl, rfl⟩, ?_, ⟨⟨_, rfl, ?_⟩, ⟨_, rfl, ?_⟩, trivial⟩⟩
      repeat' first | exact rfl | exact trivial | refine ⟨?_, ?_⟩
    | cons v30 rest1 =>
      obtain ⟨hxv30, hd1, hltv30⟩ := drop_head hd1
      refine ⟨⟨fun _ => ?_, fun h => absurd (by omega) h⟩⟩; conv => whnf
      refine ⟨k1, _, rfl, XN.Ds_get hxv30, ?_⟩; conv => whnf
      refine ⟨XN.Ds_fit _ rfl rfl, ?_⟩; conv => whnf
      obtain ⟨v31, qv31, e⟩ := bnd e
      refine said_pure (P_slices_Clone_int_int qv31) rfl ?_; conv => whnf
      refine ⟨⟨⟨rfl, rfl⟩, trivial⟩, ?_⟩; conv => whnf
      obtain ⟨v32, qv32, e⟩ := bnd e
      obtain ⟨qv32l, qv32e⟩ := app_some qv32
      refine ⟨(by simpa [XN.Ds_all, YN.Ds_all, ia, AStore.D, XN.D, YN.D, listAll] using qv32l), rfl, (by rfl), ?_⟩; conv => whnf
      refine ⟨((k1 + 1 : Nat) : Int), wrap64e (by omega) (by omega) (by omega), ?_⟩; conv => whnf
      refine (RunsL.weak ((ih_hash_Twin_io_l1 _ _ e _ _ _ rfl) a0 (k1 + 1) hd1) ?_)
      repeat' first | exact wk.of_eq rfl | exact rfl | exact trivial | refine ⟨?_, ?_⟩ | (refine wk.of_eq ?_; (conv => lhs; whnf); (simp [XN.Ds_all, YN.Ds_all, ia, AStore.D, XN.D, YN.D, listAll, qv32e] <;> (repeat' first | rfl | apply And.intro)); done) | ((simp [XN.Ds_all, YN.Ds_all, ia, AStore.D, XN.D, YN.D, listAll, qv32e] <;> (repeat' first | rfl | apply And.intro)); done)
theorem P_hash_Twin_io_l1 {rest1 : (List XN)} {c2_1_1 : (List XN)} {c2_0_0 : (List YN)} {r : ((List YN) × (List XN))} (e : hash_Twin_io_l1 rest1 c2_1_1 c2_0_0 = some r) : M_hash_Twin_io_l1 rest1 c2_1_1 c2_0_0 r := G_hash_Twin_io_l1 _ _ e _ _ _ rfl
theorem P_hash_Twin_io_j0 {a0 : AStore} {c2_0_0 : (List YN)} {r : ((List YN) × (List XN))} (e : hash_Twin_io_j0 a0 c2_0_0 = some r) : JoinAt T Try.prog Try.f35 ⟨[], 0⟩ [8] [1, 1, 1, 0, 0] (ES T Try.f35 0 (.agg [.own 0 0 3 (YN.Ds r.1), .own 0 1 5 (XN.Ds r.2)]) ([.grow 3 (YN.Ds r.1).length, .grow 5 (XN.Ds r.2).length])) [(1, .ptr 0 0 0), (2, .ptr 0 1 0), (3, .ptr 0 2 0)] [[.cells [.d (.slice 3 (YN.Ds a0.types)), .d (.slice 5 (XN.Ds a0.terms))], .cells [.nil 3, .nil 5], .cells [.own 0 3 3 (YN.Ds c2_0_0), .nil 5], .grow 3 (YN.Ds c2_0_0).length]] := by
  unfold hash_Twin_io_j0 at e
  refine Runs.enter T_ok ?_; conv => whnf
  refine Runs.hold 5 ?_
  refine RunsL.runs (RunsL.weak ((P_hash_Twin_io_l1 e) a0 0 (by simp)) ?_)
  repeat' first | exact wk.of_eq rfl | exact wk.hold _ _ _ | exact rfl | exact trivial | refine ⟨?_, ?_⟩
def M_hash_Twin_io_l0 (rest0 : (List YN)) (c2_0_0 : (List YN)) (a0 : AStore) (r : ((List YN) × (List XN))) : Prop := ∀ (k0 : Nat) (hd0 : rest0 = a0.types.drop k0), LoopAt T Try.prog Try.f35 ⟨[], 0⟩ [8] [1, 1, 0, 1, 0] (ES T Try.f35 0 (.agg [.own 0 0 3 (YN.Ds r.1), .own 0 1 5 (XN.Ds r.2)]) ([.grow 3 (YN.Ds r.1).length, .grow 5 (XN.Ds r.2).length])) [(1, .ptr 0 0 0), (2, .ptr 0 1 0), (3, .ptr 0 2 0), (9, .d (.slice 3 (YN.Ds a0.types))), (10, .d (.int .i64 ((YN.Ds a0.types).length : Int))), (11, .d (.int .i64 (k0 : Int)))] [[.cells [.d (.slice 3 (YN.Ds a0.types)), .d (.slice 5 (XN.Ds a0.terms))], .cells [.nil 3, .nil 5], .cells [.own 0 3 3 (YN.Ds c2_0_0), .nil 5], .grow 3 (YN.Ds c2_0_0).length]]
theorem G_hash_Twin_io_l0 : (∀ p r, hash_Twin_io_l0' p = some r → ∀ rest0 c2_0_0 a0, (rest0, c2_0_0, a0) = p → M_hash_Twin_io_l0 rest0 c2_0_0 a0 r) := by
  refine hash_Twin_io_l0'.partial_correctness (fun (p : ((List YN) × (List YN) × AStore)) (r : ((List YN) × (List XN))) => ∀ (rest0 : (List YN)) (c2_0_0 : (List YN)) (a0 : AStore), (rest0, c2_0_0, a0) = p → M_hash_Twin_io_l0 rest0 c2_0_0 a0 r) ?_
  · intro f_hash_Twin_io_l0 ih_hash_Twin_io_l0 p r e rest0 c2_0_0 a0 hp
    subst hp
    intro k0 hd0
    refine RunsL.len_tmp 9 rfl fun hlenk0 => ?_
    refine RunsL.of_awp (js := [8]) T_ok ?_; conv => whnf
    have hls := YN.Ds_len a0.types
    cases rest0 with
    | nil =>
      have hk := drop_nil hd0
      refine ⟨⟨fun h => absurd h (by omega), fun _ => ?_⟩⟩; conv => whnf
      refine Runs.weak (P_hash_Twin_io_j0 e) ?_
      repeat' first | exact wk.of_eq rfl | exact rfl | exact trivial | refine ⟨?_, ?_⟩
    | cons v12 rest0 =>
      obtain ⟨hxv12, hd0, hltv12⟩ := drop_head hd0
      refine ⟨⟨fun _ => ?_, fun h => absurd (by omega) h⟩⟩; conv => whnf
      refine ⟨k0, _, rfl, YN.Ds_get hxv12, ?_⟩; conv => whnf
      refine ⟨YN.Ds_fit _ rfl rfl, ?_⟩; conv => whnf
      obtain ⟨v13, qv13, e⟩ := bnd e
      refine said_pure (P_slices_Clone_int_int qv13) rfl ?_; conv => whnf
      refine ⟨⟨⟨rfl, rfl⟩, trivial⟩, ?_⟩; conv => whnf
      obtain ⟨v14, qv14, e⟩ := bnd e
      obtain ⟨qv14l, qv14e⟩ := app_some qv14
      refine ⟨(by simpa [XN.Ds_all, YN.Ds_all, ia, AStore.D, XN.D, YN.D, listAll] using qv14l), rfl, (by rfl), ?_⟩; conv => whnf
      refine ⟨((k0 + 1 : Nat) : Int), wrap64e (by omega) (by omega) (by omega), ?_⟩; conv => whnf
      refine (RunsL.weak ((ih_hash_Twin_io_l0 _ _ e _ _ _ rfl) (k0 + 1) hd0) ?_)
      repeat' first | exact wk.of_eq rfl | exact rfl | exact trivial | refine ⟨?_, ?_⟩ | (refine wk.of_eq ?_; (conv => lhs; whnf); (simp [XN.Ds_all, YN.Ds_all, ia, AStore.D, XN.D, YN.D, listAll, qv14e] <;> (repeat' first | rfl | apply And.intro)); done) | ((simp [XN.Ds_all, YN.Ds_all, ia, AStore.D, XN.D, YN.D, listAll, qv14e] <;> (repeat' first | rfl | apply And.intro)); done)
theorem P_hash_Twin_io_l0 {rest0 : (List YN)} {c2_0_0 : (List YN)} {a0 : AStore} {r : ((List YN) × (List XN))} (e : hash_Twin_io_l0 rest0 c2_0_0 a0 = some r) : M_hash_Twin_io_l0 rest0 c2_0_0 a0 r := G_hash_Twin_io_l0 _ _ e _ _ _ rfl
theorem P_hash_Twin_io {a0 : AStore} {r : ((List YN) × (List XN))} (e : hash_Twin_io a0 = some r) : IoR Try.prog 35 [.d (AStore.D a0)] [] (.agg [.own 0 0 3 (YN.Ds r.1), .own 0 1 5 (XN.Ds r.2)]) ([.grow 3 (YN.Ds r.1).length, .grow 5 (XN.Ds r.2).length]) := by
  unfold hash_Twin_io at e
  refine io_of_awp2 (js := [8]) T_ok Try.func35 rfl (by decide +kernel) rfl ?_; conv => whnf
  refine Runs.hold 3 ?_
  refine RunsL.runs (RunsL.weak ((P_hash_Twin_io_l0 e) 0 (by simp)) ?_)
  repeat' first | exact wk.of_eq rfl | exact wk.hold _ _ _ | exact rfl | exact trivial | refine ⟨?_, ?_⟩
def M_types_name_l0 (t7_0 : Int) (a0 : ByteArray) (r : Bool) : Prop := LoopAt T Try.prog Try.f106 Fx0 [] [1, 0, 1, 0] (EP T Try.f106 (.bool r)) [(0, .d (.str a0)), (6, .d (.int .i64 (a0.size : Int))), (7, .d (.int .i64 t7_0))] [[]]
theorem G_types_name_l0 : (∀ p r, types_name_l0' p = some r → ∀ t7_0 a0, (t7_0, a0) = p → M_types_name_l0 t7_0 a0 r) := by
  refine types_name_l0'.partial_correctness (fun (p : (Int × ByteArray)) (r : Bool) => ∀ (t7_0 : Int) (a0 : ByteArray), (t7_0, a0) = p → M_types_name_l0 t7_0 a0 r) ?_
  · intro f_types_name_l0 ih_types_name_l0 p r e t7_0 a0 hp
    subst hp
    refine RunsL.of_awp (js := []) T_ok ?_; conv => whnf
    refine ⟨⟨fun h8 => ?_, fun h8 => ?_⟩⟩
    · replace e := ifp h8 e; conv => whnf
      obtain ⟨v9, qv9, e⟩ := bnd e
      obtain ⟨qv9k, qv9q, qv9a, qv9b, qv9c⟩ := getb_some qv9
      refine ⟨qv9k, qv9q, qv9a, qv9b, ?_⟩; rw [qv9c]; conv => whnf
      refine ⟨⟨fun h10 => ?_, fun h10 => ?_⟩⟩
      · replace e := ifp h10 e; conv => whnf
        obtain rfl := sm e
        exact rfl
      · replace e := ifn h10 e; conv => whnf
        refine ⟨⟨fun h11 => ?_, fun h11 => ?_⟩⟩
        · replace e := ifp h11 e; conv => whnf
          obtain rfl := sm e
          exact rfl
        · replace e := ifn h11 e; conv => whnf
          refine ⟨⟨fun h12 => ?_, fun h12 => ?_⟩⟩
          · replace e := ifp h12 e; conv => whnf
            obtain rfl := sm e
            exact rfl
          · replace e := ifn h12 e; conv => whnf
            refine ⟨⟨fun h13 => ?_, fun h13 => ?_⟩⟩
            · replace e := ifp h13 e; conv => whnf
              obtain rfl := sm e
              exact rfl
            · replace e := ifn h13 e; conv => whnf
              refine ⟨⟨fun h14 => ?_, fun h14 => ?_⟩⟩
              · replace e := ifp h14 e; conv => whnf
                obtain rfl := sm e
                exact rfl
              · replace e := ifn h14 e; conv => whnf
                refine ⟨⟨fun h15 => ?_, fun h15 => ?_⟩⟩
                · replace e := ifp h15 e; conv => whnf
                  obtain rfl := sm e
                  exact rfl
                · replace e := ifn h15 e; conv => whnf
                  refine ⟨⟨fun h16 => ?_, fun h16 => ?_⟩⟩
                  · replace e := ifp h16 e; conv => whnf
                    obtain rfl := sm e
                    exact rfl
                  · replace e := ifn h16 e; conv => whnf
                    refine ⟨⟨fun h17 => ?_, fun h17 => ?_⟩⟩
                    · replace e := ifp h17 e; conv => whnf
                      obtain rfl := sm e
                      exact rfl
                    · replace e := ifn h17 e; conv => whnf
                      refine ⟨⟨fun h18 => ?_, fun h18 => ?_⟩⟩
                      · replace e := ifp h18 e; conv => whnf
                        obtain rfl := sm e
                        exact rfl
                      · replace e := ifn h18 e; conv => whnf
                        obtain ⟨v19, qv19, e⟩ := bnd e
                        refine ⟨v19, sm qv19, ?_⟩; conv => whnf
                        refine (RunsL.weak (ih_types_name_l0 _ _ e _ _ rfl) ?_)
                        repeat' first | exact wk.of_eq rfl | exact rfl | exact trivial | refine ⟨?_, ?_⟩
    · replace e := ifn h8 e; conv => whnf
      refine ⟨⟨fun h9 => ?_, fun h9 => ?_⟩⟩
      · replace e := ifp h9 e; conv => whnf
        refine test.dec ?_; conv => whnf
        obtain rfl := sm e
        exact rfl
      · replace e := ifn h9 e; conv => whnf
        obtain rfl := sm e
        exact rfl
theorem P_types_name_l0 {t7_0 : Int} {a0 : ByteArray} {r : Bool} (e : types_name_l0 t7_0 a0 = some r) : M_types_name_l0 t7_0 a0 r := G_types_name_l0 _ _ e _ _ rfl
theorem P_types_name {a0 : ByteArray} {r : Bool} (e : types_name a0 = some r) : Pure Try.prog 106 [(.str a0)] (.bool r) := by
  unfold types_name at e
  refine pure_of_awp (js := []) T_ok Try.func106 rfl (by decide +kernel) rfl ?_; conv => whnf
  refine RunsL.runs (RunsL.weak (P_types_name_l0 e) ?_)
  repeat' first | exact wk.of_eq rfl | exact rfl | exact trivial | refine ⟨?_, ?_⟩
theorem P_types_variable {a0 : ByteArray} {r : Bool} (e : types_variable a0 = some r) : Pure Try.prog 105 [(.str a0)] (.bool r) := by
  unfold types_variable at e
  refine pure_of_awp (js := []) T_ok Try.func105 rfl (by decide +kernel) rfl ?_; conv => whnf
  obtain ⟨v1, qv1, e⟩ := bnd e
  refine said_pure (P_types_name qv1) rfl ?_; conv => whnf
  refine brK.split (fun hb2 => ?_) (fun hb2 => ?_)
  · replace e := ifpb hb2 e; conv => whnf
    refine brK.tt hb2 ?_; conv => whnf
    obtain ⟨v3, qv3, e⟩ := bnd e
    obtain ⟨qv3k, qv3q, qv3a, qv3b, qv3c⟩ := getb_some qv3
    refine ⟨qv3k, qv3q, qv3a, qv3b, ?_⟩; rw [qv3c]; conv => whnf
    refine brK.tt hb2 ?_; conv => whnf
    refine test.dec ?_; conv => whnf
    refine brK.tt hb2 ?_; conv => whnf
    obtain rfl := sm e
    exact rfl
  · replace e := ifnb hb2 e; conv => whnf
    refine brK.ff hb2 ?_; conv => whnf
    refine brK.ff hb2 ?_; conv => whnf
    refine brK.ff hb2 ?_; conv => whnf
    obtain rfl := sm e
    exact rfl
def M_types_measure (a0 : Ty) (r : (Int × Int × Bool)) : Prop := Pure Try.prog 85 [(Ty.D a0)] (.tuple [(.int .i64 r.1), (.int .i64 r.2.1), (.bool r.2.2)])
def M_types_measure_j0 (t4_1 : Bool) (a0 : Ty) (r : (Int × Int × Bool)) : Prop := JoinAt T Try.prog Try.f85 Fx0 [5] [1, 1, 1, 0, 0] (EP T Try.f85 (.tuple [(.int .i64 r.1), (.int .i64 r.2.1), (.bool r.2.2)])) [(1, .ptr 0 0 0), (2, .d (.int .i64 1)), (3, .d (.int .i64 0)), (4, .d (.bool t4_1))] [[.cells [.d (.bool a0.v), .d (.str a0.name), .d (.slice 3 (Ty.Ds a0.args))]]]
def M_types_measure_l0 (rest0 : (List Ty)) (t2_0 : Int) (t3_0 : Int) (t4_0 : Bool) (r : (Int × Int × Bool)) : Prop := ∀ (a0 : Ty) (k0 : Nat) (hd0 : rest0 = a0.args.drop k0), LoopAt T Try.prog Try.f85 Fx0 [5] [1, 1, 1, 0, 1, 0] (EP T Try.f85 (.tuple [(.int .i64 r.1), (.int .i64 r.2.1), (.bool r.2.2)])) [(2, .d (.int .i64 t2_0)), (3, .d (.int .i64 t3_0)), (4, .d (.bool t4_0)), (37, .d (.slice 3 (Ty.Ds a0.args))), (38, .d (.int .i64 ((Ty.Ds a0.args).length : Int))), (39, .d (.int .i64 (k0 : Int)))] [[]]
theorem G_types_measure : (∀ p r, types_measure' p = some r → ∀ a0, a0 = p → M_types_measure a0 r) ∧
    (∀ p r, types_measure_j0' p = some r → ∀ t4_1 a0, (t4_1, a0) = p → M_types_measure_j0 t4_1 a0 r) ∧
    (∀ p r, types_measure_l0' p = some r → ∀ rest0 t2_0 t3_0 t4_0, (rest0, t2_0, t3_0, t4_0) = p → M_types_measure_l0 rest0 t2_0 t3_0 t4_0 r) := by
  refine types_measure'.mutual_partial_correctness (fun (p : Ty) (r : (Int × Int × Bool)) => ∀ (a0 : Ty), a0 = p → M_types_measure a0 r) (fun (p : (Bool × Ty)) (r : (Int × Int × Bool)) => ∀ (t4_1 : Bool) (a0 : Ty), (t4_1, a0) = p → M_types_measure_j0 t4_1 a0 r) (fun (p : ((List Ty) × Int × Int × Bool)) (r : (Int × Int × Bool)) => ∀ (rest0 : (List Ty)) (t2_0 : Int) (t3_0 : Int) (t4_0 : Bool), (rest0, t2_0, t3_0, t4_0) = p → M_types_measure_l0 rest0 t2_0 t3_0 t4_0 r) ?_ ?_ ?_
  · intro f_types_measure_j0 ih_types_measure_j0 p r e a0 hp
    subst hp
    refine pure_of_awp (js := [5]) T_ok Try.func85 rfl (by decide +kernel) rfl ?_; conv => whnf
    refine brK.split (fun hb1 => ?_) (fun hb1 => ?_)
    · replace e := ifpb hb1 e; conv => whnf
      obtain ⟨v2, qv2, e⟩ := bnd e
      refine said_pure (P_types_variable qv2) rfl ?_; conv => whnf
      refine brK.split (fun hb3 => ?_) (fun hb3 => ?_)
      · replace e := ifpb hb3 e; conv => whnf
        refine brK.tt hb3 ?_; conv => whnf
        refine brK.tt hb3 ?_; conv => whnf
        refine brK.tt hb3 ?_; conv => whnf
        refine ⟨⟨fun h4 => ?_, fun h4 => ?_⟩⟩
        · replace e := ifp h4 e; conv => whnf
          refine brK.tt hb3 ?_; conv => whnf
          refine Runs.weak (ih_types_measure_j0 _ _ e _ _ rfl) ?_
          repeat' first | exact wk.of_eq rfl | exact rfl | exact trivial | refine ⟨?_, ?_⟩
        · replace e := ifn h4 e; conv => whnf
          refine brK.tt hb3 ?_; conv => whnf
          refine Runs.weak (ih_types_measure_j0 _ _ e _ _ rfl) ?_
          repeat' first | exact wk.of_eq rfl | exact rfl | exact trivial | refine ⟨?_, ?_⟩
      · replace e := ifnb hb3 e; conv => whnf
        refine brK.ff hb3 ?_; conv => whnf
        refine brK.ff hb3 ?_; conv => whnf
        refine brK.ff hb3 ?_; conv => whnf
        refine brK.ff hb3 ?_; conv => whnf
        refine Runs.weak (ih_types_measure_j0 _ _ e _ _ rfl) ?_
        repeat' first | exact wk.of_eq rfl | exact rfl | exact trivial | refine ⟨?_, ?_⟩
    · replace e := ifnb hb1 e; conv => whnf
      obtain ⟨v2, qv2, e⟩ := bnd e
      refine said_pure (P_types_name qv2) rfl ?_; conv => whnf
      refine brK.split (fun hb3 => ?_) (fun hb3 => ?_)
      · replace e := ifpb hb3 e; conv => whnf
        refine brK.tt hb3 ?_; conv => whnf
        refine brK.tt hb3 ?_; conv => whnf
        obtain ⟨v4, qv4, e⟩ := bnd e
        obtain ⟨qv4k, qv4q, qv4a, qv4b, qv4c⟩ := getb_some qv4
        refine ⟨qv4k, qv4q, qv4a, qv4b, ?_⟩; rw [qv4c]; conv => whnf
        refine brK.tt hb3 ?_; conv => whnf
        refine ⟨⟨fun h5 => ?_, fun h5 => ?_⟩⟩
        · replace e := ifp h5 e; conv => whnf
          refine brK.tt hb3 ?_; conv => whnf
          refine ⟨⟨fun h6 => ?_, fun h6 => ?_⟩⟩
          · replace e := ifp h6 e; conv => whnf
            refine Runs.weak (ih_types_measure_j0 _ _ e _ _ rfl) ?_
            repeat' first | exact wk.of_eq rfl | exact rfl | exact trivial | refine ⟨?_, ?_⟩
          · replace e := ifn h6 e; conv => whnf
            refine Runs.weak (ih_types_measure_j0 _ _ e _ _ rfl) ?_
            repeat' first | exact wk.of_eq rfl | exact rfl | exact trivial | refine ⟨?_, ?_⟩
        · replace e := ifn h5 e; conv => whnf
          refine brK.tt hb3 ?_; conv => whnf
          refine Runs.weak (ih_types_measure_j0 _ _ e _ _ rfl) ?_
          repeat' first | exact wk.of_eq rfl | exact rfl | exact trivial | refine ⟨?_, ?_⟩
      · replace e := ifnb hb3 e; conv => whnf
        refine brK.ff hb3 ?_; conv => whnf
        refine brK.ff hb3 ?_; conv => whnf
        refine brK.ff hb3 ?_; conv => whnf
        refine brK.ff hb3 ?_; conv => whnf
        refine Runs.weak (ih_types_measure_j0 _ _ e _ _ rfl) ?_
        repeat' first | exact wk.of_eq rfl | exact rfl | exact trivial | refine ⟨?_, ?_⟩
  · intro f_types_measure_l0 ih_types_measure_l0 p r e t4_1 a0 hp
    subst hp
    refine Runs.enter T_ok ?_; conv => whnf
    refine RunsL.runs (RunsL.weak ((ih_types_measure_l0 _ _ e _ _ _ _ rfl) a0 0 (by simp)) ?_)
    repeat' first | exact wk.of_eq rfl | exact rfl | exact trivial | refine ⟨?_, ?_⟩
  · intro f_types_measure f_types_measure_l0 ih_types_measure ih_types_measure_l0 p r e rest0 t2_0 t3_0 t4_0 hp
    subst hp
    intro a0 k0 hd0
    refine RunsL.len_tmp 37 rfl fun hlenk0 => ?_
    refine RunsL.of_awp (js := [5]) T_ok ?_; conv => whnf
    have hls := Ty.Ds_len a0.args
    cases rest0 with
    | nil =>
      have hk := drop_nil hd0
      refine ⟨⟨fun h => absurd h (by omega), fun _ => ?_⟩⟩; conv => whnf
      obtain ⟨v41, qv41, e⟩ := bnd e
      refine ⟨v41, sm qv41, ?_⟩; conv => whnf
      obtain rfl := sm e
      repeat' first | exact rfl | exact trivial | refine ⟨?_, ?_⟩
    | cons v40 rest0 =>
      obtain ⟨hxv40, hd0, hltv40⟩ := drop_head hd0
      refine ⟨⟨fun _ => ?_, fun h => absurd (by omega) h⟩⟩; conv => whnf
      refine ⟨k0, _, rfl, Ty.Ds_get hxv40, ?_⟩; conv => whnf
      refine ⟨Ty.Ds_fit _ rfl rfl, ?_⟩; conv => whnf
      obtain ⟨v41, qv41, e⟩ := bnd e
      refine said_pure (ih_types_measure _ _ qv41 _ rfl) rfl ?_; conv => whnf
      obtain ⟨v42, qv42, e⟩ := bnd e
      refine ⟨v42, sm qv42, ?_⟩; conv => whnf
      refine brK.split (fun hb43 => ?_) (fun hb43 => ?_)
      · replace e := ifpb hb43 e; conv => whnf
        refine brK.tt hb43 ?_; conv => whnf
        refine ⟨((k0 + 1 : Nat) : Int), wrap64e (by omega) (by omega) (by omega), ?_⟩; conv => whnf
        refine (RunsL.weak ((ih_types_measure_l0 _ _ e _ _ _ _ rfl) a0 (k0 + 1) hd0) ?_)
        repeat' first | exact wk.of_eq rfl | exact rfl | exact trivial | refine ⟨?_, ?_⟩
      · replace e := ifnb hb43 e; conv => whnf
        refine brK.ff hb43 ?_; conv => whnf
        refine ⟨((k0 + 1 : Nat) : Int), wrap64e (by omega) (by omega) (by omega), ?_⟩; conv => whnf
        refine (RunsL.weak ((ih_types_measure_l0 _ _ e _ _ _ _ rfl) a0 (k0 + 1) hd0) ?_)
        repeat' first | exact wk.of_eq rfl | exact rfl | exact trivial | refine ⟨?_, ?_⟩
theorem P_types_measure {a0 : Ty} {r : (Int × Int × Bool)} (e : types_measure a0 = some r) : M_types_measure a0 r := G_types_measure.1 _ _ e _ rfl
theorem P_types_Check {a0 : Ty} {r : Int} (e : types_Check a0 = some r) : Pure Try.prog 45 [(Ty.D a0)] (.int .i64 r) := by
  unfold types_Check at e
  refine pure_of_awp (js := []) T_ok Try.func45 rfl (by decide +kernel) rfl ?_; conv => whnf
  obtain ⟨v1, qv1, e⟩ := bnd e
  refine said_pure (P_types_measure qv1) rfl ?_; conv => whnf
  refine brK.nsplit (fun hb2 => ?_) (fun hb2 => ?_)
  · replace e := ifpb hb2 e; conv => whnf
    refine brK.ntt hb2 ?_; conv => whnf
    refine ⟨⟨fun h3 => ?_, fun h3 => ?_⟩⟩
    · replace e := ifp h3 e; conv => whnf
      refine brK.ntt hb2 ?_; conv => whnf
      obtain rfl := sm e
      exact rfl
    · replace e := ifn h3 e; conv => whnf
      refine brK.ntt hb2 ?_; conv => whnf
      refine ⟨⟨fun h4 => ?_, fun h4 => ?_⟩⟩
      · replace e := ifp h4 e; conv => whnf
        obtain rfl := sm e
        exact rfl
      · replace e := ifn h4 e; conv => whnf
        obtain rfl := sm e
        exact rfl
  · replace e := ifnb hb2 e; conv => whnf
    refine brK.nff hb2 ?_; conv => whnf
    refine brK.nff hb2 ?_; conv => whnf
    obtain rfl := sm e
    exact rfl
theorem P_hash_below_1 {a0 : Int} {a1 : Int} {r : Bool} (e : hash_below_1 a0 a1 = some r) : Pure Try.prog 123 [(.int .i64 a0), (.ptr (.int .i64 a1))] (.bool r) := by
  unfold hash_below_1 at e
  refine pure_of_awp (js := []) T_ok Try.func123 rfl (by decide +kernel) rfl ?_; conv => whnf
  refine ⟨⟨fun h1 => ?_, fun h1 => ?_⟩⟩
  · replace e := ifp h1 e; conv => whnf
    obtain rfl := sm e
    exact rfl
  · replace e := ifn h1 e; conv => whnf
    refine ⟨intDs_i64_fit _ rfl rfl, ?_⟩; conv => whnf
    refine test.dec ?_; conv => whnf
    obtain rfl := sm e
    exact rfl
def M_slices_IndexFunc_int_int__hash_below_1_l0 (rest0 : (List Int)) (k0 : Nat) (a1 : Int) (r : Int) : Prop := ∀ (a0 : (List Int)) (hd0 : rest0 = a0.drop k0), LoopAt T Try.prog Try.f132 Fx0 [] [1, 0, 1, 0] (EP T Try.f132 (.int .i64 r)) [(0, .d (.slice 1 (intDs_i64 a0))), (1, .d (.func (.func 123) [] [(.ptr (.int .i64 a1))])), (7, .d (.int .i64 ((intDs_i64 a0).length : Int))), (8, .d (.int .i64 (k0 : Int)))] [[]]
theorem G_slices_IndexFunc_int_int__hash_below_1_l0 : (∀ p r, slices_IndexFunc_int_int__hash_below_1_l0' p = some r → ∀ rest0 k0 a1, (rest0, k0, a1) = p → M_slices_IndexFunc_int_int__hash_below_1_l0 rest0 k0 a1 r) := by
  refine slices_IndexFunc_int_int__hash_below_1_l0'.partial_correctness (fun (p : ((List Int) × Nat × Int)) (r : Int) => ∀ (rest0 : (List Int)) (k0 : Nat) (a1 : Int), (rest0, k0, a1) = p → M_slices_IndexFunc_int_int__hash_below_1_l0 rest0 k0 a1 r) ?_
  · intro f_slices_IndexFunc_int_int__hash_below_1_l0 ih_slices_IndexFunc_int_int__hash_below_1_l0 p r e rest0 k0 a1 hp
    subst hp
    intro a0 hd0
    refine RunsL.len_tmp 0 rfl fun hlenk0 => ?_
    refine RunsL.of_awp (js := []) T_ok ?_; conv => whnf
    have hls := intDs_i64_len a0
    cases rest0 with
    | nil =>
      have hk := drop_nil hd0
      refine ⟨⟨fun h => absurd h (by omega), fun _ => ?_⟩⟩; conv => whnf
      obtain rfl := sm e
      exact rfl
    | cons v9 rest0 =>
      obtain ⟨hxv9, hd0, hltv9⟩ := drop_head hd0
      refine ⟨⟨fun _ => ?_, fun h => absurd (by omega) h⟩⟩; conv => whnf
      refine ⟨k0, _, rfl, intDs_i64_get hxv9, ?_⟩; conv => whnf
      refine ⟨intDs_i64_fit _ rfl rfl, ?_⟩; conv => whnf
      obtain ⟨v10, qv10, e⟩ := bnd e
      refine said_pure (P_hash_below_1 qv10) rfl ?_; conv => whnf
      refine brK.split (fun hb11 => ?_) (fun hb11 => ?_)
      · replace e := ifpb hb11 e; conv => whnf
        obtain rfl := sm e
        exact rfl
      · replace e := ifnb hb11 e; conv => whnf
        refine ⟨((k0 + 1 : Nat) : Int), wrap64e (by omega) (by omega) (by omega), ?_⟩; conv => whnf
        refine (RunsL.weak ((ih_slices_IndexFunc_int_int__hash_below_1_l0 _ _ e _ _ _ rfl) a0 hd0) ?_)
        repeat' first | exact wk.of_eq rfl | exact rfl | exact trivial | refine ⟨?_, ?_⟩
theorem P_slices_IndexFunc_int_int__hash_below_1_l0 {rest0 : (List Int)} {k0 : Nat} {a1 : Int} {r : Int} (e : slices_IndexFunc_int_int__hash_below_1_l0 rest0 k0 a1 = some r) : M_slices_IndexFunc_int_int__hash_below_1_l0 rest0 k0 a1 r := G_slices_IndexFunc_int_int__hash_below_1_l0 _ _ e _ _ _ rfl
theorem P_slices_IndexFunc_int_int__hash_below_1 {a0 : (List Int)} {a1 : Int} {r : Int} (e : slices_IndexFunc_int_int__hash_below_1 a0 a1 = some r) : Pure Try.prog 132 [(.slice 1 (intDs_i64 a0)), (.func (.func 123) [] [(.ptr (.int .i64 a1))])] (.int .i64 r) := by
  unfold slices_IndexFunc_int_int__hash_below_1 at e
  refine pure_of_awp (js := []) T_ok Try.func132 rfl (by decide +kernel) rfl ?_; conv => whnf
  refine RunsL.runs (RunsL.weak ((P_slices_IndexFunc_int_int__hash_below_1_l0 e) a0 (by simp)) ?_)
  repeat' first | exact wk.of_eq rfl | exact rfl | exact trivial | refine ⟨?_, ?_⟩
theorem P_slices_ContainsFunc_int_int__hash_below_1 {a0 : (List Int)} {a1 : Int} {r : Bool} (e : slices_ContainsFunc_int_int__hash_below_1 a0 a1 = some r) : Pure Try.prog 122 [(.slice 1 (intDs_i64 a0)), (.func (.func 123) [] [(.ptr (.int .i64 a1))])] (.bool r) := by
  unfold slices_ContainsFunc_int_int__hash_below_1 at e
  refine pure_of_awp (js := []) T_ok Try.func122 rfl (by decide +kernel) rfl ?_; conv => whnf
  obtain ⟨v1, qv1, e⟩ := bnd e
  refine said_pure (P_slices_IndexFunc_int_int__hash_below_1 qv1) rfl ?_; conv => whnf
  refine test.dec ?_; conv => whnf
  obtain rfl := sm e
  exact rfl
theorem P_hash_below {a0 : (List Int)} {a1 : Int} {r : Bool} (e : hash_below a0 a1 = some r) : Pure Try.prog 103 [(.slice 1 (intDs_i64 a0)), (.int .i64 a1)] (.bool r) := by
  unfold hash_below at e
  refine pure_of_awp (js := []) T_ok Try.func103 rfl (by decide +kernel) rfl ?_; conv => whnf
  obtain ⟨v1, qv1, e⟩ := bnd e
  refine said_freeze 0 (.int .i64 a1) ?_ rfl rfl
  refine said_pureF (P_slices_ContainsFunc_int_int__hash_below_1 qv1) rfl ?_; conv => whnf
  obtain rfl := sm e
  exact rfl
def M_hash_measure_l0 (rest0 : (List Int)) (t6_0 : Int) (t7_0 : Int) (a0 : (List Int)) (a1 : (List Int)) (r : (Int × Int)) : Prop := ∀ (a2 : (List Int)) (k0 : Nat) (hd0 : rest0 = a2.drop k0), LoopAt T Try.prog Try.f90 Fx0 [] [1, 0, 1, 0] (EP T Try.f90 (.tuple [(.int .i64 r.1), (.int .i64 r.2)])) [(0, .d (.slice 1 (intDs_i64 a0))), (1, .d (.slice 1 (intDs_i64 a1))), (6, .d (.int .i64 t6_0)), (7, .d (.int .i64 t7_0)), (10, .d (.slice 1 (intDs_i64 a2))), (11, .d (.int .i64 ((intDs_i64 a2).length : Int))), (12, .d (.int .i64 (k0 : Int)))] [[]]
theorem G_hash_measure_l0 : (∀ p r, hash_measure_l0' p = some r → ∀ rest0 t6_0 t7_0 a0 a1, (rest0, t6_0, t7_0, a0, a1) = p → M_hash_measure_l0 rest0 t6_0 t7_0 a0 a1 r) := by
  refine hash_measure_l0'.partial_correctness (fun (p : ((List Int) × Int × Int × (List Int) × (List Int))) (r : (Int × Int)) => ∀ (rest0 : (List Int)) (t6_0 : Int) (t7_0 : Int) (a0 : (List Int)) (a1 : (List Int)), (rest0, t6_0, t7_0, a0, a1) = p → M_hash_measure_l0 rest0 t6_0 t7_0 a0 a1 r) ?_
  · intro f_hash_measure_l0 ih_hash_measure_l0 p r e rest0 t6_0 t7_0 a0 a1 hp
    subst hp
    intro a2 k0 hd0
    refine RunsL.len_tmp 10 rfl fun hlenk0 => ?_
    refine RunsL.of_awp (js := []) T_ok ?_; conv => whnf
    have hls := intDs_i64_len a2
    cases rest0 with
    | nil =>
      have hk := drop_nil hd0
      refine ⟨⟨fun h => absurd h (by omega), fun _ => ?_⟩⟩; conv => whnf
      obtain ⟨v14, qv14, e⟩ := bnd e
      refine ⟨v14, sm qv14, ?_⟩; conv => whnf
      obtain ⟨v15, qv15, e⟩ := bnd e
      refine ⟨v15, sm qv15, ?_⟩; conv => whnf
      obtain rfl := sm e
      repeat' first | exact rfl | exact trivial | refine ⟨?_, ?_⟩
    | cons v13 rest0 =>
      obtain ⟨hxv13, hd0, hltv13⟩ := drop_head hd0
      refine ⟨⟨fun _ => ?_, fun h => absurd (by omega) h⟩⟩; conv => whnf
      refine ⟨k0, _, rfl, intDs_i64_get hxv13, ?_⟩; conv => whnf
      refine ⟨intDs_i64_fit _ rfl rfl, ?_⟩; conv => whnf
      obtain ⟨v14, qv14, e⟩ := bnd e
      obtain ⟨qv14k, qv14a, qv14b⟩ := geti_some qv14
      refine ⟨qv14k, _, qv14a, intDs_i64_get qv14b, ?_⟩; conv => whnf
      refine ⟨intDs_i64_fit _ rfl rfl, ?_⟩; conv => whnf
      obtain ⟨v15, qv15, e⟩ := bnd e
      refine ⟨v15, sm qv15, ?_⟩; conv => whnf
      obtain ⟨v16, qv16, e⟩ := bnd e
      obtain ⟨qv16k, qv16a, qv16b⟩ := geti_some qv16
      refine ⟨qv16k, _, qv16a, intDs_i64_get qv16b, ?_⟩; conv => whnf
      refine ⟨intDs_i64_fit _ rfl rfl, ?_⟩; conv => whnf
      refine ⟨((k0 + 1 : Nat) : Int), wrap64e (by omega) (by omega) (by omega), ?_⟩; conv => whnf
      refine (RunsL.weak ((ih_hash_measure_l0 _ _ e _ _ _ _ _ rfl) a2 (k0 + 1) hd0) ?_)
      repeat' first | exact wk.of_eq rfl | exact rfl | exact trivial | refine ⟨?_, ?_⟩
theorem P_hash_measure_l0 {rest0 : (List Int)} {t6_0 : Int} {t7_0 : Int} {a0 : (List Int)} {a1 : (List Int)} {r : (Int × Int)} (e : hash_measure_l0 rest0 t6_0 t7_0 a0 a1 = some r) : M_hash_measure_l0 rest0 t6_0 t7_0 a0 a1 r := G_hash_measure_l0 _ _ e _ _ _ _ _ rfl
theorem P_hash_measure {a0 : (List Int)} {a1 : (List Int)} {a2 : (List Int)} {r : (Int × Int)} (e : hash_measure a0 a1 a2 = some r) : Pure Try.prog 90 [(.slice 1 (intDs_i64 a0)), (.slice 1 (intDs_i64 a1)), (.slice 1 (intDs_i64 a2))] (.tuple [(.int .i64 r.1), (.int .i64 r.2)]) := by
  unfold hash_measure at e
  refine pure_of_awp (js := []) T_ok Try.func90 rfl (by decide +kernel) rfl ?_; conv => whnf
  refine RunsL.runs (RunsL.weak ((P_hash_measure_l0 e) a2 0 (by simp)) ?_)
  repeat' first | exact wk.of_eq rfl | exact rfl | exact trivial | refine ⟨?_, ?_⟩
theorem P_hash_keyType {a0 : YN} {r : YK} (e : hash_keyType a0 = some r) : Pure Try.prog 86 [(YN.D a0)] (YK.D r) := by
  unfold hash_keyType at e
  refine pure_of_awp (js := []) T_ok Try.func86 rfl (by decide +kernel) rfl ?_; conv => whnf
  refine draw_rule [] T_ok mixed hash_keyType_pl2 (by decide +kernel) ?_; conv => whnf
  refine ⟨⟨rfl, intDs_i64_agg _⟩, setBlkK_cs (cs' := [.d (.bool a0.var), .d (.str a0.name), .d (.int .i64 ((intDs_i64 a0.args).length : Int)), .d (.int .i64 (a0.args.getD 0 0)), .d (.int .i64 (a0.args.getD 1 0)), .d (.int .i64 (a0.args.getD 2 0)), .d (.int .i64 (a0.args.getD 3 0)), .d (.int .i64 (a0.args.getD 4 0)), .d (.int .i64 (a0.args.getD 5 0)), .d (.int .i64 (a0.args.getD 6 0)), .d (.int .i64 (a0.args.getD 7 0))]) (by simp only [intDs_i64_getD]) ?_⟩; conv => whnf
  obtain rfl := sm e
  repeat' first | exact rfl | exact trivial | refine ⟨?_, ?_⟩
end Go.Proofs.Ytpgecpmonaldiaa.Fw

