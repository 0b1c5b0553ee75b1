/- The code computes the functions. -/
import Derived.Test.YtpgecpmonaldiaaGP3
set_option autoImplicit false
set_option linter.unusedVariables false
set_option linter.unusedSimpArgs false
set_option maxHeartbeats 4000000
namespace Go.Proofs.Ytpgecpmonaldiaa.Fw
open Go Go.Proofs Go.RowKit
def M_r31_At (a0 : AStore) (a1 : Int) (r : Tm) : Prop := Pure Try.prog 61 [(AStore.D a0), (.int .i64 a1)] (Tm.D r)
def M_r31_At_j0 (c3_2_1 : Bool) (c3_3_1 : ByteArray) (c3_4_1 : (List Ty)) (a0 : AStore) (v1 : XN) (r : Tm) : Prop := JoinAt T Try.prog Try.f61 Fx0 [5] [1, 1, 1, 1, 0, 0] (EP T Try.f61 (Tm.D r)) [(2, .ptr 0 0 0), (4, .ptr 0 1 0), (5, .ptr 0 2 0), (6, .ptr 0 3 0)] [[.cells [.d (.slice 3 (YN.Ds a0.types)), .d (.slice 5 (XN.Ds a0.terms))], .cells [.d (.int .u8 0), .d (.str ByteArray.empty), .d (.bool false), .d (.str ByteArray.empty), .nil 3, .d (.int .i64 0), .nil 7], .cells [.d (.int .u8 v1.kind), .d (.str v1.name), .d (.int .i64 v1.type_), .d (.int .i64 v1.index), .d (.slice 1 (intDs_i64 v1.sub))], .cells [.d (.int .u8 v1.kind), .d (.str v1.name), .d (.bool c3_2_1), .d (.str c3_3_1), .d (.slice 3 (Ty.Ds c3_4_1)), .d (.int .i64 v1.index), .nil 7]]]
def M_r31_At_l0 (rest0 : (List Int)) (c3_6_0 : (List Tm)) (a0 : AStore) (c3_2_1 : Bool) (c3_3_1 : ByteArray) (c3_4_1 : (List Ty)) (v1 : XN) (r : Tm) : Prop := ∀ (k0 : Nat) (hd0 : rest0 = v1.sub.drop k0), LoopAt T Try.prog Try.f61 Fx0 [5] [1, 1, 1, 1, 0, 1, 0] (EP T Try.f61 (Tm.D r)) [(2, .ptr 0 0 0), (4, .ptr 0 1 0), (5, .ptr 0 2 0), (6, .ptr 0 3 0), (7, .d (.int .i64 (k0 : Int)))] [[.cells [.d (.slice 3 (YN.Ds a0.types)), .d (.slice 5 (XN.Ds a0.terms))], .cells [.d (.int .u8 0), .d (.str ByteArray.empty), .d (.bool false), .d (.str ByteArray.empty), .nil 3, .d (.int .i64 0), .nil 7], .cells [.d (.int .u8 v1.kind), .d (.str v1.name), .d (.int .i64 v1.type_), .d (.int .i64 v1.index), .d (.slice 1 (intDs_i64 v1.sub))], .cells [.d (.int .u8 v1.kind), .d (.str v1.name), .d (.bool c3_2_1), .d (.str c3_3_1), .d (.slice 3 (Ty.Ds c3_4_1)), .d (.int .i64 v1.index), .own 0 4 7 (Tm.Ds c3_6_0)], .grow 7 (Tm.Ds c3_6_0).length]]
theorem G_r31_At : (∀ p r, r31_At' p = some r → ∀ a0 a1, (a0, a1) = p → M_r31_At a0 a1 r) ∧
    (∀ p r, r31_At_j0' p = some r → ∀ c3_2_1 c3_3_1 c3_4_1 a0 v1, (c3_2_1, c3_3_1, c3_4_1, a0, v1) = p → M_r31_At_j0 c3_2_1 c3_3_1 c3_4_1 a0 v1 r) ∧
    (∀ p r, r31_At_l0' p = some r → ∀ rest0 c3_6_0 a0 c3_2_1 c3_3_1 c3_4_1 v1, (rest0, c3_6_0, a0, c3_2_1, c3_3_1, c3_4_1, v1) = p → M_r31_At_l0 rest0 c3_6_0 a0 c3_2_1 c3_3_1 c3_4_1 v1 r) := by
  refine r31_At'.mutual_partial_correctness (fun (p : (AStore × Int)) (r : Tm) => ∀ (a0 : AStore) (a1 : Int), (a0, a1) = p → M_r31_At a0 a1 r) (fun (p : (Bool × ByteArray × (List Ty) × AStore × XN)) (r : Tm) => ∀ (c3_2_1 : Bool) (c3_3_1 : ByteArray) (c3_4_1 : (List Ty)) (a0 : AStore) (v1 : XN), (c3_2_1, c3_3_1, c3_4_1, a0, v1) = p → M_r31_At_j0 c3_2_1 c3_3_1 c3_4_1 a0 v1 r) (fun (p : ((List Int) × (List Tm) × AStore × Bool × ByteArray × (List Ty) × XN)) (r : Tm) => ∀ (rest0 : (List Int)) (c3_6_0 : (List Tm)) (a0 : AStore) (c3_2_1 : Bool) (c3_3_1 : ByteArray) (c3_4_1 : (List Ty)) (v1 : XN), (rest0, c3_6_0, a0, c3_2_1, c3_3_1, c3_4_1, v1) = p → M_r31_At_l0 rest0 c3_6_0 a0 c3_2_1 c3_3_1 c3_4_1 v1 r) ?_ ?_ ?_
  · intro f_r31_At_j0 ih_r31_At_j0 p r e a0 a1 hp
    subst hp
    refine pure_of_awp (js := [5]) T_ok Try.func61 rfl (by decide +kernel) rfl ?_; conv => whnf
    obtain ⟨v1, qv1, e⟩ := bnd e
    obtain ⟨qv1k, qv1a, qv1b⟩ := geti_some qv1
    refine ⟨qv1k, _, qv1a, XN.Ds_get qv1b, ?_⟩; conv => whnf
    refine ⟨XN.Ds_fit _ rfl rfl, ?_⟩; conv => whnf
    refine ⟨⟨fun h2 => ?_, fun h2 => ?_⟩⟩
    · replace e := ifp h2 e; conv => whnf
      obtain ⟨v3, qv3, e⟩ := bnd e
      refine said_pure (P_r31_TypeAt qv3) rfl ?_; conv => whnf
      refine Runs.weak (ih_r31_At_j0 _ _ e _ _ _ _ _ rfl) ?_
      repeat' first | exact wk.of_eq rfl | exact rfl | exact trivial | refine ⟨?_, ?_⟩
    · replace e := ifn h2 e; conv => whnf
      refine Runs.weak (ih_r31_At_j0 _ _ e _ _ _ _ _ rfl) ?_
      repeat' first | exact wk.of_eq rfl | exact wk.pure rfl | exact rfl | exact trivial | refine ⟨?_, ?_⟩
  · intro f_r31_At_l0 ih_r31_At_l0 p r e c3_2_1 c3_3_1 c3_4_1 a0 v1 hp
    subst hp
    refine Runs.enter T_ok ?_; conv => whnf
    refine Runs.hold 7 ?_
    refine RunsL.runs (RunsL.weak ((ih_r31_At_l0 _ _ e _ _ _ _ _ _ _ rfl) 0 (by simp)) ?_)
    repeat' first | exact wk.of_eq rfl | exact wk.hold _ _ _ | exact rfl | exact trivial | refine ⟨?_, ?_⟩
  · intro f_r31_At f_r31_At_l0 ih_r31_At ih_r31_At_l0 p r e rest0 c3_6_0 a0 c3_2_1 c3_3_1 c3_4_1 v1 hp
    subst hp
    intro k0 hd0
    refine RunsL.len_cell 2 4 rfl rfl rfl fun hlenk0 => ?_
    refine RunsL.of_awp (js := [5]) T_ok ?_; conv => whnf
    have hls := intDs_i64_len v1.sub
    cases rest0 with
    | nil =>
      have hk := drop_nil hd0
      refine ⟨⟨fun h => absurd h (by omega), fun _ => ?_⟩⟩; conv => whnf
      obtain rfl := sm e
      repeat' first | exact rfl | exact trivial | refine ⟨?_, ?_⟩
    | cons v9 rest0 =>
      obtain ⟨hxv9, hd0, hltv9⟩ := drop_head hd0
      refine ⟨⟨fun _ => ?_, fun h => absurd (by omega) h⟩⟩; conv => whnf
      refine draw_rule [] T_ok mixed r31_At_pl8 (by decide +kernel) ?_; conv => whnf
      refine ⟨k0, _, rfl, intDs_i64_get hxv9, ?_⟩; conv => whnf
      refine ⟨intDs_i64_fit _ rfl rfl, ?_⟩; conv => whnf
      obtain ⟨v10, qv10, e⟩ := bnd e
      refine said_pure (ih_r31_At _ _ qv10 _ _ rfl) rfl ⟨Keeps.refl _ _, ?_⟩; conv => whnf
      refine ⟨⟨⟨rfl, rfl⟩, trivial⟩, ?_⟩; conv => whnf
      obtain ⟨v11, qv11, e⟩ := bnd e
      obtain ⟨qv11l, qv11e⟩ := app_some qv11
      refine ⟨(by simpa [XN.Ds_all, YN.Ds_all, Tm.Ds_all, Ty.Ds_all, ia, AStore.D, XN.D, YN.D, Tm.D, Ty.D, listAll] using qv11l), rfl, (by rfl), ?_⟩; conv => whnf
      refine ⟨((k0 + 1 : Nat) : Int), wrap64e (by omega) (by omega) (by omega), ?_⟩; conv => whnf
      refine (RunsL.weak ((ih_r31_At_l0 _ _ e _ _ _ _ _ _ _ rfl) (k0 + 1) hd0) ?_)
      repeat' first | exact wk.of_eq rfl | exact rfl | exact trivial | refine ⟨?_, ?_⟩ | (refine wk.of_eq ?_; (conv => lhs; whnf); (simp [XN.Ds_all, YN.Ds_all, Tm.Ds_all, Ty.Ds_all, ia, AStore.D, XN.D, YN.D, Tm.D, Ty.D, listAll, qv11e] <;> (repeat' first | rfl | apply And.intro)); done) | ((simp [XN.Ds_all, YN.Ds_all, Tm.Ds_all, Ty.Ds_all, ia, AStore.D, XN.D, YN.D, Tm.D, Ty.D, listAll, qv11e] <;> (repeat' first | rfl | apply And.intro)); done)
theorem P_r31_At {a0 : AStore} {a1 : Int} {r : Tm} (e : r31_At a0 a1 = some r) : M_r31_At a0 a1 r := G_r31_At.1 _ _ e _ _ rfl
def M_r02_Size (a0 : Tm) (r : Int) : Prop := Pure Try.prog 38 [(Tm.D a0)] (.int .i64 r)
def M_r02_Size_l0 (rest0 : (List Tm)) (t3_0 : Int) (r : Int) : Prop := ∀ (a0 : Tm) (k0 : Nat) (hd0 : rest0 = a0.sub.drop k0), LoopAt T Try.prog Try.f38 Fx0 [] [1, 1, 0, 1, 0] (EP T Try.f38 (.int .i64 r)) [(1, .ptr 0 0 0), (3, .d (.int .i64 t3_0)), (4, .d (.int .i64 (k0 : Int)))] [[.cells [.d (.int .u8 a0.kind), .d (.str a0.name), .d (.bool a0.ty.v), .d (.str a0.ty.name), .d (.slice 3 (Ty.Ds a0.ty.args)), .d (.int .i64 a0.index), .d (.slice 7 (Tm.Ds a0.sub))]]]
theorem G_r02_Size : (∀ p r, r02_Size' p = some r → ∀ a0, a0 = p → M_r02_Size a0 r) ∧
    (∀ p r, r02_Size_l0' p = some r → ∀ rest0 t3_0, (rest0, t3_0) = p → M_r02_Size_l0 rest0 t3_0 r) := by
  refine r02_Size'.mutual_partial_correctness (fun (p : Tm) (r : Int) => ∀ (a0 : Tm), a0 = p → M_r02_Size a0 r) (fun (p : ((List Tm) × Int)) (r : Int) => ∀ (rest0 : (List Tm)) (t3_0 : Int), (rest0, t3_0) = p → M_r02_Size_l0 rest0 t3_0 r) ?_ ?_
  · intro f_r02_Size_l0 ih_r02_Size_l0 p r e a0 hp
    subst hp
    refine pure_of_awp (js := []) T_ok Try.func38 rfl (by decide +kernel) rfl ?_; conv => whnf
    refine RunsL.runs (RunsL.weak ((ih_r02_Size_l0 _ _ e _ _ rfl) a0 0 (by simp)) ?_)
    repeat' first | exact wk.of_eq rfl | exact rfl | exact trivial | refine ⟨?_, ?_⟩
  · intro f_r02_Size f_r02_Size_l0 ih_r02_Size ih_r02_Size_l0 p r e rest0 t3_0 hp
    subst hp
    intro a0 k0 hd0
    refine RunsL.len_cell 0 6 rfl rfl rfl fun hlenk0 => ?_
    refine RunsL.of_awp (js := []) T_ok ?_; conv => whnf
    have hls := Tm.Ds_len a0.sub
    cases rest0 with
    | nil =>
      have hk := drop_nil hd0
      refine ⟨⟨fun h => absurd h (by omega), fun _ => ?_⟩⟩; conv => whnf
      obtain rfl := sm e
      exact rfl
    | cons v5 rest0 =>
      obtain ⟨hxv5, hd0, hltv5⟩ := drop_head hd0
      refine ⟨⟨fun _ => ?_, fun h => absurd (by omega) h⟩⟩; conv => whnf
      refine ⟨k0, _, rfl, Tm.Ds_get hxv5, ?_⟩; conv => whnf
      refine ⟨Tm.Ds_fit _ rfl rfl, ?_⟩; conv => whnf
      obtain ⟨v6, qv6, e⟩ := bnd e
      refine said_pure (ih_r02_Size _ _ qv6 _ rfl) rfl ?_; conv => whnf
      obtain ⟨v7, qv7, e⟩ := bnd e
      refine ⟨v7, sm qv7, ?_⟩; conv => whnf
      refine ⟨((k0 + 1 : Nat) : Int), wrap64e (by omega) (by omega) (by omega), ?_⟩; conv => whnf
      refine (RunsL.weak ((ih_r02_Size_l0 _ _ e _ _ rfl) a0 (k0 + 1) hd0) ?_)
      repeat' first | exact wk.of_eq rfl | exact rfl | exact trivial | refine ⟨?_, ?_⟩
theorem P_r02_Size {a0 : Tm} {r : Int} (e : r02_Size a0 = some r) : M_r02_Size a0 r := G_r02_Size.1 _ _ e _ rfl
def M_r02_Depth (a0 : Tm) (r : Int) : Prop := Pure Try.prog 102 [(Tm.D a0)] (.int .i64 r)
def M_r02_Depth_l0 (rest0 : (List Tm)) (t3_0 : Int) (r : Int) : Prop := ∀ (a0 : Tm) (k0 : Nat) (hd0 : rest0 = a0.sub.drop k0), LoopAt T Try.prog Try.f102 Fx0 [] [1, 1, 0, 1, 0] (EP T Try.f102 (.int .i64 r)) [(1, .ptr 0 0 0), (3, .d (.int .i64 t3_0)), (4, .d (.int .i64 (k0 : Int)))] [[.cells [.d (.int .u8 a0.kind), .d (.str a0.name), .d (.bool a0.ty.v), .d (.str a0.ty.name), .d (.slice 3 (Ty.Ds a0.ty.args)), .d (.int .i64 a0.index), .d (.slice 7 (Tm.Ds a0.sub))]]]
theorem G_r02_Depth : (∀ p r, r02_Depth' p = some r → ∀ a0, a0 = p → M_r02_Depth a0 r) ∧
    (∀ p r, r02_Depth_l0' p = some r → ∀ rest0 t3_0, (rest0, t3_0) = p → M_r02_Depth_l0 rest0 t3_0 r) := by
  refine r02_Depth'.mutual_partial_correctness (fun (p : Tm) (r : Int) => ∀ (a0 : Tm), a0 = p → M_r02_Depth a0 r) (fun (p : ((List Tm) × Int)) (r : Int) => ∀ (rest0 : (List Tm)) (t3_0 : Int), (rest0, t3_0) = p → M_r02_Depth_l0 rest0 t3_0 r) ?_ ?_
  · intro f_r02_Depth_l0 ih_r02_Depth_l0 p r e a0 hp
    subst hp
    refine pure_of_awp (js := []) T_ok Try.func102 rfl (by decide +kernel) rfl ?_; conv => whnf
    refine RunsL.runs (RunsL.weak ((ih_r02_Depth_l0 _ _ e _ _ rfl) a0 0 (by simp)) ?_)
    repeat' first | exact wk.of_eq rfl | exact rfl | exact trivial | refine ⟨?_, ?_⟩
  · intro f_r02_Depth f_r02_Depth_l0 ih_r02_Depth ih_r02_Depth_l0 p r e rest0 t3_0 hp
    subst hp
    intro a0 k0 hd0
    refine RunsL.len_cell 0 6 rfl rfl rfl fun hlenk0 => ?_
    refine RunsL.of_awp (js := []) T_ok ?_; conv => whnf
    have hls := Tm.Ds_len a0.sub
    cases rest0 with
    | nil =>
      have hk := drop_nil hd0
      refine ⟨⟨fun h => absurd h (by omega), fun _ => ?_⟩⟩; conv => whnf
      obtain ⟨v6, qv6, e⟩ := bnd e
      refine ⟨v6, sm qv6, ?_⟩; conv => whnf
      obtain rfl := sm e
      exact rfl
    | cons v5 rest0 =>
      obtain ⟨hxv5, hd0, hltv5⟩ := drop_head hd0
      refine ⟨⟨fun _ => ?_, fun h => absurd (by omega) h⟩⟩; conv => whnf
      refine ⟨k0, _, rfl, Tm.Ds_get hxv5, ?_⟩; conv => whnf
      refine ⟨Tm.Ds_fit _ rfl rfl, ?_⟩; conv => whnf
      obtain ⟨v6, qv6, e⟩ := bnd e
      refine said_pure (ih_r02_Depth _ _ qv6 _ rfl) rfl ?_; conv => whnf
      refine ⟨((k0 + 1 : Nat) : Int), wrap64e (by omega) (by omega) (by omega), ?_⟩; conv => whnf
      refine (RunsL.weak ((ih_r02_Depth_l0 _ _ e _ _ rfl) a0 (k0 + 1) hd0) ?_)
      repeat' first | exact wk.of_eq rfl | exact rfl | exact trivial | refine ⟨?_, ?_⟩
theorem P_r02_Depth {a0 : Tm} {r : Int} (e : r02_Depth a0 = some r) : M_r02_Depth a0 r := G_r02_Depth.1 _ _ e _ rfl
theorem P_r02_Small {a0 : Tm} {r : Bool} (e : r02_Small a0 = some r) : Pure Try.prog 81 [(Tm.D a0)] (.bool r) := by
  unfold r02_Small at e
  refine pure_of_awp (js := []) T_ok Try.func81 rfl (by decide +kernel) rfl ?_; conv => whnf
  obtain ⟨v1, qv1, e⟩ := bnd e
  refine said_pure (P_r02_Size qv1) rfl ?_; conv => whnf
  refine ⟨⟨fun h2 => ?_, fun h2 => ?_⟩⟩
  · replace e := ifp h2 e; conv => whnf
    obtain ⟨v3, qv3, e⟩ := bnd e
    refine said_pure (P_r02_Depth qv3) rfl ?_; conv => whnf
    refine test.dec ?_; conv => whnf
    obtain rfl := sm e
    exact rfl
  · replace e := ifn h2 e; conv => whnf
    obtain rfl := sm e
    exact rfl
theorem P_r02_none {a0 : Ty} {r : Bool} (e : r02_none a0 = some r) : Pure Try.prog 110 [(Ty.D a0)] (.bool r) := by
  unfold r02_none at e
  refine pure_of_awp (js := []) T_ok Try.func110 rfl (by decide +kernel) rfl ?_; conv => whnf
  refine brK.nsplit (fun hb1 => ?_) (fun hb1 => ?_)
  · replace e := ifpb hb1 e; conv => whnf
    refine brK.ntt hb1 ?_; conv => whnf
    refine brK.ntt hb1 ?_; conv => whnf
    refine brK.ntt hb1 ?_; conv => whnf
    obtain rfl := sm e
    exact rfl
  · replace e := ifnb hb1 e; conv => whnf
    refine brK.nff hb1 ?_; conv => whnf
    refine brK.nff hb1 ?_; conv => whnf
    refine ⟨⟨fun h2 => ?_, fun h2 => ?_⟩⟩
    · replace e := ifp h2 e; conv => whnf
      refine brK.nff hb1 ?_; conv => whnf
      refine test.dec ?_; conv => whnf
      obtain rfl := sm e
      exact rfl
    · replace e := ifn h2 e; conv => whnf
      refine brK.nff hb1 ?_; conv => whnf
      obtain rfl := sm e
      exact rfl
def M_r01_Compare (a0 : Ty) (a1 : Ty) (r : Int) : Prop := Pure Try.prog 65 [(Ty.D a0), (Ty.D a1)] (.int .i64 r)
def M_r01_Compare_l0 (rest0 : (List Ty)) (k0 : Nat) (a1 : Ty) (r : Int) : Prop := ∀ (a0 : Ty) (hd0 : rest0 = a0.args.drop k0), LoopAt T Try.prog Try.f65 Fx0 [] [1, 1, 1, 1, 0, 1, 0] (EP T Try.f65 (.int .i64 r)) [(2, .ptr 0 0 0), (3, .ptr 0 1 0), (5, .d (.int .i64 (k0 : Int)))] [[.cells [.d (.bool a0.v), .d (.str a0.name), .d (.slice 3 (Ty.Ds a0.args))], .cells [.d (.bool a1.v), .d (.str a1.name), .d (.slice 3 (Ty.Ds a1.args))]]]
theorem G_r01_Compare : (∀ p r, r01_Compare' p = some r → ∀ a0 a1, (a0, a1) = p → M_r01_Compare a0 a1 r) ∧
    (∀ p r, r01_Compare_l0' p = some r → ∀ rest0 k0 a1, (rest0, k0, a1) = p → M_r01_Compare_l0 rest0 k0 a1 r) := by
  refine r01_Compare'.mutual_partial_correctness (fun (p : (Ty × Ty)) (r : Int) => ∀ (a0 : Ty) (a1 : Ty), (a0, a1) = p → M_r01_Compare a0 a1 r) (fun (p : ((List Ty) × Nat × Ty)) (r : Int) => ∀ (rest0 : (List Ty)) (k0 : Nat) (a1 : Ty), (rest0, k0, a1) = p → M_r01_Compare_l0 rest0 k0 a1 r) ?_ ?_
  · intro f_r01_Compare_l0 ih_r01_Compare_l0 p r e a0 a1 hp
    subst hp
    refine pure_of_awp (js := []) T_ok Try.func65 rfl (by decide +kernel) rfl ?_; conv => whnf
    refine ⟨⟨fun h1 => ?_, fun h1 => ?_⟩⟩
    · replace e := ifp h1 e; conv => whnf
      refine brK.split (fun hb2 => ?_) (fun hb2 => ?_)
      · replace e := ifpb hb2 e; conv => whnf
        obtain rfl := sm e
        exact rfl
      · replace e := ifnb hb2 e; conv => whnf
        obtain rfl := sm e
        exact rfl
    · replace e := ifn h1 e; conv => whnf
      refine ⟨⟨fun h2 => ?_, fun h2 => ?_⟩⟩
      · replace e := ifp h2 e; conv => whnf
        refine ⟨⟨fun h3 => ?_, fun h3 => ?_⟩⟩
        · replace e := ifp h3 e; conv => whnf
          obtain rfl := sm e
          exact rfl
        · replace e := ifn h3 e; conv => whnf
          obtain rfl := sm e
          exact rfl
      · replace e := ifn h2 e; conv => whnf
        refine ⟨⟨fun h3 => ?_, fun h3 => ?_⟩⟩
        · replace e := ifp h3 e; conv => whnf
          refine ⟨⟨fun h4 => ?_, fun h4 => ?_⟩⟩
          · replace e := ifp h4 e; conv => whnf
            obtain rfl := sm e
            exact rfl
          · replace e := ifn h4 e; conv => whnf
            obtain rfl := sm e
            exact rfl
        · replace e := ifn h3 e; conv => whnf
          refine RunsL.runs (RunsL.weak ((ih_r01_Compare_l0 _ _ e _ _ _ rfl) a0 (by simp)) ?_)
          repeat' first | exact wk.of_eq rfl | exact rfl | exact trivial | refine ⟨?_, ?_⟩
  · intro f_r01_Compare f_r01_Compare_l0 ih_r01_Compare ih_r01_Compare_l0 p r e rest0 k0 a1 hp
    subst hp
    intro a0 hd0
    refine RunsL.len_cell 0 2 rfl rfl rfl fun hlenk0 => ?_
    refine RunsL.of_awp (js := []) T_ok ?_; conv => whnf
    have hls := Ty.Ds_len a0.args
    cases rest0 with
    | nil =>
      have hk := drop_nil hd0
      refine ⟨⟨fun h => absurd h (by omega), fun _ => ?_⟩⟩; conv => whnf
      obtain rfl := sm e
      exact rfl
    | cons v6 rest0 =>
      obtain ⟨hxv6, hd0, hltv6⟩ := drop_head hd0
      refine ⟨⟨fun _ => ?_, fun h => absurd (by omega) h⟩⟩; conv => whnf
      refine draw_rule [] T_ok mixed r01_Compare_pl16 (by decide +kernel) ?_; conv => whnf
      refine ⟨k0, _, rfl, Ty.Ds_get hxv6, ?_⟩; conv => whnf
      refine ⟨Ty.Ds_fit _ rfl rfl, ?_⟩; conv => whnf
      obtain ⟨v7, qv7, e⟩ := bnd e
      obtain ⟨qv7k, qv7a, qv7b⟩ := geti_some qv7
      refine ⟨qv7k, _, qv7a, Ty.Ds_get qv7b, ?_⟩; conv => whnf
      refine ⟨Ty.Ds_fit _ rfl rfl, ?_⟩; conv => whnf
      obtain ⟨v8, qv8, e⟩ := bnd e
      refine said_pure (ih_r01_Compare _ _ qv8 _ _ rfl) rfl ⟨Keeps.refl _ _, ?_⟩; conv => whnf
      refine ⟨⟨fun h9 => ?_, fun h9 => ?_⟩⟩
      · replace e := ifp h9 e; conv => whnf
        obtain rfl := sm e
        exact rfl
      · replace e := ifn h9 e; conv => whnf
        refine ⟨((k0 + 1 : Nat) : Int), wrap64e (by omega) (by omega) (by omega), ?_⟩; conv => whnf
        refine (RunsL.weak ((ih_r01_Compare_l0 _ _ e _ _ _ rfl) a0 hd0) ?_)
        repeat' first | exact wk.of_eq rfl | exact rfl | exact trivial | refine ⟨?_, ?_⟩
theorem P_r01_Compare {a0 : Ty} {a1 : Ty} {r : Int} (e : r01_Compare a0 a1 = some r) : M_r01_Compare a0 a1 r := G_r01_Compare.1 _ _ e _ _ rfl
theorem P_r01_Same {a0 : Ty} {a1 : Ty} {r : Bool} (e : r01_Same a0 a1 = some r) : Pure Try.prog 33 [(Ty.D a0), (Ty.D a1)] (.bool r) := by
  unfold r01_Same at e
  refine pure_of_awp (js := []) T_ok Try.func33 rfl (by decide +kernel) rfl ?_; conv => whnf
  obtain ⟨v1, qv1, e⟩ := bnd e
  refine said_pure (P_r01_Compare qv1) rfl ?_; conv => whnf
  refine test.dec ?_; conv => whnf
  obtain rfl := sm e
  exact rfl
def M_r01_Twin (a0 : Ty) (r : Ty) : Prop := Pure Try.prog 128 [(Ty.D a0)] (Ty.D r)
def M_r01_Twin_l0 (rest0 : (List Ty)) (c2_2_0 : (List Ty)) (a0 : Ty) (r : Ty) : Prop := ∀ (k0 : Nat) (hd0 : rest0 = a0.args.drop k0), LoopAt T Try.prog Try.f128 Fx0 [] [1, 1, 0, 1, 0] (EP T Try.f128 (Ty.D r)) [(1, .ptr 0 0 0), (2, .ptr 0 1 0), (3, .ptr 0 2 0), (4, .d (.int .i64 (k0 : Int)))] [[.cells [.d (.bool a0.v), .d (.str a0.name), .d (.slice 3 (Ty.Ds a0.args))], .cells [.d (.bool false), .d (.str ByteArray.empty), .nil 3], .cells [.d (.bool a0.v), .d (.str a0.name), .own 0 3 3 (Ty.Ds c2_2_0)], .grow 3 (Ty.Ds c2_2_0).length]]
theorem G_r01_Twin : (∀ p r, r01_Twin' p = some r → ∀ a0, a0 = p → M_r01_Twin a0 r) ∧
    (∀ p r, r01_Twin_l0' p = some r → ∀ rest0 c2_2_0 a0, (rest0, c2_2_0, a0) = p → M_r01_Twin_l0 rest0 c2_2_0 a0 r) := by
  refine r01_Twin'.mutual_partial_correctness (fun (p : Ty) (r : Ty) => ∀ (a0 : Ty), a0 = p → M_r01_Twin a0 r) (fun (p : ((List Ty) × (List Ty) × Ty)) (r : Ty) => ∀ (rest0 : (List Ty)) (c2_2_0 : (List Ty)) (a0 : Ty), (rest0, c2_2_0, a0) = p → M_r01_Twin_l0 rest0 c2_2_0 a0 r) ?_ ?_
  · intro f_r01_Twin_l0 ih_r01_Twin_l0 p r e a0 hp
    subst hp
    refine pure_of_awp (js := []) T_ok Try.func128 rfl (by decide +kernel) rfl ?_; conv => whnf
    refine Runs.hold 3 ?_
    refine RunsL.runs (RunsL.weak ((ih_r01_Twin_l0 _ _ e _ _ _ rfl) 0 (by simp)) ?_)
    repeat' first | exact wk.of_eq rfl | exact wk.hold _ _ _ | exact rfl | exact trivial | refine ⟨?_, ?_⟩
  · intro f_r01_Twin f_r01_Twin_l0 ih_r01_Twin ih_r01_Twin_l0 p r e rest0 c2_2_0 a0 hp
    subst hp
    intro k0 hd0
    refine RunsL.len_cell 0 2 rfl rfl rfl fun hlenk0 => ?_
    refine RunsL.of_awp (js := []) T_ok ?_; conv => whnf
    have hls := Ty.Ds_len a0.args
    cases rest0 with
    | nil =>
      have hk := drop_nil hd0
      refine ⟨⟨fun h => absurd h (by omega), fun _ => ?_⟩⟩; conv => whnf
      obtain rfl := sm e
      repeat' first | exact rfl | exact trivial | refine ⟨?_, ?_⟩
    | cons v6 rest0 =>
      obtain ⟨hxv6, hd0, hltv6⟩ := drop_head hd0
      refine ⟨⟨fun _ => ?_, fun h => absurd (by omega) h⟩⟩; conv => whnf
      refine draw_rule [] T_ok mixed r01_Twin_pl5 (by decide +kernel) ?_; conv => whnf
      refine ⟨k0, _, rfl, Ty.Ds_get hxv6, ?_⟩; conv => whnf
      refine ⟨Ty.Ds_fit _ rfl rfl, ?_⟩; conv => whnf
      obtain ⟨v7, qv7, e⟩ := bnd e
      refine said_pure (ih_r01_Twin _ _ qv7 _ rfl) rfl ⟨Keeps.refl _ _, ?_⟩; conv => whnf
      refine ⟨⟨⟨rfl, rfl⟩, trivial⟩, ?_⟩; conv => whnf
      obtain ⟨v8, qv8, e⟩ := bnd e
      obtain ⟨qv8l, qv8e⟩ := app_some qv8
      refine ⟨(by simpa [Ty.Ds_all, Ty.D, listAll] using qv8l), rfl, (by rfl), ?_⟩; conv => whnf
      refine ⟨((k0 + 1 : Nat) : Int), wrap64e (by omega) (by omega) (by omega), ?_⟩; conv => whnf
      refine (RunsL.weak ((ih_r01_Twin_l0 _ _ e _ _ _ rfl) (k0 + 1) hd0) ?_)
      repeat' first | exact wk.of_eq rfl | exact rfl | exact trivial | refine ⟨?_, ?_⟩ | (refine wk.of_eq ?_; (conv => lhs; whnf); (simp [Ty.Ds_all, Ty.D, listAll, qv8e] <;> (repeat' first | rfl | apply And.intro)); done) | ((simp [Ty.Ds_all, Ty.D, listAll, qv8e] <;> (repeat' first | rfl | apply And.intro)); done)
theorem P_r01_Twin {a0 : Ty} {r : Ty} (e : r01_Twin a0 = some r) : M_r01_Twin a0 r := G_r01_Twin.1 _ _ e _ rfl
theorem P_r01_Fun {a0 : Ty} {a1 : Ty} {r : Ty} (e : r01_Fun a0 a1 = some r) : Pure Try.prog 111 [(Ty.D a0), (Ty.D a1)] (Ty.D r) := by
  unfold r01_Fun at e
  refine pure_of_awp (js := []) T_ok Try.func111 rfl (by decide +kernel) rfl ?_; conv => whnf
  refine draw_rule [] T_ok mixed r01_Fun_pl1 (by decide +kernel) ?_; conv => whnf
  obtain ⟨v1, qv1, e⟩ := bnd e
  refine said_pure (P_r01_Twin qv1) rfl ⟨Keeps.refl _ _, ?_⟩; conv => whnf
  obtain ⟨v2, qv2, e⟩ := bnd e
  refine said_pure (P_r01_Twin qv2) rfl ⟨Keeps.refl _ _, ?_⟩; conv => whnf
  refine ⟨⟨⟨rfl, rfl⟩, ⟨⟨rfl, rfl⟩, trivial⟩⟩, ?_⟩; conv => whnf
  obtain rfl := sm e
  repeat' first | exact rfl | exact trivial | refine ⟨?_, ?_⟩ | (simp [Ty.Ds_all, Ty.D, listAll] <;> (repeat' first | rfl | apply And.intro))
theorem P_r02_Formed_j0 {a0 : Tm} {v14 : (Ty × Bool)} {r : (Ty × Bool)} (e : r02_Formed_j0 a0 v14 = some r) : (∀ (v13 : (List Ty)), JoinAt T Try.prog Try.f89 Fx0 [21] [1, 0, 1, 0, 1, 1, 1, 1, 1, 1, 1, 0, 1, 1, 0] (EP T Try.f89 (.tuple [(Ty.D r.1), (.bool r.2)])) [(2, .ptr 0 0 0), (4, .ptr 0 1 0), (10, .ptr 0 3 0), (11, .d (.bool v14.2))] [[.cells [.d (.int .u8 a0.kind), .d (.str a0.name), .d (.bool a0.ty.v), .d (.str a0.ty.name), .d (.slice 3 (Ty.Ds a0.ty.args)), .d (.int .i64 a0.index), .d (.slice 7 (Tm.Ds a0.sub))], .cells [.d (.bool false), .d (.str ByteArray.empty), .nil 3], .grow 3 (Ty.Ds v13).length, .cells [.d (.bool v14.1.v), .d (.str v14.1.name), .d (.slice 3 (Ty.Ds v14.1.args))]]]) ∧ (JoinAt T Try.prog Try.f89 Fx0 [21] [1, 0, 1, 0, 1, 1, 1, 1, 1, 1, 1, 0, 1, 1, 0] (EP T Try.f89 (.tuple [(Ty.D r.1), (.bool r.2)])) [(2, .ptr 0 0 0), (4, .ptr 0 1 0), (10, .ptr 0 2 0), (11, .d (.bool v14.2))] [[.cells [.d (.int .u8 a0.kind), .d (.str a0.name), .d (.bool a0.ty.v), .d (.str a0.ty.name), .d (.slice 3 (Ty.Ds a0.ty.args)), .d (.int .i64 a0.index), .d (.slice 7 (Tm.Ds a0.sub))], .cells [.d (.bool false), .d (.str ByteArray.empty), .nil 3], .cells [.d (.bool v14.1.v), .d (.str v14.1.name), .d (.slice 3 (Ty.Ds v14.1.args))]]]) := by
  unfold r02_Formed_j0 at e
  refine ⟨?_, ?_⟩
  · intro v13
    refine Runs.enter T_ok ?_; conv => whnf
    obtain ⟨v15, qv15, e⟩ := bnd e
    refine said_pure (P_r01_Fun qv15) rfl ?_; conv => whnf
    refine draw_rule [] T_ok mixed r02_Formed_pl22 (by decide +kernel) ?_; conv => whnf
    refine brK.split (fun hb16 => ?_) (fun hb16 => ?_)
    · replace e := ifpb hb16 e; conv => whnf
      refine brK.tt hb16 ?_; conv => whnf
      obtain ⟨v17, qv17, e⟩ := bnd e
      refine said_pure (P_r01_Valid qv17) rfl ⟨Keeps.refl _ _, ?_⟩; conv => whnf
      refine brK.tt hb16 ?_; conv => whnf
      obtain rfl := sm e
      repeat' first | exact rfl | exact trivial | refine ⟨?_, ?_⟩
    · replace e := ifnb hb16 e; conv => whnf
      refine brK.ff hb16 ?_; conv => whnf
      refine brK.ff hb16 ?_; conv => whnf
      obtain rfl := sm e
      repeat' first | exact rfl | exact trivial | refine ⟨?_, ?_⟩
  · refine Runs.enter T_ok ?_; conv => whnf
    obtain ⟨v15, qv15, e⟩ := bnd e
    refine said_pure (P_r01_Fun qv15) rfl ?_; conv => whnf
    refine draw_rule [] T_ok mixed r02_Formed_pl22 (by decide +kernel) ?_; conv => whnf
    refine brK.split (fun hb16 => ?_) (fun hb16 => ?_)
    · replace e := ifpb hb16 e; conv => whnf
      refine brK.tt hb16 ?_; conv => whnf
      obtain ⟨v17, qv17, e⟩ := bnd e
      refine said_pure (P_r01_Valid qv17) rfl ⟨Keeps.refl _ _, ?_⟩; conv => whnf
      refine brK.tt hb16 ?_; conv => whnf
      obtain rfl := sm e
      repeat' first | exact rfl | exact trivial | refine ⟨?_, ?_⟩
    · replace e := ifnb hb16 e; conv => whnf
      refine brK.ff hb16 ?_; conv => whnf
      refine brK.ff hb16 ?_; conv => whnf
      obtain rfl := sm e
      repeat' first | exact rfl | exact trivial | refine ⟨?_, ?_⟩
def M_r02_Formed (a0 : Tm) (a1 : (List Ty)) (r : (Ty × Bool)) : Prop := Pure Try.prog 89 [(Tm.D a0), (.slice 3 (Ty.Ds a1))] (.tuple [(Ty.D r.1), (.bool r.2)])
theorem G_r02_Formed : (∀ p r, r02_Formed' p = some r → ∀ a0 a1, (a0, a1) = p → M_r02_Formed a0 a1 r) := by
  refine r02_Formed'.partial_correctness (fun (p : (Tm × (List Ty))) (r : (Ty × Bool)) => ∀ (a0 : Tm) (a1 : (List Ty)), (a0, a1) = p → M_r02_Formed a0 a1 r) ?_
  · intro f_r02_Formed ih_r02_Formed p r e a0 a1 hp
    subst hp
    refine pure_of_awp (js := [21]) T_ok Try.func89 rfl (by decide +kernel) rfl ?_; conv => whnf
    refine ⟨⟨fun h1 => ?_, fun h1 => ?_⟩⟩
    · replace e := ifp h1 e; conv => whnf
      refine draw_rule [] T_ok mixed r02_Formed_pl4 (by decide +kernel) ?_; conv => whnf
      obtain ⟨v2, qv2, e⟩ := bnd e
      refine said_pure (P_r02_Name qv2) rfl ⟨Keeps.refl _ _, ?_⟩; conv => whnf
      refine brK.split (fun hb3 => ?_) (fun hb3 => ?_)
      · replace e := ifpb hb3 e; conv => whnf
        refine brK.tt hb3 ?_; conv => whnf
        refine brK.tt hb3 ?_; conv => whnf
        obtain ⟨v4, qv4, e⟩ := bnd e
        refine said_pure (P_r01_Valid qv4) rfl ⟨Keeps.refl _ _, ?_⟩; conv => whnf
        refine brK.tt hb3 ?_; conv => whnf
        refine brK.split (fun hb5 => ?_) (fun hb5 => ?_)
        · replace e := ifpb hb5 e; conv => whnf
          refine brK.tt hb5 ?_; conv => whnf
          refine brK.tt hb5 ?_; conv => whnf
          refine ⟨⟨fun h6 => ?_, fun h6 => ?_⟩⟩
          · replace e := ifp h6 e; conv => whnf
            refine brK.tt hb5 ?_; conv => whnf
            refine test.dec ?_; conv => whnf
            obtain rfl := sm e
            repeat' first | exact rfl | exact trivial | refine ⟨?_, ?_⟩
          · replace e := ifn h6 e; conv => whnf
            refine brK.tt hb5 ?_; conv => whnf
            obtain rfl := sm e
            repeat' first | exact rfl | exact trivial | refine ⟨?_, ?_⟩
        · replace e := ifnb hb5 e; conv => whnf
          refine brK.ff hb5 ?_; conv => whnf
          refine brK.ff hb5 ?_; conv => whnf
          refine brK.ff hb5 ?_; conv => whnf
          obtain rfl := sm e
          repeat' first | exact rfl | exact trivial | refine ⟨?_, ?_⟩
      · replace e := ifnb hb3 e; conv => whnf
        refine brK.ff hb3 ?_; conv => whnf
        refine brK.ff hb3 ?_; conv => whnf
        refine brK.ff hb3 ?_; conv => whnf
        obtain rfl := sm e
        repeat' first | exact rfl | exact trivial | refine ⟨?_, ?_⟩
    · replace e := ifn h1 e; conv => whnf
      refine ⟨⟨fun h2 => ?_, fun h2 => ?_⟩⟩
      · replace e := ifp h2 e; conv => whnf
        refine draw_rule [] T_ok mixed r02_Formed_pl4 (by decide +kernel) ?_; conv => whnf
        obtain ⟨v3, qv3, e⟩ := bnd e
        refine said_pure (P_r02_Name qv3) rfl ⟨Keeps.refl _ _, ?_⟩; conv => whnf
        refine brK.split (fun hb4 => ?_) (fun hb4 => ?_)
        · replace e := ifpb hb4 e; conv => whnf
          refine brK.tt hb4 ?_; conv => whnf
          refine brK.tt hb4 ?_; conv => whnf
          obtain ⟨v5, qv5, e⟩ := bnd e
          refine said_pure (P_r01_Valid qv5) rfl ⟨Keeps.refl _ _, ?_⟩; conv => whnf
          refine brK.tt hb4 ?_; conv => whnf
          refine brK.split (fun hb6 => ?_) (fun hb6 => ?_)
          · replace e := ifpb hb6 e; conv => whnf
            refine brK.tt hb6 ?_; conv => whnf
            refine brK.tt hb6 ?_; conv => whnf
            refine ⟨⟨fun h7 => ?_, fun h7 => ?_⟩⟩
            · replace e := ifp h7 e; conv => whnf
              refine brK.tt hb6 ?_; conv => whnf
              refine test.dec ?_; conv => whnf
              obtain rfl := sm e
              repeat' first | exact rfl | exact trivial | refine ⟨?_, ?_⟩
            · replace e := ifn h7 e; conv => whnf
              refine brK.tt hb6 ?_; conv => whnf
              obtain rfl := sm e
              repeat' first | exact rfl | exact trivial | refine ⟨?_, ?_⟩
          · replace e := ifnb hb6 e; conv => whnf
            refine brK.ff hb6 ?_; conv => whnf
            refine brK.ff hb6 ?_; conv => whnf
            refine brK.ff hb6 ?_; conv => whnf
            obtain rfl := sm e
            repeat' first | exact rfl | exact trivial | refine ⟨?_, ?_⟩
        · replace e := ifnb hb4 e; conv => whnf
          refine brK.ff hb4 ?_; conv => whnf
          refine brK.ff hb4 ?_; conv => whnf
          refine brK.ff hb4 ?_; conv => whnf
          obtain rfl := sm e
          repeat' first | exact rfl | exact trivial | refine ⟨?_, ?_⟩
      · replace e := ifn h2 e; conv => whnf
        refine ⟨⟨fun h3 => ?_, fun h3 => ?_⟩⟩
        · replace e := ifp h3 e; conv => whnf
          refine ⟨⟨fun h4 => ?_, fun h4 => ?_⟩⟩
          · replace e := ifp h4 e; conv => whnf
            obtain rfl := sm e
            repeat' first | exact rfl | exact trivial | refine ⟨?_, ?_⟩
          · replace e := ifn h4 e; conv => whnf
            obtain ⟨v5, qv5, e⟩ := bnd e
            refine said_pure (P_r02_none qv5) rfl ?_; conv => whnf
            refine brK.nsplit (fun hb6 => ?_) (fun hb6 => ?_)
            · replace e := ifpb hb6 e; conv => whnf
              refine brK.ntt hb6 ?_; conv => whnf
              refine brK.ntt hb6 ?_; conv => whnf
              refine brK.ntt hb6 ?_; conv => whnf
              refine ⟨⟨fun h7 => ?_, fun h7 => ?_⟩⟩
              · replace e := ifp h7 e; conv => whnf
                refine brK.ntt hb6 ?_; conv => whnf
                obtain rfl := sm e
                repeat' first | exact rfl | exact trivial | refine ⟨?_, ?_⟩
              · replace e := ifn h7 e; conv => whnf
                refine brK.ntt hb6 ?_; conv => whnf
                refine ⟨⟨fun h8 => ?_, fun h8 => ?_⟩⟩
                · replace e := ifp h8 e; conv => whnf
                  obtain rfl := sm e
                  repeat' first | exact rfl | exact trivial | refine ⟨?_, ?_⟩
                · replace e := ifn h8 e; conv => whnf
                  refine ⟨⟨fun h9 => ?_, fun h9 => ?_⟩⟩
                  · replace e := ifp h9 e; conv => whnf
                    obtain rfl := sm e
                    repeat' first | exact rfl | exact trivial | refine ⟨?_, ?_⟩
                  · replace e := ifn h9 e; conv => whnf
                    obtain ⟨v10, qv10, e⟩ := bnd e
                    obtain ⟨qv10k, qv10a, qv10b⟩ := geti_some qv10
                    refine ⟨qv10k, _, qv10a, Ty.Ds_get qv10b, ?_⟩; conv => whnf
                    refine ⟨Ty.Ds_fit _ rfl rfl, ?_⟩; conv => whnf
                    obtain rfl := sm e
                    repeat' first | exact rfl | exact trivial | refine ⟨?_, ?_⟩
            · replace e := ifnb hb6 e; conv => whnf
              refine brK.nff hb6 ?_; conv => whnf
              refine brK.nff hb6 ?_; conv => whnf
              refine brK.nff hb6 ?_; conv => whnf
              refine brK.nff hb6 ?_; conv => whnf
              obtain rfl := sm e
              repeat' first | exact rfl | exact trivial | refine ⟨?_, ?_⟩
        · replace e := ifn h3 e; conv => whnf
          refine ⟨⟨fun h4 => ?_, fun h4 => ?_⟩⟩
          · replace e := ifp h4 e; conv => whnf
            refine ⟨⟨fun h5 => ?_, fun h5 => ?_⟩⟩
            · replace e := ifp h5 e; conv => whnf
              obtain rfl := sm e
              repeat' first | exact rfl | exact trivial | refine ⟨?_, ?_⟩
            · replace e := ifn h5 e; conv => whnf
              obtain ⟨v6, qv6, e⟩ := bnd e
              refine said_pure (P_r02_none qv6) rfl ?_; conv => whnf
              refine brK.nsplit (fun hb7 => ?_) (fun hb7 => ?_)
              · replace e := ifpb hb7 e; conv => whnf
                refine brK.ntt hb7 ?_; conv => whnf
                refine brK.ntt hb7 ?_; conv => whnf
                refine ⟨⟨fun h8 => ?_, fun h8 => ?_⟩⟩
                · replace e := ifp h8 e; conv => whnf
                  refine brK.ntt hb7 ?_; conv => whnf
                  obtain rfl := sm e
                  repeat' first | exact rfl | exact trivial | refine ⟨?_, ?_⟩
                · replace e := ifn h8 e; conv => whnf
                  refine brK.ntt hb7 ?_; conv => whnf
                  refine ⟨⟨fun h9 => ?_, fun h9 => ?_⟩⟩
                  · replace e := ifp h9 e; conv => whnf
                    obtain rfl := sm e
                    repeat' first | exact rfl | exact trivial | refine ⟨?_, ?_⟩
                  · replace e := ifn h9 e; conv => whnf
                    obtain ⟨v10, qv10, e⟩ := bnd e
                    obtain ⟨qv10k, qv10a, qv10b⟩ := geti_some qv10
                    refine ⟨qv10k, _, qv10a, Tm.Ds_get qv10b, ?_⟩; conv => whnf
                    refine ⟨Tm.Ds_fit _ rfl rfl, ?_⟩; conv => whnf
                    obtain ⟨v11, qv11, e⟩ := bnd e
                    refine said_pure (ih_r02_Formed _ _ qv11 _ _ rfl) rfl ?_; conv => whnf
                    obtain ⟨v12, qv12, e⟩ := bnd e
                    obtain ⟨qv12k, qv12a, qv12b⟩ := geti_some qv12
                    refine ⟨qv12k, _, qv12a, Tm.Ds_get qv12b, ?_⟩; conv => whnf
                    refine ⟨Tm.Ds_fit _ rfl rfl, ?_⟩; conv => whnf
                    obtain ⟨v13, qv13, e⟩ := bnd e
                    refine said_pure (ih_r02_Formed _ _ qv13 _ _ rfl) rfl ?_; conv => whnf
                    refine draw_rule [] T_ok mixed r02_Formed_pl14 (by decide +kernel) ?_; conv => whnf
                    refine brK.nsplit (fun hb14 => ?_) (fun hb14 => ?_)
                    · replace e := ifpb hb14 e; conv => whnf
                      refine brK.ntt hb14 ?_; conv => whnf
                      refine brK.ntt hb14 ?_; conv => whnf
                      refine brK.nsplit (fun hb15 => ?_) (fun hb15 => ?_)
                      · replace e := ifpb hb15 e; conv => whnf
                        refine brK.ntt hb15 ?_; conv => whnf
                        refine brK.ntt hb15 ?_; conv => whnf
                        refine brK.split (fun hb16 => ?_) (fun hb16 => ?_)
                        · replace e := ifpb hb16 e; conv => whnf
                          refine brK.tt hb16 ?_; conv => whnf
                          refine brK.tt hb16 ?_; conv => whnf
                          refine brK.tt hb16 ?_; conv => whnf
                          obtain rfl := sm e
                          repeat' first | exact rfl | exact trivial | refine ⟨?_, ?_⟩
                        · replace e := ifnb hb16 e; conv => whnf
                          refine brK.ff hb16 ?_; conv => whnf
                          refine brK.ff hb16 ?_; conv => whnf
                          refine ⟨⟨fun h17 => ?_, fun h17 => ?_⟩⟩
                          · replace e := ifp h17 e; conv => whnf
                            refine brK.ff hb16 ?_; conv => whnf
                            obtain rfl := sm e
                            repeat' first | exact rfl | exact trivial | refine ⟨?_, ?_⟩
                          · replace e := ifn h17 e; conv => whnf
                            refine brK.ff hb16 ?_; conv => whnf
                            refine ⟨⟨fun h18 => ?_, fun h18 => ?_⟩⟩
                            · replace e := ifp h18 e; conv => whnf
                              obtain rfl := sm e
                              repeat' first | exact rfl | exact trivial | refine ⟨?_, ?_⟩
                            · replace e := ifn h18 e; conv => whnf
                              obtain ⟨v19, qv19, e⟩ := bnd e
                              obtain ⟨qv19k, qv19a, qv19b⟩ := geti_some qv19
                              refine ⟨qv19k, _, qv19a, Ty.Ds_get qv19b, ?_⟩; conv => whnf
                              refine ⟨Ty.Ds_fit _ rfl rfl, ?_⟩; conv => whnf
                              obtain ⟨v20, qv20, e⟩ := bnd e
                              refine said_pure (P_r01_Same qv20) rfl ⟨Keeps.refl _ _, ?_⟩; conv => whnf
                              refine brK.nsplit (fun hb21 => ?_) (fun hb21 => ?_)
                              · replace e := ifpb hb21 e; conv => whnf
                                obtain ⟨v22, qv22, e⟩ := bnd e
                                obtain ⟨qv22k, qv22a, qv22b⟩ := geti_some qv22
                                refine ⟨qv22k, _, qv22a, Ty.Ds_get qv22b, ?_⟩; conv => whnf
                                refine ⟨Ty.Ds_fit _ rfl rfl, ?_⟩; conv => whnf
                                obtain rfl := sm e
                                repeat' first | exact rfl | exact trivial | refine ⟨?_, ?_⟩
                              · replace e := ifnb hb21 e; conv => whnf
                                obtain rfl := sm e
                                repeat' first | exact rfl | exact trivial | refine ⟨?_, ?_⟩
                      · replace e := ifnb hb15 e; conv => whnf
                        refine brK.nff hb15 ?_; conv => whnf
                        refine brK.nff hb15 ?_; conv => whnf
                        obtain rfl := sm e
                        repeat' first | exact rfl | exact trivial | refine ⟨?_, ?_⟩
                    · replace e := ifnb hb14 e; conv => whnf
                      refine brK.nff hb14 ?_; conv => whnf
                      refine brK.nff hb14 ?_; conv => whnf
                      obtain rfl := sm e
                      repeat' first | exact rfl | exact trivial | refine ⟨?_, ?_⟩
              · replace e := ifnb hb7 e; conv => whnf
                refine brK.nff hb7 ?_; conv => whnf
                refine brK.nff hb7 ?_; conv => whnf
                refine brK.nff hb7 ?_; conv => whnf
                obtain rfl := sm e
                repeat' first | exact rfl | exact trivial | refine ⟨?_, ?_⟩
          · replace e := ifn h4 e; conv => whnf
            refine ⟨⟨fun h5 => ?_, fun h5 => ?_⟩⟩
            · replace e := ifp h5 e; conv => whnf
              obtain ⟨v6, qv6, e⟩ := bnd e
              refine said_pure (P_r02_Name qv6) rfl ?_; conv => whnf
              refine brK.nsplit (fun hb7 => ?_) (fun hb7 => ?_)
              · replace e := ifpb hb7 e; conv => whnf
                refine brK.ntt hb7 ?_; conv => whnf
                refine brK.ntt hb7 ?_; conv => whnf
                obtain ⟨v8, qv8, e⟩ := bnd e
                refine said_pure (P_r01_Valid qv8) rfl ?_; conv => whnf
                refine brK.ntt hb7 ?_; conv => whnf
                refine brK.ntt hb7 ?_; conv => whnf
                refine brK.nsplit (fun hb9 => ?_) (fun hb9 => ?_)
                · replace e := ifpb hb9 e; conv => whnf
                  refine brK.ntt hb9 ?_; conv => whnf
                  refine brK.ntt hb9 ?_; conv => whnf
                  refine ⟨⟨fun h10 => ?_, fun h10 => ?_⟩⟩
                  · replace e := ifp h10 e; conv => whnf
                    refine brK.ntt hb9 ?_; conv => whnf
                    obtain rfl := sm e
                    repeat' first | exact rfl | exact trivial | refine ⟨?_, ?_⟩
                  · replace e := ifn h10 e; conv => whnf
                    refine brK.ntt hb9 ?_; conv => whnf
                    refine ⟨⟨fun h11 => ?_, fun h11 => ?_⟩⟩
                    · replace e := ifp h11 e; conv => whnf
                      obtain rfl := sm e
                      repeat' first | exact rfl | exact trivial | refine ⟨?_, ?_⟩
                    · replace e := ifn h11 e; conv => whnf
                      refine draw_rule [] T_ok mixed r02_Formed_pl20 (by decide +kernel) ?_; conv => whnf
                      obtain ⟨v12, qv12, e⟩ := bnd e
                      obtain ⟨qv12k, qv12a, qv12b⟩ := geti_some qv12
                      refine ⟨qv12k, _, qv12a, Tm.Ds_get qv12b, ?_⟩; conv => whnf
                      refine ⟨Tm.Ds_fit _ rfl rfl, ?_⟩; conv => whnf
                      refine ⟨⟨⟨rfl, rfl⟩, trivial⟩, ?_⟩; conv => whnf
                      obtain ⟨v13, qv13, e⟩ := bnd e
                      obtain ⟨v14, qv14, e⟩ := bnd e
                      refine ⟨?_, ?_⟩
                      · (conv => whnf)
                        obtain ⟨qv13l, qv13e⟩ := app_some qv13
                        refine ⟨(by simpa [Tm.Ds_all, Ty.Ds_all, Tm.D, Ty.D, listAll] using qv13l), rfl, fun hz => ?_, fun hz => ?_⟩
                        · have hyv13 : a1 = [] := by simpa [Ty.Ds_map, List.map_eq_nil_iff, Tm.Ds_all, Ty.Ds_all, Tm.D, Ty.D, listAll] using hz
                          have hzv13 : v13 = [a0.ty] := by rw [qv13e, hyv13]; simp
                          (conv => whnf)
                          refine ⟨?_, ?_⟩
                          · (conv => whnf)
                            first | (refine said_pure (ih_r02_Formed _ _ qv14 _ _ rfl) rfl ⟨Keeps.refl _ _, ?_⟩) | (refine said_pure2 (ih_r02_Formed _ _ qv14 _ _ rfl) rfl (by simp [Tm.Ds_all, Ty.Ds_all, Tm.D, Ty.D, listAll, hzv13] <;> (repeat' first | rfl | apply And.intro)) ⟨Keeps.refl _ _, ?_⟩)
                            (conv => whnf)
                            refine Runs.weak (P_r02_Formed_j0 e).2 ?_
                            repeat' first | exact wk.of_eq rfl | exact rfl | exact trivial | refine ⟨?_, ?_⟩
                          · (conv => whnf)
                            first | (refine said_pure (ih_r02_Formed _ _ qv14 _ _ rfl) rfl ⟨Keeps.refl _ _, ?_⟩) | (refine said_pure2 (ih_r02_Formed _ _ qv14 _ _ rfl) rfl (by simp [Tm.Ds_all, Ty.Ds_all, Tm.D, Ty.D, listAll, hzv13] <;> (repeat' first | rfl | apply And.intro)) ⟨Keeps.refl _ _, ?_⟩)
                            (conv => whnf)
                            refine Runs.weak (P_r02_Formed_j0 e).2 ?_
                            repeat' first | exact wk.of_eq rfl | exact rfl | exact trivial | refine ⟨?_, ?_⟩
                        · (conv => whnf)
                          refine ⟨?_, ?_⟩
                          · (conv => whnf)
                            first | (refine said_pure (ih_r02_Formed _ _ qv14 _ _ rfl) rfl ⟨Keeps.refl _ _, ?_⟩) | (refine said_pure2 (ih_r02_Formed _ _ qv14 _ _ rfl) rfl (by simp [Tm.Ds_all, Ty.Ds_all, Tm.D, Ty.D, listAll, qv13e] <;> (repeat' first | rfl | apply And.intro)) ⟨Keeps.refl _ _, ?_⟩)
                            (conv => whnf)
                            refine Runs.weak ((P_r02_Formed_j0 e).1 v13) ?_
                            repeat' first | exact wk.of_eq rfl | exact rfl | exact trivial | refine ⟨?_, ?_⟩ | (simp [Tm.Ds_all, Ty.Ds_all, Tm.D, Ty.D, listAll, qv13e]; omega)
                          · (conv => whnf)
                            first | (refine said_pure (ih_r02_Formed _ _ qv14 _ _ rfl) rfl ⟨Keeps.refl _ _, ?_⟩) | (refine said_pure2 (ih_r02_Formed _ _ qv14 _ _ rfl) rfl (by simp [Tm.Ds_all, Ty.Ds_all, Tm.D, Ty.D, listAll, qv13e] <;> (repeat' first | rfl | apply And.intro)) ⟨Keeps.refl _ _, ?_⟩)
                            (conv => whnf)
                            refine Runs.weak ((P_r02_Formed_j0 e).1 v13) ?_
                            repeat' first | exact wk.of_eq rfl | exact rfl | exact trivial | refine ⟨?_, ?_⟩ | (simp [Tm.Ds_all, Ty.Ds_all, Tm.D, Ty.D, listAll, qv13e]; omega)
                      · (conv => whnf)
                        obtain ⟨qv13l, qv13e⟩ := app_some qv13
                        refine ⟨(by simpa [Tm.Ds_all, Ty.Ds_all, Tm.D, Ty.D, listAll] using qv13l), rfl, fun hz => ?_, fun hz => ?_⟩
                        · have hyv13 : a1 = [] := by simpa [Ty.Ds_map, List.map_eq_nil_iff, Tm.Ds_all, Ty.Ds_all, Tm.D, Ty.D, listAll] using hz
                          have hzv13 : v13 = [a0.ty] := by rw [qv13e, hyv13]; simp
                          (conv => whnf)
                          first | (refine said_pure (ih_r02_Formed _ _ qv14 _ _ rfl) rfl ⟨Keeps.refl _ _, ?_⟩) | (refine said_pure2 (ih_r02_Formed _ _ qv14 _ _ rfl) rfl (by simp [Tm.Ds_all, Ty.Ds_all, Tm.D, Ty.D, listAll, hzv13] <;> (repeat' first | rfl | apply And.intro)) ⟨Keeps.refl _ _, ?_⟩)
                          (conv => whnf)
                          refine Runs.weak (P_r02_Formed_j0 e).2 ?_
                          repeat' first | exact wk.of_eq rfl | exact rfl | exact trivial | refine ⟨?_, ?_⟩
                        · (conv => whnf)
                          first | (refine said_pure (ih_r02_Formed _ _ qv14 _ _ rfl) rfl ⟨Keeps.refl _ _, ?_⟩) | (refine said_pure2 (ih_r02_Formed _ _ qv14 _ _ rfl) rfl (by simp [Tm.Ds_all, Ty.Ds_all, Tm.D, Ty.D, listAll, qv13e] <;> (repeat' first | rfl | apply And.intro)) ⟨Keeps.refl _ _, ?_⟩)
                          (conv => whnf)
                          refine Runs.weak (P_r02_Formed_j0 e).2 ?_
                          repeat' first | exact wk.of_eq rfl | exact rfl | exact trivial | refine ⟨?_, ?_⟩
                · replace e := ifnb hb9 e; conv => whnf
                  refine brK.nff hb9 ?_; conv => whnf
                  refine brK.nff hb9 ?_; conv => whnf
                  refine brK.nff hb9 ?_; conv => whnf
                  obtain rfl := sm e
                  repeat' first | exact rfl | exact trivial | refine ⟨?_, ?_⟩
              · replace e := ifnb hb7 e; conv => whnf
                refine brK.nff hb7 ?_; conv => whnf
                refine brK.nff hb7 ?_; conv => whnf
                refine brK.nff hb7 ?_; conv => whnf
                refine brK.nff hb7 ?_; conv => whnf
                obtain rfl := sm e
                repeat' first | exact rfl | exact trivial | refine ⟨?_, ?_⟩
            · replace e := ifn h5 e; conv => whnf
              obtain rfl := sm e
              repeat' first | exact rfl | exact trivial | refine ⟨?_, ?_⟩
theorem P_r02_Formed {a0 : Tm} {a1 : (List Ty)} {r : (Ty × Bool)} (e : r02_Formed a0 a1 = some r) : M_r02_Formed a0 a1 r := G_r02_Formed _ _ e _ _ rfl
theorem P_r02_Check {a0 : Tm} {r : Int} (e : r02_Check a0 = some r) : Pure Try.prog 55 [(Tm.D a0)] (.int .i64 r) := by
  unfold r02_Check at e
  refine pure_of_awp (js := []) T_ok Try.func55 rfl (by decide +kernel) rfl ?_; conv => whnf
  obtain ⟨v1, qv1, e⟩ := bnd e
  refine said_pure (P_r02_Small qv1) rfl ?_; conv => whnf
  refine brK.nsplit (fun hb2 => ?_) (fun hb2 => ?_)
  · replace e := ifpb hb2 e; conv => whnf
    obtain ⟨v3, qv3, e⟩ := bnd e
    refine said_pure (P_r02_Formed qv3) rfl ?_; conv => whnf
    refine brK.nsplit (fun hb4 => ?_) (fun hb4 => ?_)
    · replace e := ifpb hb4 e; conv => whnf
      obtain rfl := sm e
      exact rfl
    · replace e := ifnb hb4 e; conv => whnf
      obtain rfl := sm e
      exact rfl
  · replace e := ifnb hb2 e; conv => whnf
    obtain rfl := sm e
    exact rfl
theorem P_r31_Get {a0 : AStore} {a1 : Int} {r : (Tm × Int)} (e : r31_Get a0 a1 = some r) : Pure Try.prog 26 [(AStore.D a0), (.int .i64 a1)] (.tuple [(Tm.D r.1), (.int .i64 r.2)]) := by
  unfold r31_Get at e
  refine pure_of_awp (js := []) T_ok Try.func26 rfl (by decide +kernel) rfl ?_; conv => whnf
  obtain ⟨v1, qv1, e⟩ := bnd e
  refine said_pure (P_r31_Size qv1) rfl ?_; conv => whnf
  refine ⟨⟨fun h2 => ?_, fun h2 => ?_⟩⟩
  · replace e := ifp h2 e; conv => whnf
    obtain rfl := sm e
    repeat' first | exact rfl | exact trivial | refine ⟨?_, ?_⟩
  · replace e := ifn h2 e; conv => whnf
    obtain ⟨v3, qv3, e⟩ := bnd e
    refine said_pure (P_r31_At qv3) rfl ?_; conv => whnf
    obtain ⟨v4, qv4, e⟩ := bnd e
    refine said_pure (P_r02_Check qv4) rfl ?_; conv => whnf
    refine ⟨⟨fun h5 => ?_, fun h5 => ?_⟩⟩
    · replace e := ifp h5 e; conv => whnf
      obtain rfl := sm e
      repeat' first | exact rfl | exact trivial | refine ⟨?_, ?_⟩
    · replace e := ifn h5 e; conv => whnf
      obtain rfl := sm e
      repeat' first | exact rfl | exact trivial | refine ⟨?_, ?_⟩
theorem P_hash_Size_j0 {r : (Int × Int)} (e : hash_Size_j0 = some r) : ∀ (a1 : Int), JoinAt T Try.prog Try.f27 Fx0 [2] [1, 1, 0, 0] (EP T Try.f27 (.tuple [(.int .i64 r.1), (.int .i64 r.2)])) [(1, .d (.int .i64 a1)), (6, .d .nilptr), (7, .d (.int .i64 4))] [[]] := by
  unfold hash_Size_j0 at e
  intro a1
  refine Runs.enter T_ok ?_; conv => whnf
  refine ⟨⟨fun _ => ?_, fun h => absurd (by decide) h⟩⟩; conv => whnf
  obtain rfl := sm e
  repeat' first | exact rfl | exact trivial | refine ⟨?_, ?_⟩
theorem P_hash_Size_j0b {r : (Int × Int)} (e : hash_Size_j0b = some r) : ∀ (a1 : Int), JoinAt T Try.prog Try.f27 Fx0 [2] [1, 1, 0, 0] (EP T Try.f27 (.tuple [(.int .i64 r.1), (.int .i64 r.2)])) [(1, .d (.int .i64 a1)), (6, .d .nilptr), (7, .d (.int .i64 8))] [[]] := by
  unfold hash_Size_j0b at e
  intro a1
  refine Runs.enter T_ok ?_; conv => whnf
  refine ⟨⟨fun _ => ?_, fun h => absurd (by decide) h⟩⟩; conv => whnf
  obtain rfl := sm e
  repeat' first | exact rfl | exact trivial | refine ⟨?_, ?_⟩
theorem P_hash_Size_j0c {a1 : Int} {v4 : ((List YN) × (List XN) × (List (YK × Int)) × (List (XK × Int)))} {r : (Int × Int)} (e : hash_Size_j0c a1 v4 = some r) : ∀ (a0 : AStore), JoinAt T Try.prog Try.f27 Fx0 [2] [1, 1, 0, 0] (EP T Try.f27 (.tuple [(.int .i64 r.1), (.int .i64 r.2)])) [(1, .d (.int .i64 a1)), (6, .ptr 0 1 0), (7, .d (.int .i64 0))] [[.cells [.d (.slice 3 (YN.Ds a0.types)), .d (.slice 5 (XN.Ds a0.terms))], .cells [.own 0 2 3 (YN.Ds v4.1), .own 0 3 5 (XN.Ds v4.2.1), .map 0 4, .map 0 5], .grow 3 (YN.Ds v4.1).length, .grow 5 (XN.Ds v4.2.1).length, .map (mapD YK.D (D.int .i64) v4.2.2.1), .map (mapD XK.D (D.int .i64) v4.2.2.2)]] := by
  unfold hash_Size_j0c at e
  intro a0
  refine Runs.enter T_ok ?_; conv => whnf
  refine ⟨⟨fun h => absurd h (by decide), fun _ => ?_⟩⟩; conv => whnf
  obtain ⟨v5, qv5, e⟩ := bnd e
  first | (refine said_iorF (P_hash_table_size_io qv5) [1, 2, 3, 4, 5] [.ptr 0 1 0, .d (.int .i64 a1)] rfl ⟨wk.refl _, wk.pure rfl, trivial⟩ rfl rfl ?_) | (refine said_iorF2 (P_hash_table_size_io qv5) [1, 2, 3, 4, 5] [.ptr 0 1 0, .d (.int .i64 a1)] rfl ⟨wk.refl _, wk.pure rfl, trivial⟩ rfl rfl (by simp [XN.Ds_all, YN.Ds_all, AStore.D, XN.D, YN.D, listAll] <;> (repeat' first | rfl | apply And.intro)) ?_)
  (conv => whnf)
  obtain rfl := sm e
  repeat' first | exact rfl | exact trivial | refine ⟨?_, ?_⟩
theorem P_hash_Size {a0 : AStore} {a1 : Int} {r : (Int × Int)} (e : hash_Size a0 a1 = some r) : Pure Try.prog 27 [(AStore.D a0), (.int .i64 a1)] (.tuple [(.int .i64 r.1), (.int .i64 r.2)]) := by
  unfold hash_Size at e
  refine pure_of_awp (js := [2]) T_ok Try.func27 rfl (by decide +kernel) rfl ?_; conv => whnf
  obtain ⟨v1, qv1, e⟩ := bnd e
  rcases v1 with v2 | v3 | v4
  · refine said_iorF (P_hash_open_io qv1) [] [.d (AStore.D a0)] rfl ⟨wk.pure rfl, trivial⟩ rfl rfl ?_; conv => whnf
    refine Runs.weak ((P_hash_Size_j0 e) a1) ?_
    repeat' first | exact wk.of_eq rfl | exact rfl | exact trivial | refine ⟨?_, ?_⟩
  · refine said_iorF (P_hash_open_io qv1) [] [.d (AStore.D a0)] rfl ⟨wk.pure rfl, trivial⟩ rfl rfl ?_; conv => whnf
    refine Runs.weak ((P_hash_Size_j0b e) a1) ?_
    repeat' first | exact wk.of_eq rfl | exact rfl | exact trivial | refine ⟨?_, ?_⟩
  · refine said_iorF (P_hash_open_io qv1) [] [.d (AStore.D a0)] rfl ⟨wk.pure rfl, trivial⟩ rfl rfl ?_; conv => whnf
    refine Runs.weak ((P_hash_Size_j0c e) a0) ?_
    repeat' first | exact wk.of_eq rfl | exact rfl | exact trivial | refine ⟨?_, ?_⟩
theorem P_hash_Shared_j0 {r : (Int × Int)} (e : hash_Shared_j0 = some r) : ∀ (a1 : Int), JoinAt T Try.prog Try.f29 Fx0 [2] [1, 1, 0, 0] (EP T Try.f29 (.tuple [(.int .i64 r.1), (.int .i64 r.2)])) [(1, .d (.int .i64 a1)), (6, .d .nilptr), (7, .d (.int .i64 4))] [[]] := by
  unfold hash_Shared_j0 at e
  intro a1
  refine Runs.enter T_ok ?_; conv => whnf
  refine ⟨⟨fun _ => ?_, fun h => absurd (by decide) h⟩⟩; conv => whnf
  obtain rfl := sm e
  repeat' first | exact rfl | exact trivial | refine ⟨?_, ?_⟩
theorem P_hash_Shared_j0b {r : (Int × Int)} (e : hash_Shared_j0b = some r) : ∀ (a1 : Int), JoinAt T Try.prog Try.f29 Fx0 [2] [1, 1, 0, 0] (EP T Try.f29 (.tuple [(.int .i64 r.1), (.int .i64 r.2)])) [(1, .d (.int .i64 a1)), (6, .d .nilptr), (7, .d (.int .i64 8))] [[]] := by
  unfold hash_Shared_j0b at e
  intro a1
  refine Runs.enter T_ok ?_; conv => whnf
  refine ⟨⟨fun _ => ?_, fun h => absurd (by decide) h⟩⟩; conv => whnf
  obtain rfl := sm e
  repeat' first | exact rfl | exact trivial | refine ⟨?_, ?_⟩
def M_hash_Shared_l0 (t9_1 : Int) (t10_1 : Int) (a6_1 : (List Bool)) (v4 : ((List YN) × (List XN) × (List (YK × Int)) × (List (XK × Int)))) (r : (Int × Int)) : Prop := ∀ (a0 : AStore) (nv8 : Nat) (hla6_1 : a6_1.length = nv8), LoopAt T Try.prog Try.f29 Fx0 [2] [1, 1, 1, 1, 1, 1, 1, 0, 1, 0] (EP T Try.f29 (.tuple [(.int .i64 r.1), (.int .i64 r.2)])) [(6, .ptr 0 1 0), (8, .arr 0 6 0 nv8 1), (9, .d (.int .i64 t9_1)), (10, .d (.int .i64 t10_1))] [[.cells [.d (.slice 3 (YN.Ds a0.types)), .d (.slice 5 (XN.Ds a0.terms))], .cells [.own 0 2 3 (YN.Ds v4.1), .own 0 3 5 (XN.Ds v4.2.1), .map 0 4, .map 0 5], .grow 3 (YN.Ds v4.1).length, .grow 5 (XN.Ds v4.2.1).length, .map (mapD YK.D (D.int .i64) v4.2.2.1), .map (mapD XK.D (D.int .i64) v4.2.2.2), .arr 1 (boolDs a6_1)]]
def M_hash_Shared_l1 (rest2 : (List Int)) (a6_2 : (List Bool)) (t10_1 : Int) (v4 : ((List YN) × (List XN) × (List (YK × Int)) × (List (XK × Int)))) (v17 : Int) (r : (Int × Int)) : Prop := ∀ (a0 : AStore) (k2 : Nat) (nv8 : Nat) (v18 : XN) (hla6_2 : a6_2.length = nv8) (hd2 : rest2 = v18.sub.drop k2), LoopAt T Try.prog Try.f29 Fx0 [2] [1, 1, 1, 1, 1, 1, 1, 0, 1, 0, 0, 1, 0, 0, 1, 1, 1, 0] (EP T Try.f29 (.tuple [(.int .i64 r.1), (.int .i64 r.2)])) [(6, .ptr 0 1 0), (8, .arr 0 6 0 nv8 1), (9, .d (.int .i64 v17)), (10, .d (.int .i64 t10_1)), (59, .d (.slice 1 (intDs_i64 v18.sub))), (60, .d (.int .i64 ((intDs_i64 v18.sub).length : Int))), (61, .d (.int .i64 (k2 : Int)))] [[.cells [.d (.slice 3 (YN.Ds a0.types)), .d (.slice 5 (XN.Ds a0.terms))], .cells [.own 0 2 3 (YN.Ds v4.1), .own 0 3 5 (XN.Ds v4.2.1), .map 0 4, .map 0 5], .grow 3 (YN.Ds v4.1).length, .grow 5 (XN.Ds v4.2.1).length, .map (mapD YK.D (D.int .i64) v4.2.2.1), .map (mapD XK.D (D.int .i64) v4.2.2.2), .arr 1 (boolDs a6_2)]]
theorem G_hash_Shared_l0 : (∀ p r, hash_Shared_l0' p = some r → ∀ t9_1 t10_1 a6_1 v4, (t9_1, t10_1, a6_1, v4) = p → M_hash_Shared_l0 t9_1 t10_1 a6_1 v4 r) ∧
    (∀ p r, hash_Shared_l1' p = some r → ∀ rest2 a6_2 t10_1 v4 v17, (rest2, a6_2, t10_1, v4, v17) = p → M_hash_Shared_l1 rest2 a6_2 t10_1 v4 v17 r) := by
  refine hash_Shared_l0'.mutual_partial_correctness (fun (p : (Int × Int × (List Bool) × ((List YN) × (List XN) × (List (YK × Int)) × (List (XK × Int))))) (r : (Int × Int)) => ∀ (t9_1 : Int) (t10_1 : Int) (a6_1 : (List Bool)) (v4 : ((List YN) × (List XN) × (List (YK × Int)) × (List (XK × Int)))), (t9_1, t10_1, a6_1, v4) = p → M_hash_Shared_l0 t9_1 t10_1 a6_1 v4 r) (fun (p : ((List Int) × (List Bool) × Int × ((List YN) × (List XN) × (List (YK × Int)) × (List (XK × Int))) × Int)) (r : (Int × Int)) => ∀ (rest2 : (List Int)) (a6_2 : (List Bool)) (t10_1 : Int) (v4 : ((List YN) × (List XN) × (List (YK × Int)) × (List (XK × Int)))) (v17 : Int), (rest2, a6_2, t10_1, v4, v17) = p → M_hash_Shared_l1 rest2 a6_2 t10_1 v4 v17 r) ?_ ?_
  · intro f_hash_Shared_l0 f_hash_Shared_l1 ih_hash_Shared_l0 ih_hash_Shared_l1 p r e t9_1 t10_1 a6_1 v4 hp
    subst hp
    intro a0 nv8 hla6_1
    refine RunsL.of_awp (js := [2]) T_ok ?_; conv => whnf
    refine ⟨⟨fun h12 => ?_, fun h12 => ?_⟩⟩
    · replace e := ifp h12 e; conv => whnf
      obtain ⟨g14, qg14, e⟩ := bnd e
      obtain ⟨k13, k13a⟩ : ∃ k13 : Nat, t10_1 = k13 := ⟨(t10_1).toNat, by have := wantb_some qg14; omega⟩
      refine ⟨k13, k13a, by have := wantb_some qg14; omega, ?_⟩; simp only [Nat.zero_add]; conv => whnf
      obtain ⟨v15, qv15, e⟩ := bnd e
      obtain ⟨qv15k, qv15a, qv15b⟩ := geti_some qv15
      obtain rfl : k13 = qv15k := by omega
      refine ⟨_, (boolDs_get qv15b), boolDs_fit _ rfl rfl, ?_⟩; conv => whnf
      refine brK.nsplit (fun hb16 => ?_) (fun hb16 => ?_)
      · replace e := ifpb hb16 e; conv => whnf
        obtain ⟨v17, qv17, e⟩ := bnd e
        refine ⟨v17, sm qv17, ?_⟩; conv => whnf
        obtain ⟨v18, qv18, e⟩ := bnd e
        obtain ⟨qv18k, qv18a, qv18b⟩ := geti_some qv18
        refine ⟨qv18k, _, qv18a, (XN.Ds_get qv18b), ?_⟩; conv => whnf
        refine RunsL.runs (RunsL.weak ((ih_hash_Shared_l1 _ _ e _ _ _ _ _ rfl) a0 0 nv8 v18 hla6_1 (by simp)) ?_)
        repeat' first | exact wk.of_eq rfl | exact rfl | exact trivial | refine ⟨?_, ?_⟩
      · replace e := ifnb hb16 e; conv => whnf
        obtain ⟨v17, qv17, e⟩ := bnd e
        refine ⟨v17, sm qv17, ?_⟩; conv => whnf
        refine (RunsL.weak ((ih_hash_Shared_l0 _ _ e _ _ _ _ rfl) a0 nv8 hla6_1) ?_)
        repeat' first | exact wk.of_eq rfl | exact rfl | exact trivial | refine ⟨?_, ?_⟩
    · replace e := ifn h12 e; conv => whnf
      obtain rfl := sm e
      repeat' first | exact rfl | exact trivial | refine ⟨?_, ?_⟩
  · intro f_hash_Shared_l0 f_hash_Shared_l1 ih_hash_Shared_l0 ih_hash_Shared_l1 p r e rest2 a6_2 t10_1 v4 v17 hp
    subst hp
    intro a0 k2 nv8 v18 hla6_2 hd2
    refine RunsL.len_tmp 59 rfl fun hlenk2 => ?_
    refine RunsL.of_awp (js := [2]) T_ok ?_; conv => whnf
    have hls := intDs_i64_len v18.sub
    cases rest2 with
    | nil =>
      have hk := drop_nil hd2
      refine ⟨⟨fun h => absurd h (by omega), fun _ => ?_⟩⟩; conv => whnf
      obtain ⟨v63, qv63, e⟩ := bnd e
      refine ⟨v63, sm qv63, ?_⟩; conv => whnf
      refine (RunsL.weak ((ih_hash_Shared_l0 _ _ e _ _ _ _ rfl) a0 nv8 hla6_2) ?_)
      repeat' first | exact wk.of_eq rfl | exact rfl | exact trivial | refine ⟨?_, ?_⟩
    | cons v62 rest2 =>
      obtain ⟨hxv62, hd2, hltv62⟩ := drop_head hd2
      refine ⟨⟨fun _ => ?_, fun h => absurd (by omega) h⟩⟩; conv => whnf
      refine ⟨k2, _, rfl, intDs_i64_get hxv62, ?_⟩; conv => whnf
      refine ⟨intDs_i64_fit _ rfl rfl, ?_⟩; conv => whnf
      obtain ⟨g64, qg64, e⟩ := bnd e
      obtain ⟨k63, k63a⟩ : ∃ k63 : Nat, v62 = k63 := ⟨(v62).toNat, by have := wantb_some qg64; omega⟩
      refine ⟨k63, k63a, by have := wantb_some qg64; omega, ?_⟩; simp only [Nat.zero_add]; conv => whnf
      obtain ⟨v65, qv65, e⟩ := bnd e
      obtain ⟨qv65k, qv65a, qv65b, qv65c⟩ := seti_some qv65
      obtain rfl : k63 = qv65k := by omega
      have hlv65 : v65.length = nv8 := by rw [qv65c]; simp [hla6_2]
      refine .inl ⟨rfl, (by simpa [XN.Ds_all, YN.Ds_all, boolDs_all, ia, AStore.D, XN.D, YN.D, listAll, hla6_2] using qv65b), boolDs_fit _ rfl rfl, rfl, ?_⟩
      (conv => whnf)
      refine ⟨((k2 + 1 : Nat) : Int), wrap64e (by omega) (by omega) (by omega), ?_⟩; conv => whnf
      refine (RunsL.weak ((ih_hash_Shared_l1 _ _ e _ _ _ _ _ rfl) a0 (k2 + 1) nv8 v18 hlv65 hd2) ?_)
      repeat' first | exact wk.of_eq rfl | exact rfl | exact trivial | refine ⟨?_, ?_⟩ | ((simp [XN.Ds_all, YN.Ds_all, boolDs_all, ia, AStore.D, XN.D, YN.D, listAll, qv65c, hlv65] <;> (repeat' first | rfl | apply And.intro)); done)
theorem P_hash_Shared_l0 {t9_1 : Int} {t10_1 : Int} {a6_1 : (List Bool)} {v4 : ((List YN) × (List XN) × (List (YK × Int)) × (List (XK × Int)))} {r : (Int × Int)} (e : hash_Shared_l0 t9_1 t10_1 a6_1 v4 = some r) : M_hash_Shared_l0 t9_1 t10_1 a6_1 v4 r := G_hash_Shared_l0.1 _ _ e _ _ _ _ rfl
theorem P_hash_Shared_j0c {a1 : Int} {v4 : ((List YN) × (List XN) × (List (YK × Int)) × (List (XK × Int)))} {r : (Int × Int)} (e : hash_Shared_j0c a1 v4 = some r) : ∀ (a0 : AStore), JoinAt T Try.prog Try.f29 Fx0 [2] [1, 1, 0, 0] (EP T Try.f29 (.tuple [(.int .i64 r.1), (.int .i64 r.2)])) [(1, .d (.int .i64 a1)), (6, .ptr 0 1 0), (7, .d (.int .i64 0))] [[.cells [.d (.slice 3 (YN.Ds a0.types)), .d (.slice 5 (XN.Ds a0.terms))], .cells [.own 0 2 3 (YN.Ds v4.1), .own 0 3 5 (XN.Ds v4.2.1), .map 0 4, .map 0 5], .grow 3 (YN.Ds v4.1).length, .grow 5 (XN.Ds v4.2.1).length, .map (mapD YK.D (D.int .i64) v4.2.2.1), .map (mapD XK.D (D.int .i64) v4.2.2.2)]] := by
  unfold hash_Shared_j0c at e
  intro a0
  refine Runs.enter T_ok ?_; conv => whnf
  refine ⟨⟨fun h => absurd h (by decide), fun _ => ?_⟩⟩; conv => whnf
  refine ⟨⟨fun h5 => ?_, fun h5 => ?_⟩⟩
  · replace e := ifp h5 e; conv => whnf
    obtain rfl := sm e
    repeat' first | exact rfl | exact trivial | refine ⟨?_, ?_⟩
  · replace e := ifn h5 e; conv => whnf
    refine ⟨⟨fun h6 => ?_, fun h6 => ?_⟩⟩
    · replace e := ifp h6 e; conv => whnf
      obtain rfl := sm e
      repeat' first | exact rfl | exact trivial | refine ⟨?_, ?_⟩
    · replace e := ifn h6 e; conv => whnf
      obtain ⟨v7, qv7, e⟩ := bnd e
      refine ⟨v7, sm qv7, ?_⟩; conv => whnf
      obtain ⟨v8, qv8, e⟩ := bnd e
      obtain ⟨nv8, qv8a, qv8b, qv8c⟩ := mkn_some qv8
      have hlv8 : v8.length = nv8 := by rw [qv8c]; simp
      refine ⟨nv8, nv8, congrArg (fun z => AV.d (D.int .i64 z)) qv8a, congrArg (fun z => AV.d (D.int .i64 z)) qv8a, Nat.le_refl _, qv8b, .inr (.inl ⟨rfl, ?_⟩)⟩; conv => whnf
      obtain ⟨g10, qg10, e⟩ := bnd e
      obtain ⟨k9, k9a⟩ : ∃ k9 : Nat, a1 = k9 := ⟨(a1).toNat, by have := wantb_some qg10; omega⟩
      refine ⟨k9, k9a, by have := wantb_some qg10; omega, ?_⟩; simp only [Nat.zero_add]; conv => whnf
      obtain ⟨v11, qv11, e⟩ := bnd e
      obtain ⟨qv11k, qv11a, qv11b, qv11c⟩ := seti_some qv11
      obtain rfl : k9 = qv11k := by omega
      have hlv11 : v11.length = nv8 := by rw [qv11c]; simp [hlv8]
      refine .inl ⟨rfl, (by simpa [XN.Ds_all, YN.Ds_all, boolDs_all, ia, AStore.D, XN.D, YN.D, listAll, hlv8] using qv11b), boolDs_fit _ rfl rfl, rfl, ?_⟩
      (conv => whnf)
      refine RunsL.runs (RunsL.weak ((P_hash_Shared_l0 e) a0 nv8 hlv11) ?_)
      repeat' first | exact wk.of_eq rfl | exact rfl | exact trivial | refine ⟨?_, ?_⟩ | ((simp [XN.Ds_all, YN.Ds_all, boolDs_all, ia, AStore.D, XN.D, YN.D, listAll, qv8c, qv11c, hlv11] <;> (repeat' first | rfl | apply And.intro)); done)
theorem P_hash_Shared {a0 : AStore} {a1 : Int} {r : (Int × Int)} (e : hash_Shared a0 a1 = some r) : Pure Try.prog 29 [(AStore.D a0), (.int .i64 a1)] (.tuple [(.int .i64 r.1), (.int .i64 r.2)]) := by
  unfold hash_Shared at e
  refine pure_of_awp (js := [2]) T_ok Try.func29 rfl (by decide +kernel) rfl ?_; conv => whnf
  obtain ⟨v1, qv1, e⟩ := bnd e
  rcases v1 with v2 | v3 | v4
  · refine said_iorF (P_hash_open_io qv1) [] [.d (AStore.D a0)] rfl ⟨wk.pure rfl, trivial⟩ rfl rfl ?_; conv => whnf
    refine Runs.weak ((P_hash_Shared_j0 e) a1) ?_
    repeat' first | exact wk.of_eq rfl | exact rfl | exact trivial | refine ⟨?_, ?_⟩
  · refine said_iorF (P_hash_open_io qv1) [] [.d (AStore.D a0)] rfl ⟨wk.pure rfl, trivial⟩ rfl rfl ?_; conv => whnf
    refine Runs.weak ((P_hash_Shared_j0b e) a1) ?_
    repeat' first | exact wk.of_eq rfl | exact rfl | exact trivial | refine ⟨?_, ?_⟩
  · refine said_iorF (P_hash_open_io qv1) [] [.d (AStore.D a0)] rfl ⟨wk.pure rfl, trivial⟩ rfl rfl ?_; conv => whnf
    refine Runs.weak ((P_hash_Shared_j0c e) a0) ?_
    repeat' first | exact wk.of_eq rfl | exact rfl | exact trivial | refine ⟨?_, ?_⟩
def M_r31_Reached_io (a0 : AStore) (a1 : Int) (a2 : (List Int)) (r : (List Int)) : Prop := IoR Try.prog 63 [.d (AStore.D a0), .d (.int .i64 a1), .own 0 0 1 (intDs_i64 a2)] [.grow 1 (intDs_i64 a2).length] (.own 0 0 1 (intDs_i64 r)) ([.grow 1 (intDs_i64 r).length])
def M_r31_Reached_io_l0 (t7_0 : Int) (a0 : AStore) (a1 : Int) (a2 : (List Int)) (r : (List Int)) : Prop := LoopAt T Try.prog Try.f63 ⟨[], 1⟩ [] [1, 0, 1, 0] (ES T Try.f63 1 (.own 0 0 1 (intDs_i64 r)) ([.grow 1 (intDs_i64 r).length])) [(1, .d (.int .i64 a1)), (2, .own 0 0 1 (intDs_i64 a2)), (3, .ptr 0 1 0), (7, .d (.int .i64 t7_0))] [[.grow 1 (intDs_i64 a2).length, .cells [.d (.slice 3 (YN.Ds a0.types)), .d (.slice 5 (XN.Ds a0.terms))]]]
def M_r31_Reached_io_l1 (t2_1 : (List Int)) (t8_1 : Int) (a0 : AStore) (a1 : Int) (r : (List Int)) : Prop := LoopAt T Try.prog Try.f63 ⟨[], 1⟩ [] [1, 1, 1, 0, 1, 0] (ES T Try.f63 1 (.own 0 0 1 (intDs_i64 r)) ([.grow 1 (intDs_i64 r).length])) [(1, .d (.int .i64 a1)), (2, .own 0 0 1 (intDs_i64 t2_1)), (3, .ptr 0 1 0), (8, .d (.int .i64 t8_1))] [[.grow 1 (intDs_i64 t2_1).length, .cells [.d (.slice 3 (YN.Ds a0.types)), .d (.slice 5 (XN.Ds a0.terms))]]]
theorem G_r31_Reached_io : (∀ p r, r31_Reached_io' p = some r → ∀ a0 a1 a2, (a0, a1, a2) = p → M_r31_Reached_io a0 a1 a2 r) ∧
    (∀ p r, r31_Reached_io_l0' p = some r → ∀ t7_0 a0 a1 a2, (t7_0, a0, a1, a2) = p → M_r31_Reached_io_l0 t7_0 a0 a1 a2 r) ∧
    (∀ p r, r31_Reached_io_l1' p = some r → ∀ t2_1 t8_1 a0 a1, (t2_1, t8_1, a0, a1) = p → M_r31_Reached_io_l1 t2_1 t8_1 a0 a1 r) := by
  refine r31_Reached_io'.mutual_partial_correctness (fun (p : (AStore × Int × (List Int))) (r : (List Int)) => ∀ (a0 : AStore) (a1 : Int) (a2 : (List Int)), (a0, a1, a2) = p → M_r31_Reached_io a0 a1 a2 r) (fun (p : (Int × AStore × Int × (List Int))) (r : (List Int)) => ∀ (t7_0 : Int) (a0 : AStore) (a1 : Int) (a2 : (List Int)), (t7_0, a0, a1, a2) = p → M_r31_Reached_io_l0 t7_0 a0 a1 a2 r) (fun (p : ((List Int) × Int × AStore × Int)) (r : (List Int)) => ∀ (t2_1 : (List Int)) (t8_1 : Int) (a0 : AStore) (a1 : Int), (t2_1, t8_1, a0, a1) = p → M_r31_Reached_io_l1 t2_1 t8_1 a0 a1 r) ?_ ?_ ?_
  · intro f_r31_Reached_io_l0 ih_r31_Reached_io_l0 p r e a0 a1 a2 hp
    subst hp
    refine io_of_awp2 (js := []) T_ok Try.func63 rfl (by decide +kernel) rfl ?_; conv => whnf
    refine RunsL.runs (RunsL.weak (ih_r31_Reached_io_l0 _ _ e _ _ _ _ rfl) ?_)
    repeat' first | exact wk.of_eq rfl | exact rfl | exact trivial | refine ⟨?_, ?_⟩
  · intro f_r31_Reached_io_l0 f_r31_Reached_io_l1 ih_r31_Reached_io_l0 ih_r31_Reached_io_l1 p r e t7_0 a0 a1 a2 hp
    subst hp
    refine RunsL.of_awp (js := []) T_ok ?_; conv => whnf
    refine ⟨⟨fun h8 => ?_, fun h8 => ?_⟩⟩
    · replace e := ifp h8 e; conv => whnf
      obtain ⟨v9, qv9, e⟩ := bnd e
      obtain ⟨qv9k, qv9a, qv9b⟩ := geti_some qv9
      refine ⟨qv9k, _, qv9a, (intDs_i64_get qv9b), ?_⟩; conv => whnf
      refine ⟨intDs_i64_fit _ rfl rfl, ?_⟩; conv => whnf
      refine ⟨⟨fun h10 => ?_, fun h10 => ?_⟩⟩
      · replace e := ifp h10 e; conv => whnf
        obtain rfl := sm e
        refine ⟨[0], ⟨rfl, rfl, rfl⟩, ?_, ⟨⟨_, rfl, ?_⟩, trivial⟩⟩
        repeat' first | exact rfl | refine ⟨?_, ?_⟩
      · replace e := ifn h10 e; conv => whnf
        obtain ⟨v11, qv11, e⟩ := bnd e
        refine ⟨v11, sm qv11, ?_⟩; conv => whnf
        refine (RunsL.weak (ih_r31_Reached_io_l0 _ _ e _ _ _ _ rfl) ?_)
        repeat' first | exact wk.of_eq rfl | exact rfl | exact trivial | refine ⟨?_, ?_⟩
    · replace e := ifn h8 e; conv => whnf
      refine ⟨⟨⟨rfl, rfl⟩, trivial⟩, ?_⟩; conv => whnf
      obtain ⟨v9, qv9, e⟩ := bnd e
      obtain ⟨qv9l, qv9e⟩ := app_some qv9
      refine ⟨(by simpa [XN.Ds_all, YN.Ds_all, ia, AStore.D, XN.D, YN.D, listAll] using qv9l), rfl, (by rfl), ?_⟩; conv => whnf
      refine RunsL.runs (RunsL.weak (ih_r31_Reached_io_l1 _ _ e _ _ _ _ rfl) ?_)
      repeat' first | exact wk.of_eq rfl | exact rfl | exact trivial | refine ⟨?_, ?_⟩ | (refine wk.of_eq ?_; (conv => lhs; whnf); (simp [XN.Ds_all, YN.Ds_all, ia, AStore.D, XN.D, YN.D, listAll, qv9e] <;> (repeat' first | rfl | apply And.intro)); done) | ((simp [XN.Ds_all, YN.Ds_all, ia, AStore.D, XN.D, YN.D, listAll, qv9e] <;> (repeat' first | rfl | apply And.intro)); done)
  · intro f_r31_Reached_io f_r31_Reached_io_l1 ih_r31_Reached_io ih_r31_Reached_io_l1 p r e t2_1 t8_1 a0 a1 hp
    subst hp
    refine RunsL.of_awp (js := []) T_ok ?_; conv => whnf
    obtain ⟨v10, qv10, e⟩ := bnd e
    obtain ⟨qv10k, qv10a, qv10b⟩ := geti_some qv10
    refine ⟨qv10k, _, qv10a, XN.Ds_get qv10b, ?_⟩; conv => whnf
    refine ⟨⟨fun h11 => ?_, fun h11 => ?_⟩⟩
    · replace e := ifp h11 e; conv => whnf
      refine draw_rule [0] T_ok mixed r31_Reached_io_pl10 (by decide +kernel) ?_; conv => whnf
      obtain ⟨v12, qv12, e⟩ := bnd e
      obtain ⟨qv12k, qv12a, qv12b⟩ := geti_some qv12
      refine ⟨qv12k, _, qv12a, XN.Ds_get qv12b, ?_⟩; conv => whnf
      obtain ⟨v13, qv13, e⟩ := bnd e
      obtain ⟨qv13k, qv13a, qv13b⟩ := geti_some qv13
      refine ⟨qv13k, _, qv13a, intDs_i64_get qv13b, ?_⟩; conv => whnf
      refine ⟨intDs_i64_fit _ rfl rfl, ?_⟩; conv => whnf
      obtain ⟨v14, qv14, e⟩ := bnd e
      refine said_iorF (ih_r31_Reached_io _ _ qv14 _ _ _ rfl) [0] [.d (AStore.D a0), .d (.int .i64 v13), .own 0 0 1 (intDs_i64 t2_1)] rfl ⟨wk.pure rfl, wk.pure rfl, wk.refl _, trivial⟩ rfl rfl ⟨(keeps_back rfl), ?_⟩; conv => whnf
      obtain ⟨v15, qv15, e⟩ := bnd e
      refine ⟨v15, sm qv15, ?_⟩; conv => whnf
      refine (RunsL.weak (ih_r31_Reached_io_l1 _ _ e _ _ _ _ rfl) ?_)
      repeat' first | exact wk.of_eq rfl | exact rfl | exact trivial | refine ⟨?_, ?_⟩
    · replace e := ifn h11 e; conv => whnf
      obtain rfl := sm e
      refine ⟨[0], ⟨rfl, rfl, rfl⟩, ?_, ⟨⟨_, rfl, ?_⟩, trivial⟩⟩
      repeat' first | exact rfl | refine ⟨?_, ?_⟩
theorem P_r31_Reached_io {a0 : AStore} {a1 : Int} {a2 : (List Int)} {r : (List Int)} (e : r31_Reached_io a0 a1 a2 = some r) : M_r31_Reached_io a0 a1 a2 r := G_r31_Reached_io.1 _ _ e _ _ _ rfl
end Go.Proofs.Ytpgecpmonaldiaa.Fw

