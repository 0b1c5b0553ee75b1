/- The code computes the functions. -/
import Derived.Test.YtpgecpmonaldiaaGP4
set_option autoImplicit false
set_option linter.unusedVariables false
set_option linter.unusedSimpArgs false
set_option maxHeartbeats 4000000
namespace Go.Proofs.Ytpgecpmonaldiaa.Fw
open Go Go.Proofs Go.RowKit
theorem P_r31_Shared_j0 {t6_0 : Int} {a0 : AStore} {a1 : Int} {r : (Int × Int)} (e : r31_Shared_j0 t6_0 a0 a1 = some r) : JoinAt T Try.prog Try.f30 Fx0 [4] [1, 1, 1, 0, 0] (EP T Try.f30 (.tuple [(.int .i64 r.1), (.int .i64 r.2)])) [(1, .d (.int .i64 a1)), (2, .ptr 0 0 0), (6, .d (.int .i64 t6_0))] [[.cells [.d (.slice 3 (YN.Ds a0.types)), .d (.slice 5 (XN.Ds a0.terms))]]] := by
  unfold r31_Shared_j0 at e
  refine Runs.enter T_ok ?_; conv => whnf
  refine ⟨⟨fun h7 => ?_, fun h7 => ?_⟩⟩
  · replace e := ifp h7 e; conv => whnf
    obtain rfl := sm e
    repeat' first | exact rfl | exact trivial | refine ⟨?_, ?_⟩
  · replace e := ifn h7 e; conv => whnf
    obtain ⟨v8, qv8, e⟩ := bnd e
    refine said_hold 1 ?_
    refine said_iorF (P_r31_Reached_io qv8) [1] [.d (AStore.D a0), .d (.int .i64 a1), .own 0 1 1 (intDs_i64 ([] : List Int))] rfl ⟨wk.pure rfl, wk.pure rfl, wk.hold 0 1 1, trivial⟩ rfl rfl ?_; conv => whnf
    obtain rfl := sm e
    repeat' first | exact rfl | exact trivial | refine ⟨?_, ?_⟩
theorem P_r31_Shared {a0 : AStore} {a1 : Int} {r : (Int × Int)} (e : r31_Shared a0 a1 = some r) : Pure Try.prog 30 [(AStore.D a0), (.int .i64 a1)] (.tuple [(.int .i64 r.1), (.int .i64 r.2)]) := by
  unfold r31_Shared at e
  refine pure_of_awp (js := [4]) T_ok Try.func30 rfl (by decide +kernel) rfl ?_; conv => whnf
  obtain ⟨v1, qv1, e⟩ := bnd e
  refine said_pure (P_r31_Check qv1) rfl ?_; conv => whnf
  refine ⟨⟨fun h2 => ?_, fun h2 => ?_⟩⟩
  · replace e := ifp h2 e; conv => whnf
    refine ⟨⟨fun h3 => ?_, fun h3 => ?_⟩⟩
    · replace e := ifp h3 e; conv => whnf
      refine Runs.weak (P_r31_Shared_j0 e) ?_
      repeat' first | exact wk.of_eq rfl | exact rfl | exact trivial | refine ⟨?_, ?_⟩
    · replace e := ifn h3 e; conv => whnf
      refine ⟨⟨fun h4 => ?_, fun h4 => ?_⟩⟩
      · replace e := ifp h4 e; conv => whnf
        refine Runs.weak (P_r31_Shared_j0 e) ?_
        repeat' first | exact wk.of_eq rfl | exact rfl | exact trivial | refine ⟨?_, ?_⟩
      · replace e := ifn h4 e; conv => whnf
        refine Runs.weak (P_r31_Shared_j0 e) ?_
        repeat' first | exact wk.of_eq rfl | exact rfl | exact trivial | refine ⟨?_, ?_⟩
  · replace e := ifn h2 e; conv => whnf
    refine Runs.weak (P_r31_Shared_j0 e) ?_
    repeat' first | exact wk.of_eq rfl | exact rfl | exact trivial | refine ⟨?_, ?_⟩
theorem P_hash_Check {a0 : AStore} {r : Int} (e : hash_Check a0 = some r) : Pure Try.prog 31 [(AStore.D a0)] (.int .i64 r) := by
  unfold hash_Check at e
  refine pure_of_awp (js := []) T_ok Try.func31 rfl (by decide +kernel) rfl ?_; conv => whnf
  obtain ⟨v1, qv1, e⟩ := bnd e
  rcases v1 with v2 | v3 | v4
  · refine said_iorF (P_hash_open_io qv1) [] [.d (AStore.D a0)] rfl ⟨wk.pure rfl, trivial⟩ rfl rfl ?_; conv => whnf
    obtain rfl := sm e
    exact rfl
  · refine said_iorF (P_hash_open_io qv1) [] [.d (AStore.D a0)] rfl ⟨wk.pure rfl, trivial⟩ rfl rfl ?_; conv => whnf
    obtain rfl := sm e
    exact rfl
  · refine said_iorF (P_hash_open_io qv1) [] [.d (AStore.D a0)] rfl ⟨wk.pure rfl, trivial⟩ rfl rfl ?_; conv => whnf
    obtain rfl := sm e
    exact rfl
def M_r02_Exact (a0 : Tm) (a1 : Tm) (r : Bool) : Prop := Pure Try.prog 34 [(Tm.D a0), (Tm.D a1)] (.bool r)
def M_r02_Exact_l0 (rest0 : (List Tm)) (k0 : Nat) (a1 : Tm) (r : Bool) : Prop := ∀ (a0 : Tm) (hd0 : rest0 = a0.sub.drop k0), LoopAt T Try.prog Try.f34 Fx0 [] [1, 1, 0, 1, 0] (EP T Try.f34 (.bool r)) [(2, .ptr 0 0 0), (3, .ptr 0 1 0), (5, .d (.int .i64 (k0 : Int)))] [[.cells [.d (.int .u8 a0.kind), .d (.str a0.name), .d (.bool a0.ty.v), .d (.str a0.ty.name), .d (.slice 3 (Ty.Ds a0.ty.args)), .d (.int .i64 a0.index), .d (.slice 7 (Tm.Ds a0.sub))], .cells [.d (.int .u8 a1.kind), .d (.str a1.name), .d (.bool a1.ty.v), .d (.str a1.ty.name), .d (.slice 3 (Ty.Ds a1.ty.args)), .d (.int .i64 a1.index), .d (.slice 7 (Tm.Ds a1.sub))]]]
theorem G_r02_Exact : (∀ p r, r02_Exact' p = some r → ∀ a0 a1, (a0, a1) = p → M_r02_Exact a0 a1 r) ∧
    (∀ p r, r02_Exact_l0' p = some r → ∀ rest0 k0 a1, (rest0, k0, a1) = p → M_r02_Exact_l0 rest0 k0 a1 r) := by
  refine r02_Exact'.mutual_partial_correctness (fun (p : (Tm × Tm)) (r : Bool) => ∀ (a0 : Tm) (a1 : Tm), (a0, a1) = p → M_r02_Exact a0 a1 r) (fun (p : ((List Tm) × Nat × Tm)) (r : Bool) => ∀ (rest0 : (List Tm)) (k0 : Nat) (a1 : Tm), (rest0, k0, a1) = p → M_r02_Exact_l0 rest0 k0 a1 r) ?_ ?_
  · intro f_r02_Exact_l0 ih_r02_Exact_l0 p r e a0 a1 hp
    subst hp
    refine pure_of_awp (js := []) T_ok Try.func34 rfl (by decide +kernel) rfl ?_; conv => whnf
    refine ⟨⟨fun h1 => ?_, fun h1 => ?_⟩⟩
    · replace e := ifp h1 e; conv => whnf
      obtain rfl := sm e
      exact rfl
    · replace e := ifn h1 e; conv => whnf
      refine ⟨⟨fun h2 => ?_, fun h2 => ?_⟩⟩
      · replace e := ifp h2 e; conv => whnf
        obtain rfl := sm e
        exact rfl
      · replace e := ifn h2 e; conv => whnf
        obtain ⟨v3, qv3, e⟩ := bnd e
        refine said_pure (P_r01_Same qv3) rfl ?_; conv => whnf
        refine brK.nsplit (fun hb4 => ?_) (fun hb4 => ?_)
        · replace e := ifpb hb4 e; conv => whnf
          refine brK.ntt hb4 ?_; conv => whnf
          refine brK.ntt hb4 ?_; conv => whnf
          refine brK.ntt hb4 ?_; conv => whnf
          refine brK.ntt hb4 ?_; conv => whnf
          refine ⟨⟨fun h5 => ?_, fun h5 => ?_⟩⟩
          · replace e := ifp h5 e; conv => whnf
            refine brK.ntt hb4 ?_; conv => whnf
            obtain rfl := sm e
            exact rfl
          · replace e := ifn h5 e; conv => whnf
            refine brK.ntt hb4 ?_; conv => whnf
            refine ⟨⟨fun h6 => ?_, fun h6 => ?_⟩⟩
            · replace e := ifp h6 e; conv => whnf
              obtain rfl := sm e
              exact rfl
            · replace e := ifn h6 e; conv => whnf
              refine RunsL.runs (RunsL.weak ((ih_r02_Exact_l0 _ _ e _ _ _ rfl) a0 (by simp)) ?_)
              repeat' first | exact wk.of_eq rfl | exact rfl | exact trivial | refine ⟨?_, ?_⟩
        · replace e := ifnb hb4 e; conv => whnf
          refine brK.nff hb4 ?_; conv => whnf
          refine brK.nff hb4 ?_; conv => whnf
          refine brK.nff hb4 ?_; conv => whnf
          refine brK.nff hb4 ?_; conv => whnf
          refine brK.nff hb4 ?_; conv => whnf
          obtain rfl := sm e
          exact rfl
  · intro f_r02_Exact f_r02_Exact_l0 ih_r02_Exact ih_r02_Exact_l0 p r e rest0 k0 a1 hp
    subst hp
    intro a0 hd0
    refine RunsL.len_cell 0 6 rfl rfl rfl fun hlenk0 => ?_
    refine RunsL.of_awp (js := []) T_ok ?_; conv => whnf
    have hls := Tm.Ds_len a0.sub
    cases rest0 with
    | nil =>
      have hk := drop_nil hd0
      refine ⟨⟨fun h => absurd h (by omega), fun _ => ?_⟩⟩; conv => whnf
      obtain rfl := sm e
      exact rfl
    | cons v6 rest0 =>
      obtain ⟨hxv6, hd0, hltv6⟩ := drop_head hd0
      refine ⟨⟨fun _ => ?_, fun h => absurd (by omega) h⟩⟩; conv => whnf
      refine draw_rule [] T_ok mixed r02_Exact_pl6 (by decide +kernel) ?_; conv => whnf
      refine ⟨k0, _, rfl, Tm.Ds_get hxv6, ?_⟩; conv => whnf
      refine ⟨Tm.Ds_fit _ rfl rfl, ?_⟩; conv => whnf
      obtain ⟨v7, qv7, e⟩ := bnd e
      obtain ⟨qv7k, qv7a, qv7b⟩ := geti_some qv7
      refine ⟨qv7k, _, qv7a, Tm.Ds_get qv7b, ?_⟩; conv => whnf
      refine ⟨Tm.Ds_fit _ rfl rfl, ?_⟩; conv => whnf
      obtain ⟨v8, qv8, e⟩ := bnd e
      refine said_pure (ih_r02_Exact _ _ qv8 _ _ rfl) rfl ⟨Keeps.refl _ _, ?_⟩; conv => whnf
      refine brK.nsplit (fun hb9 => ?_) (fun hb9 => ?_)
      · replace e := ifpb hb9 e; conv => whnf
        refine ⟨((k0 + 1 : Nat) : Int), wrap64e (by omega) (by omega) (by omega), ?_⟩; conv => whnf
        refine (RunsL.weak ((ih_r02_Exact_l0 _ _ e _ _ _ rfl) a0 hd0) ?_)
        repeat' first | exact wk.of_eq rfl | exact rfl | exact trivial | refine ⟨?_, ?_⟩
      · replace e := ifnb hb9 e; conv => whnf
        obtain rfl := sm e
        exact rfl
theorem P_r02_Exact {a0 : Tm} {a1 : Tm} {r : Bool} (e : r02_Exact a0 a1 = some r) : M_r02_Exact a0 a1 r := G_r02_Exact.1 _ _ e _ _ rfl
def M_hash_Twin_ar_l1 (rest1 : (List XN)) (c2_1_1 : (List XN)) (c2_0_0 : (List YN)) (r : ((List YN) × (List XN))) : Prop := ∀ (a0 : AStore) (k1 : Nat) (hd1 : rest1 = a0.terms.drop k1), LoopAt T2 Try.prog Try.f35 ⟨[], 0⟩ [8] [1, 1, 1, 0, 1, 0] (ES T2 Try.f35 0 (.agg [.arr 0 0 0 (YN.Ds r.1).length 3, .arr 0 1 0 (XN.Ds r.2).length 5]) ([.arr 3 (YN.Ds r.1), .arr 5 (XN.Ds r.2)])) [(2, .ptr 0 1 0), (3, .ptr 0 2 0), (27, .d (.slice 5 (XN.Ds a0.terms))), (28, .d (.int .i64 ((XN.Ds a0.terms).length : Int))), (29, .d (.int .i64 (k1 : Int)))] [[.cells [.d (.slice 3 (YN.Ds a0.types)), .d (.slice 5 (XN.Ds a0.terms))], .cells [.nil 3, .nil 5], .cells [.garr 0 3 (YN.Ds c2_0_0).length 3, .garr 0 4 (XN.Ds c2_1_1).length 5], .garr 3 (YN.Ds c2_0_0), .garr 5 (XN.Ds c2_1_1)]]
theorem G_hash_Twin_ar_l1 : (∀ p r, hash_Twin_ar_l1' p = some r → ∀ rest1 c2_1_1 c2_0_0, (rest1, c2_1_1, c2_0_0) = p → M_hash_Twin_ar_l1 rest1 c2_1_1 c2_0_0 r) := by
  refine hash_Twin_ar_l1'.partial_correctness (fun (p : ((List XN) × (List XN) × (List YN))) (r : ((List YN) × (List XN))) => ∀ (rest1 : (List XN)) (c2_1_1 : (List XN)) (c2_0_0 : (List YN)), (rest1, c2_1_1, c2_0_0) = p → M_hash_Twin_ar_l1 rest1 c2_1_1 c2_0_0 r) ?_
  · intro f_hash_Twin_ar_l1 ih_hash_Twin_ar_l1 p r e rest1 c2_1_1 c2_0_0 hp
    subst hp
    intro a0 k1 hd1
    refine RunsL.len_tmp 27 rfl fun hlenk1 => ?_
    refine RunsL.of_awp (js := [8]) T2_ok ?_; conv => whnf
    have hls := XN.Ds_len a0.terms
    cases rest1 with
    | nil =>
      have hk := drop_nil hd1
      refine ⟨⟨fun h => absurd h (by omega), fun _ => ?_⟩⟩; conv => whnf
      obtain rfl := sm e
      refine ⟨[3, 4], ⟨rfl, rfl, rfl⟩, ?_, ⟨⟨_, rfl, ?_⟩, ⟨_, rfl, ?_⟩, trivial⟩⟩
      repeat' first | exact rfl | exact trivial | exact ⟨_, rfl, (by first | rfl | simp [XN.Ds_all, YN.Ds_all, ia, AStore.D, XN.D, YN.D, listAll])⟩ | refine ⟨?_, ?_⟩
    | cons v30 rest1 =>
      obtain ⟨hxv30, hd1, hltv30⟩ := drop_head hd1
      refine ⟨⟨fun _ => ?_, fun h => absurd (by omega) h⟩⟩; conv => whnf
      refine ⟨k1, _, rfl, XN.Ds_get hxv30, ?_⟩; conv => whnf
      refine ⟨XN.Ds_fit _ rfl rfl, ?_⟩; conv => whnf
      obtain ⟨v31, qv31, e⟩ := bnd e
      refine said_pure (P_slices_Clone_int_int qv31) rfl ?_; conv => whnf
      refine ⟨⟨⟨rfl, rfl⟩, trivial⟩, ?_⟩; conv => whnf
      obtain ⟨v32, qv32, e⟩ := bnd e
      obtain ⟨qv32l, qv32e⟩ := app_some qv32
      refine ⟨(by simpa [XN.Ds_all, YN.Ds_all, ia, AStore.D, XN.D, YN.D, listAll] using qv32l), rfl, (by rfl), ?_⟩; conv => whnf
      refine ⟨((k1 + 1 : Nat) : Int), wrap64e (by omega) (by omega) (by omega), ?_⟩; conv => whnf
      refine (RunsL.weak ((ih_hash_Twin_ar_l1 _ _ e _ _ _ rfl) a0 (k1 + 1) hd1) ?_)
      repeat' first | exact wk.of_eq rfl | exact rfl | exact trivial | refine ⟨?_, ?_⟩ | (refine wk.of_eq ?_; (conv => lhs; whnf); (simp [XN.Ds_all, YN.Ds_all, ia, AStore.D, XN.D, YN.D, listAll, qv32e] <;> (repeat' first | rfl | apply And.intro)); done) | ((simp [XN.Ds_all, YN.Ds_all, ia, AStore.D, XN.D, YN.D, listAll, qv32e] <;> (repeat' first | rfl | apply And.intro)); done)
theorem P_hash_Twin_ar_l1 {rest1 : (List XN)} {c2_1_1 : (List XN)} {c2_0_0 : (List YN)} {r : ((List YN) × (List XN))} (e : hash_Twin_ar_l1 rest1 c2_1_1 c2_0_0 = some r) : M_hash_Twin_ar_l1 rest1 c2_1_1 c2_0_0 r := G_hash_Twin_ar_l1 _ _ e _ _ _ rfl
theorem P_hash_Twin_ar_j0 {a0 : AStore} {c2_0_0 : (List YN)} {r : ((List YN) × (List XN))} (e : hash_Twin_ar_j0 a0 c2_0_0 = some r) : JoinAt T2 Try.prog Try.f35 ⟨[], 0⟩ [8] [1, 1, 1, 0, 0] (ES T2 Try.f35 0 (.agg [.arr 0 0 0 (YN.Ds r.1).length 3, .arr 0 1 0 (XN.Ds r.2).length 5]) ([.arr 3 (YN.Ds r.1), .arr 5 (XN.Ds r.2)])) [(1, .ptr 0 0 0), (2, .ptr 0 1 0), (3, .ptr 0 2 0)] [[.cells [.d (.slice 3 (YN.Ds a0.types)), .d (.slice 5 (XN.Ds a0.terms))], .cells [.nil 3, .nil 5], .cells [.garr 0 3 (YN.Ds c2_0_0).length 3, .nil 5], .garr 3 (YN.Ds c2_0_0)]] := by
  unfold hash_Twin_ar_j0 at e
  refine Runs.enter T2_ok ?_; conv => whnf
  refine Runs.holdG 5 ?_
  refine RunsL.runs (RunsL.weak ((P_hash_Twin_ar_l1 e) a0 0 (by simp)) ?_)
  repeat' first | exact wk.of_eq rfl | exact wk.holdG _ _ _ | exact rfl | exact trivial | refine ⟨?_, ?_⟩
def M_hash_Twin_ar_l0 (rest0 : (List YN)) (c2_0_0 : (List YN)) (a0 : AStore) (r : ((List YN) × (List XN))) : Prop := ∀ (k0 : Nat) (hd0 : rest0 = a0.types.drop k0), LoopAt T2 Try.prog Try.f35 ⟨[], 0⟩ [8] [1, 1, 0, 1, 0] (ES T2 Try.f35 0 (.agg [.arr 0 0 0 (YN.Ds r.1).length 3, .arr 0 1 0 (XN.Ds r.2).length 5]) ([.arr 3 (YN.Ds r.1), .arr 5 (XN.Ds r.2)])) [(1, .ptr 0 0 0), (2, .ptr 0 1 0), (3, .ptr 0 2 0), (9, .d (.slice 3 (YN.Ds a0.types))), (10, .d (.int .i64 ((YN.Ds a0.types).length : Int))), (11, .d (.int .i64 (k0 : Int)))] [[.cells [.d (.slice 3 (YN.Ds a0.types)), .d (.slice 5 (XN.Ds a0.terms))], .cells [.nil 3, .nil 5], .cells [.garr 0 3 (YN.Ds c2_0_0).length 3, .nil 5], .garr 3 (YN.Ds c2_0_0)]]
theorem G_hash_Twin_ar_l0 : (∀ p r, hash_Twin_ar_l0' p = some r → ∀ rest0 c2_0_0 a0, (rest0, c2_0_0, a0) = p → M_hash_Twin_ar_l0 rest0 c2_0_0 a0 r) := by
  refine hash_Twin_ar_l0'.partial_correctness (fun (p : ((List YN) × (List YN) × AStore)) (r : ((List YN) × (List XN))) => ∀ (rest0 : (List YN)) (c2_0_0 : (List YN)) (a0 : AStore), (rest0, c2_0_0, a0) = p → M_hash_Twin_ar_l0 rest0 c2_0_0 a0 r) ?_
  · intro f_hash_Twin_ar_l0 ih_hash_Twin_ar_l0 p r e rest0 c2_0_0 a0 hp
    subst hp
    intro k0 hd0
    refine RunsL.len_tmp 9 rfl fun hlenk0 => ?_
    refine RunsL.of_awp (js := [8]) T2_ok ?_; conv => whnf
    have hls := YN.Ds_len a0.types
    cases rest0 with
    | nil =>
      have hk := drop_nil hd0
      refine ⟨⟨fun h => absurd h (by omega), fun _ => ?_⟩⟩; conv => whnf
      refine Runs.weak (P_hash_Twin_ar_j0 e) ?_
      repeat' first | exact wk.of_eq rfl | exact rfl | exact trivial | refine ⟨?_, ?_⟩
    | cons v12 rest0 =>
      obtain ⟨hxv12, hd0, hltv12⟩ := drop_head hd0
      refine ⟨⟨fun _ => ?_, fun h => absurd (by omega) h⟩⟩; conv => whnf
      refine ⟨k0, _, rfl, YN.Ds_get hxv12, ?_⟩; conv => whnf
      refine ⟨YN.Ds_fit _ rfl rfl, ?_⟩; conv => whnf
      obtain ⟨v13, qv13, e⟩ := bnd e
      refine said_pure (P_slices_Clone_int_int qv13) rfl ?_; conv => whnf
      refine ⟨⟨⟨rfl, rfl⟩, trivial⟩, ?_⟩; conv => whnf
      obtain ⟨v14, qv14, e⟩ := bnd e
      obtain ⟨qv14l, qv14e⟩ := app_some qv14
      refine ⟨(by simpa [XN.Ds_all, YN.Ds_all, ia, AStore.D, XN.D, YN.D, listAll] using qv14l), rfl, (by rfl), ?_⟩; conv => whnf
      refine ⟨((k0 + 1 : Nat) : Int), wrap64e (by omega) (by omega) (by omega), ?_⟩; conv => whnf
      refine (RunsL.weak ((ih_hash_Twin_ar_l0 _ _ e _ _ _ rfl) (k0 + 1) hd0) ?_)
      repeat' first | exact wk.of_eq rfl | exact rfl | exact trivial | refine ⟨?_, ?_⟩ | (refine wk.of_eq ?_; (conv => lhs; whnf); (simp [XN.Ds_all, YN.Ds_all, ia, AStore.D, XN.D, YN.D, listAll, qv14e] <;> (repeat' first | rfl | apply And.intro)); done) | ((simp [XN.Ds_all, YN.Ds_all, ia, AStore.D, XN.D, YN.D, listAll, qv14e] <;> (repeat' first | rfl | apply And.intro)); done)
theorem P_hash_Twin_ar_l0 {rest0 : (List YN)} {c2_0_0 : (List YN)} {a0 : AStore} {r : ((List YN) × (List XN))} (e : hash_Twin_ar_l0 rest0 c2_0_0 a0 = some r) : M_hash_Twin_ar_l0 rest0 c2_0_0 a0 r := G_hash_Twin_ar_l0 _ _ e _ _ _ rfl
theorem P_hash_Twin_ar {a0 : AStore} {r : ((List YN) × (List XN))} (e : hash_Twin_ar a0 = some r) : IoR Try.prog 35 [.d (AStore.D a0)] [] (.agg [.arr 0 0 0 (YN.Ds r.1).length 3, .arr 0 1 0 (XN.Ds r.2).length 5]) ([.arr 3 (YN.Ds r.1), .arr 5 (XN.Ds r.2)]) := by
  unfold hash_Twin_ar at e
  refine io_of_awp2 (js := [8]) T2_ok Try.func35 rfl (by decide +kernel) rfl ?_; conv => whnf
  refine Runs.holdG 3 ?_
  refine RunsL.runs (RunsL.weak ((P_hash_Twin_ar_l0 e) 0 (by simp)) ?_)
  repeat' first | exact wk.of_eq rfl | exact wk.holdG _ _ _ | exact rfl | exact trivial | refine ⟨?_, ?_⟩
def M_r31_Same_l1 (rest1 : (List XN)) (k1 : Nat) (a1 : AStore) (r : Bool) : Prop := ∀ (a0 : AStore) (hd1 : rest1 = a0.terms.drop k1), LoopAt T Try.prog Try.f17 Fx0 [] [1, 1, 1, 0, 1, 0] (EP T Try.f17 (.bool r)) [(2, .ptr 0 0 0), (3, .ptr 0 1 0), (6, .d (.int .i64 (k1 : Int)))] [[.cells [.d (.slice 3 (YN.Ds a0.types)), .d (.slice 5 (XN.Ds a0.terms))], .cells [.d (.slice 3 (YN.Ds a1.types)), .d (.slice 5 (XN.Ds a1.terms))]]]
theorem G_r31_Same_l1 : (∀ p r, r31_Same_l1' p = some r → ∀ rest1 k1 a1, (rest1, k1, a1) = p → M_r31_Same_l1 rest1 k1 a1 r) := by
  refine r31_Same_l1'.partial_correctness (fun (p : ((List XN) × Nat × AStore)) (r : Bool) => ∀ (rest1 : (List XN)) (k1 : Nat) (a1 : AStore), (rest1, k1, a1) = p → M_r31_Same_l1 rest1 k1 a1 r) ?_
  · intro f_r31_Same_l1 ih_r31_Same_l1 p r e rest1 k1 a1 hp
    subst hp
    intro a0 hd1
    refine RunsL.len_cell 0 1 rfl rfl rfl fun hlenk1 => ?_
    refine RunsL.of_awp (js := []) T_ok ?_; conv => whnf
    have hls := XN.Ds_len a0.terms
    cases rest1 with
    | nil =>
      have hk := drop_nil hd1
      refine ⟨⟨fun h => absurd h (by omega), fun _ => ?_⟩⟩; conv => whnf
      obtain rfl := sm e
      exact rfl
    | cons v7 rest1 =>
      obtain ⟨hxv7, hd1, hltv7⟩ := drop_head hd1
      refine ⟨⟨fun _ => ?_, fun h => absurd (by omega) h⟩⟩; conv => whnf
      refine draw_rule [] T_ok mixed r31_Same_pl11 (by decide +kernel) ?_; conv => whnf
      refine ⟨k1, _, rfl, XN.Ds_get hxv7, ?_⟩; conv => whnf
      refine ⟨XN.Ds_fit _ rfl rfl, ?_⟩; conv => whnf
      obtain ⟨v8, qv8, e⟩ := bnd e
      obtain ⟨qv8k, qv8a, qv8b⟩ := geti_some qv8
      refine ⟨qv8k, _, qv8a, XN.Ds_get qv8b, ?_⟩; conv => whnf
      refine ⟨XN.Ds_fit _ rfl rfl, ?_⟩; conv => whnf
      obtain ⟨v9, qv9, e⟩ := bnd e
      refine said_pure (P_r31_sameTerm qv9) rfl ⟨Keeps.refl _ _, ?_⟩; conv => whnf
      refine brK.nsplit (fun hb10 => ?_) (fun hb10 => ?_)
      · replace e := ifpb hb10 e; conv => whnf
        refine brK.ntt hb10 ?_; conv => whnf
        refine brK.ntt hb10 ?_; conv => whnf
        refine brK.ntt hb10 ?_; conv => whnf
        refine ⟨k1, _, rfl, XN.Ds_get hxv7, ?_⟩; conv => whnf
        refine brK.ntt hb10 ?_; conv => whnf
        refine brK.ntt hb10 ?_; conv => whnf
        refine brK.ntt hb10 ?_; conv => whnf
        refine brK.ntt hb10 ?_; conv => whnf
        refine brK.ntt hb10 ?_; conv => whnf
        refine brK.ntt hb10 ?_; conv => whnf
        obtain ⟨v11, qv11, e⟩ := bnd e
        obtain ⟨qv11k, qv11a, qv11b⟩ := geti_some qv11
        refine ⟨qv11k, _, qv11a, XN.Ds_get qv11b, ?_⟩; conv => whnf
        refine brK.ntt hb10 ?_; conv => whnf
        refine brK.ntt hb10 ?_; conv => whnf
        refine brK.ntt hb10 ?_; conv => whnf
        refine ⟨⟨fun h12 => ?_, fun h12 => ?_⟩⟩
        · replace e := ifp h12 e; conv => whnf
          refine brK.ntt hb10 ?_; conv => whnf
          obtain rfl := sm e
          exact rfl
        · replace e := ifn h12 e; conv => whnf
          refine brK.ntt hb10 ?_; conv => whnf
          refine ⟨((k1 + 1 : Nat) : Int), wrap64e (by omega) (by omega) (by omega), ?_⟩; conv => whnf
          refine (RunsL.weak ((ih_r31_Same_l1 _ _ e _ _ _ rfl) a0 hd1) ?_)
          repeat' first | exact wk.of_eq rfl | exact rfl | exact trivial | refine ⟨?_, ?_⟩
      · replace e := ifnb hb10 e; conv => whnf
        refine brK.nff hb10 ?_; conv => whnf
        refine brK.nff hb10 ?_; conv => whnf
        refine brK.nff hb10 ?_; conv => whnf
        refine brK.nff hb10 ?_; conv => whnf
        refine brK.nff hb10 ?_; conv => whnf
        refine brK.nff hb10 ?_; conv => whnf
        refine brK.nff hb10 ?_; conv => whnf
        refine brK.nff hb10 ?_; conv => whnf
        refine brK.nff hb10 ?_; conv => whnf
        refine brK.nff hb10 ?_; conv => whnf
        refine brK.nff hb10 ?_; conv => whnf
        refine brK.nff hb10 ?_; conv => whnf
        refine brK.nff hb10 ?_; conv => whnf
        obtain rfl := sm e
        exact rfl
theorem P_r31_Same_l1 {rest1 : (List XN)} {k1 : Nat} {a1 : AStore} {r : Bool} (e : r31_Same_l1 rest1 k1 a1 = some r) : M_r31_Same_l1 rest1 k1 a1 r := G_r31_Same_l1 _ _ e _ _ _ rfl
def M_r31_Same_l0 (rest0 : (List YN)) (k0 : Nat) (a0 : AStore) (a1 : AStore) (r : Bool) : Prop := ∀ (hd0 : rest0 = a0.types.drop k0), LoopAt T Try.prog Try.f17 Fx0 [] [1, 1, 0, 1, 0] (EP T Try.f17 (.bool r)) [(2, .ptr 0 0 0), (3, .ptr 0 1 0), (5, .d (.int .i64 (k0 : Int)))] [[.cells [.d (.slice 3 (YN.Ds a0.types)), .d (.slice 5 (XN.Ds a0.terms))], .cells [.d (.slice 3 (YN.Ds a1.types)), .d (.slice 5 (XN.Ds a1.terms))]]]
theorem G_r31_Same_l0 : (∀ p r, r31_Same_l0' p = some r → ∀ rest0 k0 a0 a1, (rest0, k0, a0, a1) = p → M_r31_Same_l0 rest0 k0 a0 a1 r) := by
  refine r31_Same_l0'.partial_correctness (fun (p : ((List YN) × Nat × AStore × AStore)) (r : Bool) => ∀ (rest0 : (List YN)) (k0 : Nat) (a0 : AStore) (a1 : AStore), (rest0, k0, a0, a1) = p → M_r31_Same_l0 rest0 k0 a0 a1 r) ?_
  · intro f_r31_Same_l0 ih_r31_Same_l0 p r e rest0 k0 a0 a1 hp
    subst hp
    intro hd0
    refine RunsL.len_cell 0 0 rfl rfl rfl fun hlenk0 => ?_
    refine RunsL.of_awp (js := []) T_ok ?_; conv => whnf
    have hls := YN.Ds_len a0.types
    cases rest0 with
    | nil =>
      have hk := drop_nil hd0
      refine ⟨⟨fun h => absurd h (by omega), fun _ => ?_⟩⟩; conv => whnf
      refine RunsL.runs (RunsL.weak ((P_r31_Same_l1 e) a0 (by simp)) ?_)
      repeat' first | exact wk.of_eq rfl | exact rfl | exact trivial | refine ⟨?_, ?_⟩
    | cons v6 rest0 =>
      obtain ⟨hxv6, hd0, hltv6⟩ := drop_head hd0
      refine ⟨⟨fun _ => ?_, fun h => absurd (by omega) h⟩⟩; conv => whnf
      refine draw_rule [] T_ok mixed r31_Same_pl6 (by decide +kernel) ?_; conv => whnf
      refine ⟨k0, _, rfl, YN.Ds_get hxv6, ?_⟩; conv => whnf
      refine ⟨YN.Ds_fit _ rfl rfl, ?_⟩; conv => whnf
      obtain ⟨v7, qv7, e⟩ := bnd e
      obtain ⟨qv7k, qv7a, qv7b⟩ := geti_some qv7
      refine ⟨qv7k, _, qv7a, YN.Ds_get qv7b, ?_⟩; conv => whnf
      refine ⟨YN.Ds_fit _ rfl rfl, ?_⟩; conv => whnf
      obtain ⟨v8, qv8, e⟩ := bnd e
      refine said_pure (P_r31_sameType qv8) rfl ⟨Keeps.refl _ _, ?_⟩; conv => whnf
      refine brK.nsplit (fun hb9 => ?_) (fun hb9 => ?_)
      · replace e := ifpb hb9 e; conv => whnf
        refine ⟨((k0 + 1 : Nat) : Int), wrap64e (by omega) (by omega) (by omega), ?_⟩; conv => whnf
        refine (RunsL.weak ((ih_r31_Same_l0 _ _ e _ _ _ _ rfl) hd0) ?_)
        repeat' first | exact wk.of_eq rfl | exact rfl | exact trivial | refine ⟨?_, ?_⟩
      · replace e := ifnb hb9 e; conv => whnf
        obtain rfl := sm e
        exact rfl
theorem P_r31_Same_l0 {rest0 : (List YN)} {k0 : Nat} {a0 : AStore} {a1 : AStore} {r : Bool} (e : r31_Same_l0 rest0 k0 a0 a1 = some r) : M_r31_Same_l0 rest0 k0 a0 a1 r := G_r31_Same_l0 _ _ e _ _ _ _ rfl
theorem P_r31_Same {a0 : AStore} {a1 : AStore} {r : Bool} (e : r31_Same a0 a1 = some r) : Pure Try.prog 17 [(AStore.D a0), (AStore.D a1)] (.bool r) := by
  unfold r31_Same at e
  refine pure_of_awp (js := []) T_ok Try.func17 rfl (by decide +kernel) rfl ?_; conv => whnf
  refine ⟨⟨fun h1 => ?_, fun h1 => ?_⟩⟩
  · replace e := ifp h1 e; conv => whnf
    obtain rfl := sm e
    exact rfl
  · replace e := ifn h1 e; conv => whnf
    refine ⟨⟨fun h2 => ?_, fun h2 => ?_⟩⟩
    · replace e := ifp h2 e; conv => whnf
      obtain rfl := sm e
      exact rfl
    · replace e := ifn h2 e; conv => whnf
      refine RunsL.runs (RunsL.weak ((P_r31_Same_l0 e) (by simp)) ?_)
      repeat' first | exact wk.of_eq rfl | exact rfl | exact trivial | refine ⟨?_, ?_⟩
def M_slices_Equal_int_int_l0 (rest0 : (List Int)) (k0 : Nat) (a1 : (List Int)) (r : Bool) : Prop := ∀ (a0 : (List Int)) (hd0 : rest0 = a0.drop k0), LoopAt T Try.prog Try.f69 Fx0 [] [1, 1, 0, 1, 0] (EP T Try.f69 (.bool r)) [(0, .d (.slice 1 (intDs_i64 a0))), (1, .d (.slice 1 (intDs_i64 a1))), (12, .d (.int .i64 ((intDs_i64 a0).length : Int))), (13, .d (.int .i64 (k0 : Int)))] [[]]
theorem G_slices_Equal_int_int_l0 : (∀ p r, slices_Equal_int_int_l0' p = some r → ∀ rest0 k0 a1, (rest0, k0, a1) = p → M_slices_Equal_int_int_l0 rest0 k0 a1 r) := by
  refine slices_Equal_int_int_l0'.partial_correctness (fun (p : ((List Int) × Nat × (List Int))) (r : Bool) => ∀ (rest0 : (List Int)) (k0 : Nat) (a1 : (List Int)), (rest0, k0, a1) = p → M_slices_Equal_int_int_l0 rest0 k0 a1 r) ?_
  · intro f_slices_Equal_int_int_l0 ih_slices_Equal_int_int_l0 p r e rest0 k0 a1 hp
    subst hp
    intro a0 hd0
    refine RunsL.len_tmp 0 rfl fun hlenk0 => ?_
    refine RunsL.of_awp (js := []) T_ok ?_; conv => whnf
    have hls := intDs_i64_len a0
    cases rest0 with
    | nil =>
      have hk := drop_nil hd0
      refine ⟨⟨fun h => absurd h (by omega), fun _ => ?_⟩⟩; conv => whnf
      obtain rfl := sm e
      exact rfl
    | cons v14 rest0 =>
      obtain ⟨hxv14, hd0, hltv14⟩ := drop_head hd0
      refine ⟨⟨fun _ => ?_, fun h => absurd (by omega) h⟩⟩; conv => whnf
      refine draw_rule [] T_ok mixed slices_Equal_int_int_pl6 (by decide +kernel) ?_; conv => whnf
      refine ⟨k0, _, rfl, intDs_i64_get hxv14, ?_⟩; conv => whnf
      refine ⟨intDs_i64_fit _ rfl rfl, ?_⟩; conv => whnf
      obtain ⟨v15, qv15, e⟩ := bnd e
      obtain ⟨qv15k, qv15a, qv15b⟩ := geti_some qv15
      refine ⟨qv15k, _, qv15a, intDs_i64_get qv15b, ?_⟩; conv => whnf
      refine ⟨intDs_i64_fit _ rfl rfl, ?_⟩; conv => whnf
      refine ⟨⟨fun h16 => ?_, fun h16 => ?_⟩⟩
      · replace e := ifp h16 e; conv => whnf
        obtain rfl := sm e
        exact rfl
      · replace e := ifn h16 e; conv => whnf
        refine ⟨((k0 + 1 : Nat) : Int), wrap64e (by omega) (by omega) (by omega), ?_⟩; conv => whnf
        refine (RunsL.weak ((ih_slices_Equal_int_int_l0 _ _ e _ _ _ rfl) a0 hd0) ?_)
        repeat' first | exact wk.of_eq rfl | exact rfl | exact trivial | refine ⟨?_, ?_⟩
theorem P_slices_Equal_int_int_l0 {rest0 : (List Int)} {k0 : Nat} {a1 : (List Int)} {r : Bool} (e : slices_Equal_int_int_l0 rest0 k0 a1 = some r) : M_slices_Equal_int_int_l0 rest0 k0 a1 r := G_slices_Equal_int_int_l0 _ _ e _ _ _ rfl
theorem P_slices_Equal_int_int {a0 : (List Int)} {a1 : (List Int)} {r : Bool} (e : slices_Equal_int_int a0 a1 = some r) : Pure Try.prog 69 [(.slice 1 (intDs_i64 a0)), (.slice 1 (intDs_i64 a1))] (.bool r) := by
  unfold slices_Equal_int_int at e
  refine pure_of_awp (js := []) T_ok Try.func69 rfl (by decide +kernel) rfl ?_; conv => whnf
  refine ⟨⟨fun h1 => ?_, fun h1 => ?_⟩⟩
  · replace e := ifp h1 e; conv => whnf
    obtain rfl := sm e
    exact rfl
  · replace e := ifn h1 e; conv => whnf
    refine RunsL.runs (RunsL.weak ((P_slices_Equal_int_int_l0 e) a0 (by simp)) ?_)
    repeat' first | exact wk.of_eq rfl | exact rfl | exact trivial | refine ⟨?_, ?_⟩
theorem P_hash_Same_1 {a0 : YN} {a1 : YN} {r : Bool} (e : hash_Same_1 a0 a1 = some r) : Pure Try.prog 68 [(YN.D a0), (YN.D a1)] (.bool r) := by
  unfold hash_Same_1 at e
  refine pure_of_awp (js := []) T_ok Try.func68 rfl (by decide +kernel) rfl ?_; conv => whnf
  refine ⟨⟨fun h1 => ?_, fun h1 => ?_⟩⟩
  · replace e := ifp h1 e; conv => whnf
    refine ⟨⟨fun h2 => ?_, fun h2 => ?_⟩⟩
    · replace e := ifp h2 e; conv => whnf
      obtain ⟨v3, qv3, e⟩ := bnd e
      refine said_pure (P_slices_Equal_int_int qv3) rfl ?_; conv => whnf
      obtain rfl := sm e
      exact rfl
    · replace e := ifn h2 e; conv => whnf
      obtain rfl := sm e
      exact rfl
  · replace e := ifn h1 e; conv => whnf
    obtain rfl := sm e
    exact rfl
def M_slices_EqualFunc_TypeNode_TypeNode_TypeNode_TypeNode__hash_Same_1_l0 (rest0 : (List YN)) (k0 : Nat) (a1 : (List YN)) (r : Bool) : Prop := ∀ (a0 : (List YN)) (hd0 : rest0 = a0.drop k0), LoopAt T Try.prog Try.f67 Fx0 [] [1, 1, 0, 1, 0] (EP T Try.f67 (.bool r)) [(1, .d (.slice 3 (YN.Ds a1))), (2, .d (.func (.func 68) [] [])), (15, .d (.slice 3 (YN.Ds a0))), (16, .d (.int .i64 ((YN.Ds a0).length : Int))), (17, .d (.int .i64 (k0 : Int)))] [[]]
theorem G_slices_EqualFunc_TypeNode_TypeNode_TypeNode_TypeNode__hash_Same_1_l0 : (∀ p r, slices_EqualFunc_TypeNode_TypeNode_TypeNode_TypeNode__hash_Same_1_l0' p = some r → ∀ rest0 k0 a1, (rest0, k0, a1) = p → M_slices_EqualFunc_TypeNode_TypeNode_TypeNode_TypeNode__hash_Same_1_l0 rest0 k0 a1 r) := by
  refine slices_EqualFunc_TypeNode_TypeNode_TypeNode_TypeNode__hash_Same_1_l0'.partial_correctness (fun (p : ((List YN) × Nat × (List YN))) (r : Bool) => ∀ (rest0 : (List YN)) (k0 : Nat) (a1 : (List YN)), (rest0, k0, a1) = p → M_slices_EqualFunc_TypeNode_TypeNode_TypeNode_TypeNode__hash_Same_1_l0 rest0 k0 a1 r) ?_
  · intro f_slices_EqualFunc_TypeNode_TypeNode_TypeNode_TypeNode__hash_Same_1_l0 ih_slices_EqualFunc_TypeNode_TypeNode_TypeNode_TypeNode__hash_Same_1_l0 p r e rest0 k0 a1 hp
    subst hp
    intro a0 hd0
    refine RunsL.len_tmp 15 rfl fun hlenk0 => ?_
    refine RunsL.of_awp (js := []) T_ok ?_; conv => whnf
    have hls := YN.Ds_len a0
    cases rest0 with
    | nil =>
      have hk := drop_nil hd0
      refine ⟨⟨fun h => absurd h (by omega), fun _ => ?_⟩⟩; conv => whnf
      obtain rfl := sm e
      exact rfl
    | cons v18 rest0 =>
      obtain ⟨hxv18, hd0, hltv18⟩ := drop_head hd0
      refine ⟨⟨fun _ => ?_, fun h => absurd (by omega) h⟩⟩; conv => whnf
      refine ⟨k0, _, rfl, YN.Ds_get hxv18, ?_⟩; conv => whnf
      refine ⟨YN.Ds_fit _ rfl rfl, ?_⟩; conv => whnf
      obtain ⟨v19, qv19, e⟩ := bnd e
      obtain ⟨qv19k, qv19a, qv19b⟩ := geti_some qv19
      refine ⟨qv19k, _, qv19a, YN.Ds_get qv19b, ?_⟩; conv => whnf
      refine ⟨YN.Ds_fit _ rfl rfl, ?_⟩; conv => whnf
      obtain ⟨v20, qv20, e⟩ := bnd e
      refine said_pure (P_hash_Same_1 qv20) rfl ?_; conv => whnf
      refine brK.nsplit (fun hb21 => ?_) (fun hb21 => ?_)
      · replace e := ifpb hb21 e; conv => whnf
        refine ⟨((k0 + 1 : Nat) : Int), wrap64e (by omega) (by omega) (by omega), ?_⟩; conv => whnf
        refine (RunsL.weak ((ih_slices_EqualFunc_TypeNode_TypeNode_TypeNode_TypeNode__hash_Same_1_l0 _ _ e _ _ _ rfl) a0 hd0) ?_)
        repeat' first | exact wk.of_eq rfl | exact rfl | exact trivial | refine ⟨?_, ?_⟩
      · replace e := ifnb hb21 e; conv => whnf
        obtain rfl := sm e
        exact rfl
theorem P_slices_EqualFunc_TypeNode_TypeNode_TypeNode_TypeNode__hash_Same_1_l0 {rest0 : (List YN)} {k0 : Nat} {a1 : (List YN)} {r : Bool} (e : slices_EqualFunc_TypeNode_TypeNode_TypeNode_TypeNode__hash_Same_1_l0 rest0 k0 a1 = some r) : M_slices_EqualFunc_TypeNode_TypeNode_TypeNode_TypeNode__hash_Same_1_l0 rest0 k0 a1 r := G_slices_EqualFunc_TypeNode_TypeNode_TypeNode_TypeNode__hash_Same_1_l0 _ _ e _ _ _ rfl
theorem P_slices_EqualFunc_TypeNode_TypeNode_TypeNode_TypeNode__hash_Same_1 {a0 : (List YN)} {a1 : (List YN)} {r : Bool} (e : slices_EqualFunc_TypeNode_TypeNode_TypeNode_TypeNode__hash_Same_1 a0 a1 = some r) : Pure Try.prog 67 [(.slice 3 (YN.Ds a0)), (.slice 3 (YN.Ds a1)), (.func (.func 68) [] [])] (.bool r) := by
  unfold slices_EqualFunc_TypeNode_TypeNode_TypeNode_TypeNode__hash_Same_1 at e
  refine pure_of_awp (js := []) T_ok Try.func67 rfl (by decide +kernel) rfl ?_; conv => whnf
  refine ⟨⟨fun h1 => ?_, fun h1 => ?_⟩⟩
  · replace e := ifp h1 e; conv => whnf
    obtain rfl := sm e
    exact rfl
  · replace e := ifn h1 e; conv => whnf
    refine RunsL.runs (RunsL.weak ((P_slices_EqualFunc_TypeNode_TypeNode_TypeNode_TypeNode__hash_Same_1_l0 e) a0 (by simp)) ?_)
    repeat' first | exact wk.of_eq rfl | exact rfl | exact trivial | refine ⟨?_, ?_⟩
theorem P_hash_Same_2 {a0 : XN} {a1 : XN} {r : Bool} (e : hash_Same_2 a0 a1 = some r) : Pure Try.prog 71 [(XN.D a0), (XN.D a1)] (.bool r) := by
  unfold hash_Same_2 at e
  refine pure_of_awp (js := []) T_ok Try.func71 rfl (by decide +kernel) rfl ?_; conv => whnf
  refine ⟨⟨fun h1 => ?_, fun h1 => ?_⟩⟩
  · replace e := ifp h1 e; conv => whnf
    refine ⟨⟨fun h2 => ?_, fun h2 => ?_⟩⟩
    · replace e := ifp h2 e; conv => whnf
      refine ⟨⟨fun h3 => ?_, fun h3 => ?_⟩⟩
      · replace e := ifp h3 e; conv => whnf
        refine ⟨⟨fun h4 => ?_, fun h4 => ?_⟩⟩
        · replace e := ifp h4 e; conv => whnf
          obtain ⟨v5, qv5, e⟩ := bnd e
          refine said_pure (P_slices_Equal_int_int qv5) rfl ?_; conv => whnf
          obtain rfl := sm e
          exact rfl
        · replace e := ifn h4 e; conv => whnf
          obtain rfl := sm e
          exact rfl
      · replace e := ifn h3 e; conv => whnf
        obtain rfl := sm e
        exact rfl
    · replace e := ifn h2 e; conv => whnf
      obtain rfl := sm e
      exact rfl
  · replace e := ifn h1 e; conv => whnf
    obtain rfl := sm e
    exact rfl
def M_slices_EqualFunc_TermNode_TermNode_TermNode_TermNode__hash_Same_2_l0 (rest0 : (List XN)) (k0 : Nat) (a1 : (List XN)) (r : Bool) : Prop := ∀ (a0 : (List XN)) (hd0 : rest0 = a0.drop k0), LoopAt T Try.prog Try.f70 Fx0 [] [1, 1, 0, 1, 0] (EP T Try.f70 (.bool r)) [(1, .d (.slice 5 (XN.Ds a1))), (2, .d (.func (.func 71) [] [])), (15, .d (.slice 5 (XN.Ds a0))), (16, .d (.int .i64 ((XN.Ds a0).length : Int))), (17, .d (.int .i64 (k0 : Int)))] [[]]
theorem G_slices_EqualFunc_TermNode_TermNode_TermNode_TermNode__hash_Same_2_l0 : (∀ p r, slices_EqualFunc_TermNode_TermNode_TermNode_TermNode__hash_Same_2_l0' p = some r → ∀ rest0 k0 a1, (rest0, k0, a1) = p → M_slices_EqualFunc_TermNode_TermNode_TermNode_TermNode__hash_Same_2_l0 rest0 k0 a1 r) := by
  refine slices_EqualFunc_TermNode_TermNode_TermNode_TermNode__hash_Same_2_l0'.partial_correctness (fun (p : ((List XN) × Nat × (List XN))) (r : Bool) => ∀ (rest0 : (List XN)) (k0 : Nat) (a1 : (List XN)), (rest0, k0, a1) = p → M_slices_EqualFunc_TermNode_TermNode_TermNode_TermNode__hash_Same_2_l0 rest0 k0 a1 r) ?_
  · intro f_slices_EqualFunc_TermNode_TermNode_TermNode_TermNode__hash_Same_2_l0 ih_slices_EqualFunc_TermNode_TermNode_TermNode_TermNode__hash_Same_2_l0 p r e rest0 k0 a1 hp
    subst hp
    intro a0 hd0
    refine RunsL.len_tmp 15 rfl fun hlenk0 => ?_
    refine RunsL.of_awp (js := []) T_ok ?_; conv => whnf
    have hls := XN.Ds_len a0
    cases rest0 with
    | nil =>
      have hk := drop_nil hd0
      refine ⟨⟨fun h => absurd h (by omega), fun _ => ?_⟩⟩; conv => whnf
      obtain rfl := sm e
      exact rfl
    | cons v18 rest0 =>
      obtain ⟨hxv18, hd0, hltv18⟩ := drop_head hd0
      refine ⟨⟨fun _ => ?_, fun h => absurd (by omega) h⟩⟩; conv => whnf
      refine ⟨k0, _, rfl, XN.Ds_get hxv18, ?_⟩; conv => whnf
      refine ⟨XN.Ds_fit _ rfl rfl, ?_⟩; conv => whnf
      obtain ⟨v19, qv19, e⟩ := bnd e
      obtain ⟨qv19k, qv19a, qv19b⟩ := geti_some qv19
      refine ⟨qv19k, _, qv19a, XN.Ds_get qv19b, ?_⟩; conv => whnf
      refine ⟨XN.Ds_fit _ rfl rfl, ?_⟩; conv => whnf
      obtain ⟨v20, qv20, e⟩ := bnd e
      refine said_pure (P_hash_Same_2 qv20) rfl ?_; conv => whnf
      refine brK.nsplit (fun hb21 => ?_) (fun hb21 => ?_)
      · replace e := ifpb hb21 e; conv => whnf
        refine ⟨((k0 + 1 : Nat) : Int), wrap64e (by omega) (by omega) (by omega), ?_⟩; conv => whnf
        refine (RunsL.weak ((ih_slices_EqualFunc_TermNode_TermNode_TermNode_TermNode__hash_Same_2_l0 _ _ e _ _ _ rfl) a0 hd0) ?_)
        repeat' first | exact wk.of_eq rfl | exact rfl | exact trivial | refine ⟨?_, ?_⟩
      · replace e := ifnb hb21 e; conv => whnf
        obtain rfl := sm e
        exact rfl
theorem P_slices_EqualFunc_TermNode_TermNode_TermNode_TermNode__hash_Same_2_l0 {rest0 : (List XN)} {k0 : Nat} {a1 : (List XN)} {r : Bool} (e : slices_EqualFunc_TermNode_TermNode_TermNode_TermNode__hash_Same_2_l0 rest0 k0 a1 = some r) : M_slices_EqualFunc_TermNode_TermNode_TermNode_TermNode__hash_Same_2_l0 rest0 k0 a1 r := G_slices_EqualFunc_TermNode_TermNode_TermNode_TermNode__hash_Same_2_l0 _ _ e _ _ _ rfl
theorem P_slices_EqualFunc_TermNode_TermNode_TermNode_TermNode__hash_Same_2 {a0 : (List XN)} {a1 : (List XN)} {r : Bool} (e : slices_EqualFunc_TermNode_TermNode_TermNode_TermNode__hash_Same_2 a0 a1 = some r) : Pure Try.prog 70 [(.slice 5 (XN.Ds a0)), (.slice 5 (XN.Ds a1)), (.func (.func 71) [] [])] (.bool r) := by
  unfold slices_EqualFunc_TermNode_TermNode_TermNode_TermNode__hash_Same_2 at e
  refine pure_of_awp (js := []) T_ok Try.func70 rfl (by decide +kernel) rfl ?_; conv => whnf
  refine ⟨⟨fun h1 => ?_, fun h1 => ?_⟩⟩
  · replace e := ifp h1 e; conv => whnf
    obtain rfl := sm e
    exact rfl
  · replace e := ifn h1 e; conv => whnf
    refine RunsL.runs (RunsL.weak ((P_slices_EqualFunc_TermNode_TermNode_TermNode_TermNode__hash_Same_2_l0 e) a0 (by simp)) ?_)
    repeat' first | exact wk.of_eq rfl | exact rfl | exact trivial | refine ⟨?_, ?_⟩
theorem P_hash_Same {a0 : AStore} {a1 : AStore} {r : Bool} (e : hash_Same a0 a1 = some r) : Pure Try.prog 36 [(AStore.D a0), (AStore.D a1)] (.bool r) := by
  unfold hash_Same at e
  refine pure_of_awp (js := []) T_ok Try.func36 rfl (by decide +kernel) rfl ?_; conv => whnf
  obtain ⟨v1, qv1, e⟩ := bnd e
  refine said_pure (P_slices_EqualFunc_TypeNode_TypeNode_TypeNode_TypeNode__hash_Same_1 qv1) rfl ?_; conv => whnf
  refine brK.split (fun hb2 => ?_) (fun hb2 => ?_)
  · replace e := ifpb hb2 e; conv => whnf
    refine brK.tt hb2 ?_; conv => whnf
    refine brK.tt hb2 ?_; conv => whnf
    refine brK.tt hb2 ?_; conv => whnf
    refine brK.tt hb2 ?_; conv => whnf
    obtain ⟨v3, qv3, e⟩ := bnd e
    refine said_pure (P_slices_EqualFunc_TermNode_TermNode_TermNode_TermNode__hash_Same_2 qv3) rfl ?_; conv => whnf
    refine brK.tt hb2 ?_; conv => whnf
    obtain rfl := sm e
    exact rfl
  · replace e := ifnb hb2 e; conv => whnf
    refine brK.ff hb2 ?_; conv => whnf
    refine brK.ff hb2 ?_; conv => whnf
    refine brK.ff hb2 ?_; conv => whnf
    refine brK.ff hb2 ?_; conv => whnf
    refine brK.ff hb2 ?_; conv => whnf
    obtain rfl := sm e
    exact rfl
def M_sequentlaw31_HashGets_l0 (t28_0 : Int) (a4_0 : (List XN)) (a0 : AStore) (t26_2 : Bool) (v7 : AStore) (r : Bool) : Prop := ∀ (a1 : AStore) (v27 : ((List YN) × (List XN))) (hlx_v27_1 : v27.1.length = (YN.Ds v27.1).length) (hla4_0 : a4_0.length = (XN.Ds v27.2).length), LoopAt T Try.prog Try.f4 Fx0 [13, 15] [1, 1, 1, 1, 1, 1, 1, 1, 1, 1, 1, 1, 1, 1, 0, 1, 0] (EP T Try.f4 (.bool r)) [(4, .ptr 0 0 0), (9, .ptr 0 2 0), (26, .d (.bool t26_2)), (27, .ptr 0 5 0), (28, .d (.int .i64 t28_0))] [[.cells [.d (.slice 3 (YN.Ds a0.types)), .d (.slice 5 (XN.Ds a0.terms))], .cells [.d (.slice 3 (YN.Ds a1.types)), .d (.slice 5 (XN.Ds a1.terms))], .cells [.d (.slice 3 (YN.Ds v7.types)), .d (.slice 5 (XN.Ds v7.terms))], .arr 3 (YN.Ds v27.1), .arr 5 (XN.Ds a4_0), .cells [.arr 0 3 0 (YN.Ds v27.1).length 3, .arr 0 4 0 (XN.Ds v27.2).length 5]]]
theorem G_sequentlaw31_HashGets_l0 : (∀ p r, sequentlaw31_HashGets_l0' p = some r → ∀ t28_0 a4_0 a0 t26_2 v7, (t28_0, a4_0, a0, t26_2, v7) = p → M_sequentlaw31_HashGets_l0 t28_0 a4_0 a0 t26_2 v7 r) := by
  refine sequentlaw31_HashGets_l0'.partial_correctness (fun (p : (Int × (List XN) × AStore × Bool × AStore)) (r : Bool) => ∀ (t28_0 : Int) (a4_0 : (List XN)) (a0 : AStore) (t26_2 : Bool) (v7 : AStore), (t28_0, a4_0, a0, t26_2, v7) = p → M_sequentlaw31_HashGets_l0 t28_0 a4_0 a0 t26_2 v7 r) ?_
  · intro f_sequentlaw31_HashGets_l0 ih_sequentlaw31_HashGets_l0 p r e t28_0 a4_0 a0 t26_2 v7 hp
    subst hp
    intro a1 v27 hlx_v27_1 hla4_0
    refine RunsL.of_awp (js := [13, 15]) T_ok ?_; conv => whnf
    refine ⟨⟨fun h36 => ?_, fun h36 => ?_⟩⟩
    · replace e := ifp (by omega) e; conv => whnf
      obtain ⟨g38, qg38, e⟩ := bnd e
      obtain ⟨k37, k37a⟩ : ∃ k37 : Nat, t28_0 = k37 := ⟨(t28_0).toNat, by have := wantb_some qg38; omega⟩
      refine ⟨k37, k37a, by have := wantb_some qg38; omega, ?_⟩; simp only [Nat.zero_add]; conv => whnf
      obtain ⟨v39, qv39, e⟩ := bnd e
      obtain ⟨v40, qv40, e⟩ := bnd e
      obtain ⟨qv40k, qv40a, qv40b, qv40c⟩ := seti_some qv40
      obtain rfl : k37 = qv40k := by omega
      obtain ⟨qv40k2, qv40a2, qv40b2⟩ := geti_some qv39
      obtain rfl : k37 = qv40k2 := by omega
      have hlv40 : v40.length = (XN.Ds v27.2).length := by rw [qv40c]; simp [hla4_0]
      refine .inr ⟨_, (show _ = some (D.agg _) from by first | exact XN.Ds_get qv40b2 | simpa [XN.Ds_all, YN.Ds_all, Tm.Ds_all, Ty.Ds_all, ia, AStore.D, XN.D, YN.D, Tm.D, Ty.D, listAll] using XN.Ds_get qv40b2), rfl, rfl, (by simp), ?_⟩
      (conv => whnf)
      obtain ⟨v41, qv41, e⟩ := bnd e
      refine ⟨v41, sm qv41, ?_⟩; conv => whnf
      refine (RunsL.weak ((ih_sequentlaw31_HashGets_l0 _ _ e _ _ _ _ _ rfl) a1 v27 hlx_v27_1 hlv40) ?_)
      repeat' first | exact wk.of_eq rfl | exact rfl | exact trivial | refine ⟨?_, ?_⟩ | ((simp [XN.Ds_all, YN.Ds_all, Tm.Ds_all, Ty.Ds_all, ia, AStore.D, XN.D, YN.D, Tm.D, Ty.D, listAll, qv40c, hlx_v27_1, hlv40] <;> (repeat' first | rfl | apply And.intro)); done)
    · replace e := ifn (by omega) e; conv => whnf
      refine brK.split (fun hb37 => ?_) (fun hb37 => ?_)
      · replace e := ifpb hb37 e; conv => whnf
        refine brK.tt hb37 ?_; conv => whnf
        refine brK.tt hb37 ?_; conv => whnf
        obtain ⟨v38, qv38, e⟩ := bnd e
        refine said_pure (P_r31_Same qv38) rfl ?_; conv => whnf
        refine brK.tt hb37 ?_; conv => whnf
        obtain rfl := sm e
        exact rfl
      · replace e := ifnb hb37 e; conv => whnf
        refine brK.ff hb37 ?_; conv => whnf
        refine brK.ff hb37 ?_; conv => whnf
        refine brK.ff hb37 ?_; conv => whnf
        obtain rfl := sm e
        exact rfl
theorem P_sequentlaw31_HashGets_l0 {t28_0 : Int} {a4_0 : (List XN)} {a0 : AStore} {t26_2 : Bool} {v7 : AStore} {r : Bool} (e : sequentlaw31_HashGets_l0 t28_0 a4_0 a0 t26_2 v7 = some r) : M_sequentlaw31_HashGets_l0 t28_0 a4_0 a0 t26_2 v7 r := G_sequentlaw31_HashGets_l0 _ _ e _ _ _ _ _ rfl
theorem P_sequentlaw31_HashGets_j1 {t26_2 : Bool} {a0 : AStore} {v7 : AStore} {v27 : ((List YN) × (List XN))} {r : Bool} (e : sequentlaw31_HashGets_j1 t26_2 a0 v7 v27 = some r) : ∀ (a1 : AStore) (hlx_v27_1 : v27.1.length = (YN.Ds v27.1).length) (hlx_v27_2 : v27.2.length = (XN.Ds v27.2).length), JoinAt T Try.prog Try.f4 Fx0 [13, 15] [1, 1, 1, 1, 1, 1, 1, 1, 1, 1, 1, 1, 1, 1, 0, 0] (EP T Try.f4 (.bool r)) [(4, .ptr 0 0 0), (9, .ptr 0 2 0), (26, .d (.bool t26_2)), (27, .ptr 0 5 0)] [[.cells [.d (.slice 3 (YN.Ds a0.types)), .d (.slice 5 (XN.Ds a0.terms))], .cells [.d (.slice 3 (YN.Ds a1.types)), .d (.slice 5 (XN.Ds a1.terms))], .cells [.d (.slice 3 (YN.Ds v7.types)), .d (.slice 5 (XN.Ds v7.terms))], .arr 3 (YN.Ds v27.1), .arr 5 (XN.Ds v27.2), .cells [.arr 0 3 0 (YN.Ds v27.1).length 3, .arr 0 4 0 (XN.Ds v27.2).length 5]]] := by
  unfold sequentlaw31_HashGets_j1 at e
  intro a1 hlx_v27_1 hlx_v27_2
  refine Runs.enter T_ok ?_; conv => whnf
  refine RunsL.runs (RunsL.weak ((P_sequentlaw31_HashGets_l0 e) a1 v27 hlx_v27_1 hlx_v27_2) ?_)
  repeat' first | exact wk.of_eq rfl | exact rfl | exact trivial | refine ⟨?_, ?_⟩
theorem P_sequentlaw31_HashGets_j0 {t26_1 : Bool} {a0 : AStore} {a1 : AStore} {v7 : AStore} {r : Bool} (e : sequentlaw31_HashGets_j0 t26_1 a0 a1 v7 = some r) : JoinAt T Try.prog Try.f4 Fx0 [13, 15] [1, 1, 1, 1, 1, 1, 1, 1, 1, 1, 1, 1, 0] (EP T Try.f4 (.bool r)) [(4, .ptr 0 0 0), (5, .ptr 0 1 0), (9, .ptr 0 2 0), (26, .d (.bool t26_1))] [[.cells [.d (.slice 3 (YN.Ds a0.types)), .d (.slice 5 (XN.Ds a0.terms))], .cells [.d (.slice 3 (YN.Ds a1.types)), .d (.slice 5 (XN.Ds a1.terms))], .cells [.d (.slice 3 (YN.Ds v7.types)), .d (.slice 5 (XN.Ds v7.terms))]]] := by
  unfold sequentlaw31_HashGets_j0 at e
  refine Runs.enter T_ok ?_; conv => whnf
  obtain ⟨v27, qv27, e⟩ := bnd e
  have hlx_v27_1 : v27.1.length = (YN.Ds v27.1).length := (YN.Ds_len _).symm
  have hlx_v27_2 : v27.2.length = (XN.Ds v27.2).length := (XN.Ds_len _).symm
  refine said_iorF (P_hash_Twin_ar qv27) [] [.d (AStore.D v7)] rfl ⟨wk.pure rfl, trivial⟩ rfl rfl ?_; conv => whnf
  refine draw_rule [] T_ok mixed sequentlaw31_HashGets_pl14 (by decide +kernel) ?_; conv => whnf
  refine brK.split (fun hb28 => ?_) (fun hb28 => ?_)
  · replace e := ifpb hb28 e; conv => whnf
    refine brK.tt hb28 ?_; conv => whnf
    refine brK.tt hb28 ?_; conv => whnf
    obtain ⟨v29, qv29, e⟩ := bnd e
    first | (refine said_borrow (P_r31_Same qv29) (by repeat' first | exact rfl | exact trivial | exact ⟨rfl, _, rfl, (by rfl), rfl⟩ | refine ⟨?_, ?_⟩ | ((conv => whnf); refine ⟨?_, ?_⟩)) rfl ⟨Keeps.refl _ _, ?_⟩) | (refine said_borrow2 (P_r31_Same qv29) (by repeat' first | exact rfl | exact trivial | exact ⟨rfl, _, rfl, (by first | rfl | simp [XN.Ds_all, YN.Ds_all, Tm.Ds_all, Ty.Ds_all, ia, AStore.D, XN.D, YN.D, Tm.D, Ty.D, listAll, hlx_v27_1, hlx_v27_2]), rfl⟩ | refine ⟨?_, ?_⟩ | ((conv => whnf); refine ⟨?_, ?_⟩)) (by simp [XN.Ds_all, YN.Ds_all, Tm.Ds_all, Ty.Ds_all, ia, AStore.D, XN.D, YN.D, Tm.D, Ty.D, listAll] <;> (repeat' first | rfl | apply And.intro)) rfl ⟨Keeps.refl _ _, ?_⟩)
    (conv => whnf)
    refine brK.tt hb28 ?_; conv => whnf
    refine brK.split (fun hb30 => ?_) (fun hb30 => ?_)
    · replace e := ifpb hb30 e; conv => whnf
      refine brK.tt hb30 ?_; conv => whnf
      refine brK.tt hb30 ?_; conv => whnf
      refine brK.tt hb30 ?_; conv => whnf
      refine brK.tt hb30 ?_; conv => whnf
      obtain ⟨v31, qv31, e⟩ := bnd e
      refine said_pure (P_hash_Same qv31) rfl ⟨Keeps.refl _ _, ?_⟩; conv => whnf
      refine brK.tt hb30 ?_; conv => whnf
      obtain ⟨v32, qv32, e⟩ := bnd e
      refine said_pure (P_r31_Same qv32) rfl ⟨Keeps.refl _ _, ?_⟩; conv => whnf
      refine brK.tt hb30 ?_; conv => whnf
      refine ⟨⟨fun h33 => ?_, fun h33 => ?_⟩⟩
      · replace e := ifp h33 e; conv => whnf
        refine brK.tt hb30 ?_; conv => whnf
        obtain ⟨v34, qv34, e⟩ := bnd e
        first | (refine said_borrow (P_hash_Same qv34) (by repeat' first | exact rfl | exact trivial | exact ⟨rfl, _, rfl, (by rfl), rfl⟩ | refine ⟨?_, ?_⟩ | ((conv => whnf); refine ⟨?_, ?_⟩)) rfl ⟨Keeps.refl _ _, ?_⟩) | (refine said_borrow2 (P_hash_Same qv34) (by repeat' first | exact rfl | exact trivial | exact ⟨rfl, _, rfl, (by first | rfl | simp [XN.Ds_all, YN.Ds_all, Tm.Ds_all, Ty.Ds_all, ia, AStore.D, XN.D, YN.D, Tm.D, Ty.D, listAll, hlx_v27_1, hlx_v27_2]), rfl⟩ | refine ⟨?_, ?_⟩ | ((conv => whnf); refine ⟨?_, ?_⟩)) (by simp [XN.Ds_all, YN.Ds_all, Tm.Ds_all, Ty.Ds_all, ia, AStore.D, XN.D, YN.D, Tm.D, Ty.D, listAll] <;> (repeat' first | rfl | apply And.intro)) rfl ⟨Keeps.refl _ _, ?_⟩)
        (conv => whnf)
        refine Runs.weak ((P_sequentlaw31_HashGets_j1 e) a1 hlx_v27_1 hlx_v27_2) ?_
        repeat' first | exact wk.of_eq rfl | exact rfl | exact trivial | refine ⟨?_, ?_⟩
      · replace e := ifn h33 e; conv => whnf
        refine brK.tt hb30 ?_; conv => whnf
        refine Runs.weak ((P_sequentlaw31_HashGets_j1 e) a1 hlx_v27_1 hlx_v27_2) ?_
        repeat' first | exact wk.of_eq rfl | exact rfl | exact trivial | refine ⟨?_, ?_⟩
    · replace e := ifnb hb30 e; conv => whnf
      refine brK.ff hb30 ?_; conv => whnf
      refine brK.ff hb30 ?_; conv => whnf
      refine brK.ff hb30 ?_; conv => whnf
      refine brK.ff hb30 ?_; conv => whnf
      refine brK.ff hb30 ?_; conv => whnf
      refine brK.ff hb30 ?_; conv => whnf
      refine brK.ff hb30 ?_; conv => whnf
      refine Runs.weak ((P_sequentlaw31_HashGets_j1 e) a1 hlx_v27_1 hlx_v27_2) ?_
      repeat' first | exact wk.of_eq rfl | exact rfl | exact trivial | refine ⟨?_, ?_⟩
  · replace e := ifnb hb28 e; conv => whnf
    refine brK.ff hb28 ?_; conv => whnf
    refine brK.ff hb28 ?_; conv => whnf
    refine brK.ff hb28 ?_; conv => whnf
    refine Runs.weak ((P_sequentlaw31_HashGets_j1 e) a1 hlx_v27_1 hlx_v27_2) ?_
    repeat' first | exact wk.of_eq rfl | exact rfl | exact trivial | refine ⟨?_, ?_⟩
theorem P_sequentlaw31_HashGets {a0 : AStore} {a1 : AStore} {a2 : Int} {a3 : Int} {r : Bool} (e : sequentlaw31_HashGets a0 a1 a2 a3 = some r) : Pure Try.prog 4 [(AStore.D a0), (AStore.D a1), (.int .i64 a2), (.int .i64 a3)] (.bool r) := by
  unfold sequentlaw31_HashGets at e
  refine pure_of_awp (js := [13, 15]) T_ok Try.func4 rfl (by decide +kernel) rfl ?_; conv => whnf
  obtain ⟨v1, qv1, e⟩ := bnd e
  refine said_pure (P_r31_Great qv1) rfl ?_; conv => whnf
  refine brK.split (fun hb2 => ?_) (fun hb2 => ?_)
  · replace e := ifpb hb2 e; conv => whnf
    refine brK.tt hb2 ?_; conv => whnf
    refine brK.tt hb2 ?_; conv => whnf
    obtain rfl := sm e
    exact rfl
  · replace e := ifnb hb2 e; conv => whnf
    refine brK.ff hb2 ?_; conv => whnf
    obtain ⟨v3, qv3, e⟩ := bnd e
    refine said_pure (P_r31_Great qv3) rfl ?_; conv => whnf
    refine brK.ff hb2 ?_; conv => whnf
    refine brK.split (fun hb4 => ?_) (fun hb4 => ?_)
    · replace e := ifpb hb4 e; conv => whnf
      refine brK.tt hb4 ?_; conv => whnf
      refine brK.tt hb4 ?_; conv => whnf
      refine brK.tt hb4 ?_; conv => whnf
      obtain rfl := sm e
      exact rfl
    · replace e := ifnb hb4 e; conv => whnf
      refine brK.ff hb4 ?_; conv => whnf
      refine brK.ff hb4 ?_; conv => whnf
      obtain ⟨v5, qv5, e⟩ := bnd e
      refine said_pure (P_r31_Huge qv5) rfl ?_; conv => whnf
      refine brK.ff hb4 ?_; conv => whnf
      refine brK.split (fun hb6 => ?_) (fun hb6 => ?_)
      · replace e := ifpb hb6 e; conv => whnf
        obtain rfl := sm e
        exact rfl
      · replace e := ifnb hb6 e; conv => whnf
        obtain ⟨v7, qv7, e⟩ := bnd e
        refine said_pure (P_r31_Twin qv7) rfl ?_; conv => whnf
        obtain ⟨v8, qv8, e⟩ := bnd e
        refine said_pure (P_hash_GetType qv8) rfl ?_; conv => whnf
        obtain ⟨v9, qv9, e⟩ := bnd e
        refine said_pure (P_r31_GetType qv9) rfl ?_; conv => whnf
        obtain ⟨v10, qv10, e⟩ := bnd e
        refine said_pure (P_hash_Get qv10) rfl ?_; conv => whnf
        obtain ⟨v11, qv11, e⟩ := bnd e
        refine said_pure (P_r31_Get qv11) rfl ?_; conv => whnf
        obtain ⟨v12, qv12, e⟩ := bnd e
        refine said_pure (P_hash_Size qv12) rfl ?_; conv => whnf
        obtain ⟨v13, qv13, e⟩ := bnd e
        refine said_pure (P_r31_Size qv13) rfl ?_; conv => whnf
        obtain ⟨v14, qv14, e⟩ := bnd e
        refine said_pure (P_hash_Shared qv14) rfl ?_; conv => whnf
        obtain ⟨v15, qv15, e⟩ := bnd e
        refine said_pure (P_r31_Shared qv15) rfl ?_; conv => whnf
        refine draw_rule [] T_ok mixed sequentlaw31_HashGets_pl12 (by decide +kernel) ?_; conv => whnf
        obtain ⟨v16, qv16, e⟩ := bnd e
        refine said_pure (P_hash_Check qv16) rfl ⟨Keeps.refl _ _, ?_⟩; conv => whnf
        obtain ⟨v17, qv17, e⟩ := bnd e
        refine said_pure (P_r31_Check qv17) rfl ⟨Keeps.refl _ _, ?_⟩; conv => whnf
        refine ⟨⟨fun h18 => ?_, fun h18 => ?_⟩⟩
        · replace e := ifp h18 e; conv => whnf
          obtain ⟨v19, qv19, e⟩ := bnd e
          refine said_pure (P_r01_Same qv19) rfl ⟨Keeps.refl _ _, ?_⟩; conv => whnf
          refine brK.split (fun hb20 => ?_) (fun hb20 => ?_)
          · replace e := ifpb hb20 e; conv => whnf
            refine brK.tt hb20 ?_; conv => whnf
            refine brK.tt hb20 ?_; conv => whnf
            refine ⟨⟨fun h21 => ?_, fun h21 => ?_⟩⟩
            · replace e := ifp h21 e; conv => whnf
              refine brK.tt hb20 ?_; conv => whnf
              obtain ⟨v22, qv22, e⟩ := bnd e
              refine said_pure (P_r02_Exact qv22) rfl ⟨Keeps.refl _ _, ?_⟩; conv => whnf
              refine brK.split (fun hb23 => ?_) (fun hb23 => ?_)
              · replace e := ifpb hb23 e; conv => whnf
                refine brK.tt hb23 ?_; conv => whnf
                refine brK.tt hb23 ?_; conv => whnf
                refine ⟨⟨fun h24 => ?_, fun h24 => ?_⟩⟩
                · replace e := ifp h24 e; conv => whnf
                  refine brK.tt hb23 ?_; conv => whnf
                  refine ⟨⟨fun h25 => ?_, fun h25 => ?_⟩⟩
                  · replace e := ifp h25 e; conv => whnf
                    refine ⟨⟨fun h26 => ?_, fun h26 => ?_⟩⟩
                    · replace e := ifp h26 e; conv => whnf
                      refine ⟨⟨fun h27 => ?_, fun h27 => ?_⟩⟩
                      · replace e := ifp h27 e; conv => whnf
                        refine ⟨⟨fun h28 => ?_, fun h28 => ?_⟩⟩
                        · replace e := ifp h28 e; conv => whnf
                          refine Runs.weak (P_sequentlaw31_HashGets_j0 e) ?_
                          repeat' first | exact wk.of_eq rfl | exact rfl | exact trivial | refine ⟨?_, ?_⟩
                        · replace e := ifn h28 e; conv => whnf
                          refine Runs.weak (P_sequentlaw31_HashGets_j0 e) ?_
                          repeat' first | exact wk.of_eq rfl | exact rfl | exact trivial | refine ⟨?_, ?_⟩
                      · replace e := ifn h27 e; conv => whnf
                        refine Runs.weak (P_sequentlaw31_HashGets_j0 e) ?_
                        repeat' first | exact wk.of_eq rfl | exact rfl | exact trivial | refine ⟨?_, ?_⟩
                    · replace e := ifn h26 e; conv => whnf
                      refine Runs.weak (P_sequentlaw31_HashGets_j0 e) ?_
                      repeat' first | exact wk.of_eq rfl | exact rfl | exact trivial | refine ⟨?_, ?_⟩
                  · replace e := ifn h25 e; conv => whnf
                    refine Runs.weak (P_sequentlaw31_HashGets_j0 e) ?_
                    repeat' first | exact wk.of_eq rfl | exact rfl | exact trivial | refine ⟨?_, ?_⟩
                · replace e := ifn h24 e; conv => whnf
                  refine brK.tt hb23 ?_; conv => whnf
                  refine Runs.weak (P_sequentlaw31_HashGets_j0 e) ?_
                  repeat' first | exact wk.of_eq rfl | exact rfl | exact trivial | refine ⟨?_, ?_⟩
              · replace e := ifnb hb23 e; conv => whnf
                refine brK.ff hb23 ?_; conv => whnf
                refine brK.ff hb23 ?_; conv => whnf
                refine brK.ff hb23 ?_; conv => whnf
                refine Runs.weak (P_sequentlaw31_HashGets_j0 e) ?_
                repeat' first | exact wk.of_eq rfl | exact rfl | exact trivial | refine ⟨?_, ?_⟩
            · replace e := ifn h21 e; conv => whnf
              refine brK.tt hb20 ?_; conv => whnf
              refine Runs.weak (P_sequentlaw31_HashGets_j0 e) ?_
              repeat' first | exact wk.of_eq rfl | exact rfl | exact trivial | refine ⟨?_, ?_⟩
          · replace e := ifnb hb20 e; conv => whnf
            refine brK.ff hb20 ?_; conv => whnf
            refine brK.ff hb20 ?_; conv => whnf
            refine brK.ff hb20 ?_; conv => whnf
            refine Runs.weak (P_sequentlaw31_HashGets_j0 e) ?_
            repeat' first | exact wk.of_eq rfl | exact rfl | exact trivial | refine ⟨?_, ?_⟩
        · replace e := ifn h18 e; conv => whnf
          refine Runs.weak (P_sequentlaw31_HashGets_j0 e) ?_
          repeat' first | exact wk.of_eq rfl | exact rfl | exact trivial | refine ⟨?_, ?_⟩
end Go.Proofs.Ytpgecpmonaldiaa.Fw

