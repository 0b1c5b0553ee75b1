/- The code computes the functions. -/
import Derived.Test.YtpgecpmonaldiaaGTab
set_option autoImplicit false
set_option linter.unusedVariables false
set_option linter.unusedSimpArgs false
set_option maxHeartbeats 4000000
namespace Go.Proofs.Ytpgecpmonaldiaa.Fw
open Go Go.Proofs Go.RowKit
theorem P_cmpstr {a b : ByteArray} {r : Int} (e : cmpstr a b = some r) : Pure Try.prog 133 [.str a, .str b] (.int .i64 r) := by
  obtain rfl := sm e
  refine ⟨fun H w vs hm hn hr => .inr ⟨.int .i64 (bcmp a b), w, ?_, _, H, rfl, Imm.ext.refl _ _, hm, .int _ _, Below.refl _ _⟩⟩
  obtain ⟨v0, v1, rfl⟩ : ∃ v0 v1, vs = [v0, v1] := by
    match vs, hn with
    | [v0, v1], _ => exact ⟨v0, v1, rfl⟩
  have h0 := hr 0 (by simp)
  have h1 := hr 1 (by simp)
  simp only [List.getD_cons_zero, List.getElem_cons_zero, List.getD_cons_succ, List.getElem_cons_succ] at h0 h1
  cases h0
  cases h1
  rw [run_callFunc_extern Try.func133 (by decide +kernel) (by rfl) (by kernel_rfl) (e := Extern.BytealgCompare.compare) (by kernel_rfl)]
  change (Sem.run Try.prog (do pure (goInt (Extern.BytealgCompare.cmp (← Extern.Bytes.bytesOf (.string a)) (← Extern.Bytes.bytesOf (.string b))))) w).andThen _ = _
  simp [Extern.Bytes.bytesOf, goInt, cmp_bcmp]
def M_r31_Great_l1 (rest1 : (List XN)) (t4_1 : Int) (r : Bool) : Prop := ∀ (a0 : AStore) (k1 : Nat) (hd1 : rest1 = a0.terms.drop k1), LoopAt T Try.prog Try.f11 Fx0 [2, 4] [1, 1, 1, 1, 1, 0, 1, 0] (EP T Try.f11 (.bool r)) [(1, .ptr 0 0 0), (4, .d (.int .i64 t4_1)), (6, .d (.int .i64 (k1 : Int)))] [[.cells [.d (.slice 3 (YN.Ds a0.types)), .d (.slice 5 (XN.Ds a0.terms))]]]
theorem G_r31_Great_l1 : (∀ p r, r31_Great_l1' p = some r → ∀ rest1 t4_1, (rest1, t4_1) = p → M_r31_Great_l1 rest1 t4_1 r) := by
  refine r31_Great_l1'.partial_correctness (fun (p : ((List XN) × Int)) (r : Bool) => ∀ (rest1 : (List XN)) (t4_1 : Int), (rest1, t4_1) = p → M_r31_Great_l1 rest1 t4_1 r) ?_
  · intro f_r31_Great_l1 ih_r31_Great_l1 p r e rest1 t4_1 hp
    subst hp
    intro a0 k1 hd1
    refine RunsL.len_cell 0 1 rfl rfl rfl fun hlenk1 => ?_
    refine RunsL.of_awp (js := [2, 4]) T_ok ?_; conv => whnf
    have hls := XN.Ds_len a0.terms
    cases rest1 with
    | nil =>
      have hk := drop_nil hd1
      refine ⟨⟨fun h => absurd h (by omega), fun _ => ?_⟩⟩; conv => whnf
      obtain rfl := sm e
      exact rfl
    | cons v7 rest1 =>
      obtain ⟨hxv7, hd1, hltv7⟩ := drop_head hd1
      refine ⟨⟨fun _ => ?_, fun h => absurd (by omega) h⟩⟩; conv => whnf
      refine ⟨k1, _, rfl, XN.Ds_get hxv7, ?_⟩; conv => whnf
      obtain ⟨v8, qv8, e⟩ := bnd e
      refine ⟨v8, sm qv8, ?_⟩; conv => whnf
      refine ⟨k1, _, rfl, XN.Ds_get hxv7, ?_⟩; conv => whnf
      refine ⟨⟨fun h9 => ?_, fun h9 => ?_⟩⟩
      · replace e := ifp h9 e; conv => whnf
        obtain rfl := sm e
        exact rfl
      · replace e := ifn h9 e; conv => whnf
        refine ⟨⟨fun h10 => ?_, fun h10 => ?_⟩⟩
        · replace e := ifp h10 e; conv => whnf
          obtain rfl := sm e
          exact rfl
        · replace e := ifn h10 e; conv => whnf
          refine ⟨((k1 + 1 : Nat) : Int), wrap64e (by omega) (by omega) (by omega), ?_⟩; conv => whnf
          refine (RunsL.weak ((ih_r31_Great_l1 _ _ e _ _ rfl) a0 (k1 + 1) hd1) ?_)
          repeat' first | exact wk.of_eq rfl | exact rfl | exact trivial | refine ⟨?_, ?_⟩
theorem P_r31_Great_l1 {rest1 : (List XN)} {t4_1 : Int} {r : Bool} (e : r31_Great_l1 rest1 t4_1 = some r) : M_r31_Great_l1 rest1 t4_1 r := G_r31_Great_l1 _ _ e _ _ rfl
def M_r31_Great_l0 (rest0 : (List YN)) (t4_0 : Int) (a0 : AStore) (r : Bool) : Prop := ∀ (k0 : Nat) (hd0 : rest0 = a0.types.drop k0), LoopAt T Try.prog Try.f11 Fx0 [2, 4] [1, 1, 1, 1, 0, 1, 0] (EP T Try.f11 (.bool r)) [(1, .ptr 0 0 0), (4, .d (.int .i64 t4_0)), (5, .d (.int .i64 (k0 : Int)))] [[.cells [.d (.slice 3 (YN.Ds a0.types)), .d (.slice 5 (XN.Ds a0.terms))]]]
theorem G_r31_Great_l0 : (∀ p r, r31_Great_l0' p = some r → ∀ rest0 t4_0 a0, (rest0, t4_0, a0) = p → M_r31_Great_l0 rest0 t4_0 a0 r) := by
  refine r31_Great_l0'.partial_correctness (fun (p : ((List YN) × Int × AStore)) (r : Bool) => ∀ (rest0 : (List YN)) (t4_0 : Int) (a0 : AStore), (rest0, t4_0, a0) = p → M_r31_Great_l0 rest0 t4_0 a0 r) ?_
  · intro f_r31_Great_l0 ih_r31_Great_l0 p r e rest0 t4_0 a0 hp
    subst hp
    intro k0 hd0
    refine RunsL.len_cell 0 0 rfl rfl rfl fun hlenk0 => ?_
    refine RunsL.of_awp (js := [2, 4]) T_ok ?_; conv => whnf
    have hls := YN.Ds_len a0.types
    cases rest0 with
    | nil =>
      have hk := drop_nil hd0
      refine ⟨⟨fun h => absurd h (by omega), fun _ => ?_⟩⟩; conv => whnf
      refine RunsL.runs (RunsL.weak ((P_r31_Great_l1 e) a0 0 (by simp)) ?_)
      repeat' first | exact wk.of_eq rfl | exact rfl | exact trivial | refine ⟨?_, ?_⟩
    | cons v6 rest0 =>
      obtain ⟨hxv6, hd0, hltv6⟩ := drop_head hd0
      refine ⟨⟨fun _ => ?_, fun h => absurd (by omega) h⟩⟩; conv => whnf
      refine ⟨k0, _, rfl, YN.Ds_get hxv6, ?_⟩; conv => whnf
      obtain ⟨v7, qv7, e⟩ := bnd e
      refine ⟨v7, sm qv7, ?_⟩; conv => whnf
      refine ⟨k0, _, rfl, YN.Ds_get hxv6, ?_⟩; conv => whnf
      refine ⟨⟨fun h8 => ?_, fun h8 => ?_⟩⟩
      · replace e := ifp h8 e; conv => whnf
        obtain rfl := sm e
        exact rfl
      · replace e := ifn h8 e; conv => whnf
        refine ⟨⟨fun h9 => ?_, fun h9 => ?_⟩⟩
        · replace e := ifp h9 e; conv => whnf
          obtain rfl := sm e
          exact rfl
        · replace e := ifn h9 e; conv => whnf
          refine ⟨((k0 + 1 : Nat) : Int), wrap64e (by omega) (by omega) (by omega), ?_⟩; conv => whnf
          refine (RunsL.weak ((ih_r31_Great_l0 _ _ e _ _ _ rfl) (k0 + 1) hd0) ?_)
          repeat' first | exact wk.of_eq rfl | exact rfl | exact trivial | refine ⟨?_, ?_⟩
theorem P_r31_Great_l0 {rest0 : (List YN)} {t4_0 : Int} {a0 : AStore} {r : Bool} (e : r31_Great_l0 rest0 t4_0 a0 = some r) : M_r31_Great_l0 rest0 t4_0 a0 r := G_r31_Great_l0 _ _ e _ _ _ rfl
theorem P_r31_Great_j1 {a0 : AStore} {r : Bool} (e : r31_Great_j1 a0 = some r) : JoinAt T Try.prog Try.f11 Fx0 [2, 4] [1, 1, 1, 0] (EP T Try.f11 (.bool r)) [(1, .ptr 0 0 0)] [[.cells [.d (.slice 3 (YN.Ds a0.types)), .d (.slice 5 (XN.Ds a0.terms))]]] := by
  unfold r31_Great_j1 at e
  refine Runs.enter T_ok ?_; conv => whnf
  refine RunsL.runs (RunsL.weak ((P_r31_Great_l0 e) 0 (by simp)) ?_)
  repeat' first | exact wk.of_eq rfl | exact rfl | exact trivial | refine ⟨?_, ?_⟩
theorem P_r31_Great_j0 {t3_2 : Bool} {a0 : AStore} {r : Bool} (e : r31_Great_j0 t3_2 a0 = some r) : JoinAt T Try.prog Try.f11 Fx0 [2, 4] [1, 1, 0, 0] (EP T Try.f11 (.bool r)) [(1, .ptr 0 0 0), (3, .d (.bool t3_2))] [[.cells [.d (.slice 3 (YN.Ds a0.types)), .d (.slice 5 (XN.Ds a0.terms))]]] := by
  unfold r31_Great_j0 at e
  refine Runs.enter T_ok ?_; conv => whnf
  refine ⟨⟨fun h4 => ?_, fun h4 => ?_⟩⟩
  · replace e := ifp h4 e; conv => whnf
    obtain rfl := sm e
    exact rfl
  · replace e := ifn h4 e; conv => whnf
    refine ⟨⟨fun h5 => ?_, fun h5 => ?_⟩⟩
    · replace e := ifp h5 e; conv => whnf
      obtain rfl := sm e
      exact rfl
    · replace e := ifn h5 e; conv => whnf
      refine brK.nsplit (fun hb6 => ?_) (fun hb6 => ?_)
      · replace e := ifpb hb6 e; conv => whnf
        refine brK.ntt hb6 ?_; conv => whnf
        refine brK.ntt hb6 ?_; conv => whnf
        refine brK.ntt hb6 ?_; conv => whnf
        refine brK.ntt hb6 ?_; conv => whnf
        refine brK.ntt hb6 ?_; conv => whnf
        refine brK.ntt hb6 ?_; conv => whnf
        refine Runs.weak (P_r31_Great_j1 e) ?_
        repeat' first | exact wk.of_eq rfl | exact rfl | exact trivial | refine ⟨?_, ?_⟩
      · replace e := ifnb hb6 e; conv => whnf
        refine brK.nff hb6 ?_; conv => whnf
        refine brK.nff hb6 ?_; conv => whnf
        refine brK.nff hb6 ?_; conv => whnf
        refine ⟨⟨fun h7 => ?_, fun h7 => ?_⟩⟩
        · replace e := ifp h7 e; conv => whnf
          refine brK.nff hb6 ?_; conv => whnf
          refine brK.nff hb6 ?_; conv => whnf
          refine brK.nff hb6 ?_; conv => whnf
          obtain rfl := sm e
          exact rfl
        · replace e := ifn h7 e; conv => whnf
          refine brK.nff hb6 ?_; conv => whnf
          refine ⟨⟨fun h8 => ?_, fun h8 => ?_⟩⟩
          · replace e := ifp h8 e; conv => whnf
            refine brK.nff hb6 ?_; conv => whnf
            refine brK.nff hb6 ?_; conv => whnf
            obtain rfl := sm e
            exact rfl
          · replace e := ifn h8 e; conv => whnf
            refine brK.nff hb6 ?_; conv => whnf
            refine brK.nff hb6 ?_; conv => whnf
            refine Runs.weak (P_r31_Great_j1 e) ?_
            repeat' first | exact wk.of_eq rfl | exact rfl | exact trivial | refine ⟨?_, ?_⟩
theorem P_r31_Great {a0 : AStore} {r : Bool} (e : r31_Great a0 = some r) : Pure Try.prog 11 [(AStore.D a0)] (.bool r) := by
  unfold r31_Great at e
  refine pure_of_awp (js := [2, 4]) T_ok Try.func11 rfl (by decide +kernel) rfl ?_; conv => whnf
  refine ⟨⟨fun h1 => ?_, fun h1 => ?_⟩⟩
  · replace e := ifp h1 e; conv => whnf
    refine Runs.weak (P_r31_Great_j0 e) ?_
    repeat' first | exact wk.of_eq rfl | exact rfl | exact trivial | refine ⟨?_, ?_⟩
  · replace e := ifn h1 e; conv => whnf
    refine ⟨⟨fun h2 => ?_, fun h2 => ?_⟩⟩
    · replace e := ifp h2 e; conv => whnf
      refine Runs.weak (P_r31_Great_j0 e) ?_
      repeat' first | exact wk.of_eq rfl | exact rfl | exact trivial | refine ⟨?_, ?_⟩
    · replace e := ifn h2 e; conv => whnf
      refine Runs.weak (P_r31_Great_j0 e) ?_
      repeat' first | exact wk.of_eq rfl | exact rfl | exact trivial | refine ⟨?_, ?_⟩
def M_r01_Size (a0 : Ty) (r : Int) : Prop := Pure Try.prog 125 [(Ty.D a0)] (.int .i64 r)
def M_r01_Size_l0 (rest0 : (List Ty)) (t3_0 : Int) (r : Int) : Prop := ∀ (a0 : Ty) (k0 : Nat) (hd0 : rest0 = a0.args.drop k0), LoopAt T Try.prog Try.f125 Fx0 [] [1, 1, 0, 1, 0] (EP T Try.f125 (.int .i64 r)) [(1, .ptr 0 0 0), (3, .d (.int .i64 t3_0)), (4, .d (.int .i64 (k0 : Int)))] [[.cells [.d (.bool a0.v), .d (.str a0.name), .d (.slice 3 (Ty.Ds a0.args))]]]
theorem G_r01_Size : (∀ p r, r01_Size' p = some r → ∀ a0, a0 = p → M_r01_Size a0 r) ∧
    (∀ p r, r01_Size_l0' p = some r → ∀ rest0 t3_0, (rest0, t3_0) = p → M_r01_Size_l0 rest0 t3_0 r) := by
  refine r01_Size'.mutual_partial_correctness (fun (p : Ty) (r : Int) => ∀ (a0 : Ty), a0 = p → M_r01_Size a0 r) (fun (p : ((List Ty) × Int)) (r : Int) => ∀ (rest0 : (List Ty)) (t3_0 : Int), (rest0, t3_0) = p → M_r01_Size_l0 rest0 t3_0 r) ?_ ?_
  · intro f_r01_Size_l0 ih_r01_Size_l0 p r e a0 hp
    subst hp
    refine pure_of_awp (js := []) T_ok Try.func125 rfl (by decide +kernel) rfl ?_; conv => whnf
    refine RunsL.runs (RunsL.weak ((ih_r01_Size_l0 _ _ e _ _ rfl) a0 0 (by simp)) ?_)
    repeat' first | exact wk.of_eq rfl | exact rfl | exact trivial | refine ⟨?_, ?_⟩
  · intro f_r01_Size f_r01_Size_l0 ih_r01_Size ih_r01_Size_l0 p r e rest0 t3_0 hp
    subst hp
    intro a0 k0 hd0
    refine RunsL.len_cell 0 2 rfl rfl rfl fun hlenk0 => ?_
    refine RunsL.of_awp (js := []) T_ok ?_; conv => whnf
    have hls := Ty.Ds_len a0.args
    cases rest0 with
    | nil =>
      have hk := drop_nil hd0
      refine ⟨⟨fun h => absurd h (by omega), fun _ => ?_⟩⟩; conv => whnf
      obtain rfl := sm e
      exact rfl
    | cons v5 rest0 =>
      obtain ⟨hxv5, hd0, hltv5⟩ := drop_head hd0
      refine ⟨⟨fun _ => ?_, fun h => absurd (by omega) h⟩⟩; conv => whnf
      refine ⟨k0, _, rfl, Ty.Ds_get hxv5, ?_⟩; conv => whnf
      refine ⟨Ty.Ds_fit _ rfl rfl, ?_⟩; conv => whnf
      obtain ⟨v6, qv6, e⟩ := bnd e
      refine said_pure (ih_r01_Size _ _ qv6 _ rfl) rfl ?_; conv => whnf
      obtain ⟨v7, qv7, e⟩ := bnd e
      refine ⟨v7, sm qv7, ?_⟩; conv => whnf
      refine ⟨((k0 + 1 : Nat) : Int), wrap64e (by omega) (by omega) (by omega), ?_⟩; conv => whnf
      refine (RunsL.weak ((ih_r01_Size_l0 _ _ e _ _ rfl) a0 (k0 + 1) hd0) ?_)
      repeat' first | exact wk.of_eq rfl | exact rfl | exact trivial | refine ⟨?_, ?_⟩
theorem P_r01_Size {a0 : Ty} {r : Int} (e : r01_Size a0 = some r) : M_r01_Size a0 r := G_r01_Size.1 _ _ e _ rfl
def M_r01_Depth (a0 : Ty) (r : Int) : Prop := Pure Try.prog 126 [(Ty.D a0)] (.int .i64 r)
def M_r01_Depth_l0 (rest0 : (List Ty)) (t3_0 : Int) (r : Int) : Prop := ∀ (a0 : Ty) (k0 : Nat) (hd0 : rest0 = a0.args.drop k0), LoopAt T Try.prog Try.f126 Fx0 [] [1, 1, 0, 1, 0] (EP T Try.f126 (.int .i64 r)) [(1, .ptr 0 0 0), (3, .d (.int .i64 t3_0)), (4, .d (.int .i64 (k0 : Int)))] [[.cells [.d (.bool a0.v), .d (.str a0.name), .d (.slice 3 (Ty.Ds a0.args))]]]
theorem G_r01_Depth : (∀ p r, r01_Depth' p = some r → ∀ a0, a0 = p → M_r01_Depth a0 r) ∧
    (∀ p r, r01_Depth_l0' p = some r → ∀ rest0 t3_0, (rest0, t3_0) = p → M_r01_Depth_l0 rest0 t3_0 r) := by
  refine r01_Depth'.mutual_partial_correctness (fun (p : Ty) (r : Int) => ∀ (a0 : Ty), a0 = p → M_r01_Depth a0 r) (fun (p : ((List Ty) × Int)) (r : Int) => ∀ (rest0 : (List Ty)) (t3_0 : Int), (rest0, t3_0) = p → M_r01_Depth_l0 rest0 t3_0 r) ?_ ?_
  · intro f_r01_Depth_l0 ih_r01_Depth_l0 p r e a0 hp
    subst hp
    refine pure_of_awp (js := []) T_ok Try.func126 rfl (by decide +kernel) rfl ?_; conv => whnf
    refine RunsL.runs (RunsL.weak ((ih_r01_Depth_l0 _ _ e _ _ rfl) a0 0 (by simp)) ?_)
    repeat' first | exact wk.of_eq rfl | exact rfl | exact trivial | refine ⟨?_, ?_⟩
  · intro f_r01_Depth f_r01_Depth_l0 ih_r01_Depth ih_r01_Depth_l0 p r e rest0 t3_0 hp
    subst hp
    intro a0 k0 hd0
    refine RunsL.len_cell 0 2 rfl rfl rfl fun hlenk0 => ?_
    refine RunsL.of_awp (js := []) T_ok ?_; conv => whnf
    have hls := Ty.Ds_len a0.args
    cases rest0 with
    | nil =>
      have hk := drop_nil hd0
      refine ⟨⟨fun h => absurd h (by omega), fun _ => ?_⟩⟩; conv => whnf
      obtain ⟨v6, qv6, e⟩ := bnd e
      refine ⟨v6, sm qv6, ?_⟩; conv => whnf
      obtain rfl := sm e
      exact rfl
    | cons v5 rest0 =>
      obtain ⟨hxv5, hd0, hltv5⟩ := drop_head hd0
      refine ⟨⟨fun _ => ?_, fun h => absurd (by omega) h⟩⟩; conv => whnf
      refine ⟨k0, _, rfl, Ty.Ds_get hxv5, ?_⟩; conv => whnf
      refine ⟨Ty.Ds_fit _ rfl rfl, ?_⟩; conv => whnf
      obtain ⟨v6, qv6, e⟩ := bnd e
      refine said_pure (ih_r01_Depth _ _ qv6 _ rfl) rfl ?_; conv => whnf
      refine ⟨((k0 + 1 : Nat) : Int), wrap64e (by omega) (by omega) (by omega), ?_⟩; conv => whnf
      refine (RunsL.weak ((ih_r01_Depth_l0 _ _ e _ _ rfl) a0 (k0 + 1) hd0) ?_)
      repeat' first | exact wk.of_eq rfl | exact rfl | exact trivial | refine ⟨?_, ?_⟩
theorem P_r01_Depth {a0 : Ty} {r : Int} (e : r01_Depth a0 = some r) : M_r01_Depth a0 r := G_r01_Depth.1 _ _ e _ rfl
theorem P_r01_Small {a0 : Ty} {r : Bool} (e : r01_Small a0 = some r) : Pure Try.prog 107 [(Ty.D a0)] (.bool r) := by
  unfold r01_Small at e
  refine pure_of_awp (js := []) T_ok Try.func107 rfl (by decide +kernel) rfl ?_; conv => whnf
  obtain ⟨v1, qv1, e⟩ := bnd e
  refine said_pure (P_r01_Size qv1) rfl ?_; conv => whnf
  refine ⟨⟨fun h2 => ?_, fun h2 => ?_⟩⟩
  · replace e := ifp h2 e; conv => whnf
    obtain ⟨v3, qv3, e⟩ := bnd e
    refine said_pure (P_r01_Depth qv3) rfl ?_; conv => whnf
    refine test.dec ?_; conv => whnf
    obtain rfl := sm e
    exact rfl
  · replace e := ifn h2 e; conv => whnf
    obtain rfl := sm e
    exact rfl
def M_r01_Name_l0 (t3_0 : Int) (a0 : ByteArray) (r : Bool) : Prop := LoopAt T Try.prog Try.f127 Fx0 [] [1, 1, 0, 1, 0] (EP T Try.f127 (.bool r)) [(0, .d (.str a0)), (3, .d (.int .i64 t3_0))] [[]]
theorem G_r01_Name_l0 : (∀ p r, r01_Name_l0' p = some r → ∀ t3_0 a0, (t3_0, a0) = p → M_r01_Name_l0 t3_0 a0 r) := by
  refine r01_Name_l0'.partial_correctness (fun (p : (Int × ByteArray)) (r : Bool) => ∀ (t3_0 : Int) (a0 : ByteArray), (t3_0, a0) = p → M_r01_Name_l0 t3_0 a0 r) ?_
  · intro f_r01_Name_l0 ih_r01_Name_l0 p r e t3_0 a0 hp
    subst hp
    refine RunsL.of_awp (js := []) T_ok ?_; conv => whnf
    refine ⟨⟨fun h4 => ?_, fun h4 => ?_⟩⟩
    · replace e := ifp h4 e; conv => whnf
      obtain ⟨v5, qv5, e⟩ := bnd e
      obtain ⟨qv5k, qv5q, qv5a, qv5b, qv5c⟩ := getb_some qv5
      refine ⟨qv5k, qv5q, qv5a, qv5b, ?_⟩; rw [qv5c]; conv => whnf
      refine ⟨⟨fun h6 => ?_, fun h6 => ?_⟩⟩
      · replace e := ifp h6 e; conv => whnf
        obtain rfl := sm e
        exact rfl
      · replace e := ifn h6 e; conv => whnf
        refine ⟨⟨fun h7 => ?_, fun h7 => ?_⟩⟩
        · replace e := ifp h7 e; conv => whnf
          obtain rfl := sm e
          exact rfl
        · replace e := ifn h7 e; conv => whnf
          refine ⟨⟨fun h8 => ?_, fun h8 => ?_⟩⟩
          · replace e := ifp h8 e; conv => whnf
            obtain rfl := sm e
            exact rfl
          · replace e := ifn h8 e; conv => whnf
            refine ⟨⟨fun h9 => ?_, fun h9 => ?_⟩⟩
            · replace e := ifp h9 e; conv => whnf
              obtain rfl := sm e
              exact rfl
            · replace e := ifn h9 e; conv => whnf
              refine ⟨⟨fun h10 => ?_, fun h10 => ?_⟩⟩
              · replace e := ifp h10 e; conv => whnf
                obtain rfl := sm e
                exact rfl
              · replace e := ifn h10 e; conv => whnf
                refine ⟨⟨fun h11 => ?_, fun h11 => ?_⟩⟩
                · replace e := ifp h11 e; conv => whnf
                  obtain rfl := sm e
                  exact rfl
                · replace e := ifn h11 e; conv => whnf
                  refine ⟨⟨fun h12 => ?_, fun h12 => ?_⟩⟩
                  · replace e := ifp h12 e; conv => whnf
                    obtain rfl := sm e
                    exact rfl
                  · replace e := ifn h12 e; conv => whnf
                    refine ⟨⟨fun h13 => ?_, fun h13 => ?_⟩⟩
                    · replace e := ifp h13 e; conv => whnf
                      obtain rfl := sm e
                      exact rfl
                    · replace e := ifn h13 e; conv => whnf
                      refine ⟨⟨fun h14 => ?_, fun h14 => ?_⟩⟩
                      · replace e := ifp h14 e; conv => whnf
                        obtain rfl := sm e
                        exact rfl
                      · replace e := ifn h14 e; conv => whnf
                        obtain ⟨v15, qv15, e⟩ := bnd e
                        refine ⟨v15, sm qv15, ?_⟩; conv => whnf
                        refine (RunsL.weak (ih_r01_Name_l0 _ _ e _ _ rfl) ?_)
                        repeat' first | exact wk.of_eq rfl | exact rfl | exact trivial | refine ⟨?_, ?_⟩
    · replace e := ifn h4 e; conv => whnf
      obtain rfl := sm e
      exact rfl
theorem P_r01_Name_l0 {t3_0 : Int} {a0 : ByteArray} {r : Bool} (e : r01_Name_l0 t3_0 a0 = some r) : M_r01_Name_l0 t3_0 a0 r := G_r01_Name_l0 _ _ e _ _ rfl
theorem P_r01_Name {a0 : ByteArray} {r : Bool} (e : r01_Name a0 = some r) : Pure Try.prog 127 [(.str a0)] (.bool r) := by
  unfold r01_Name at e
  refine pure_of_awp (js := []) T_ok Try.func127 rfl (by decide +kernel) rfl ?_; conv => whnf
  refine ⟨⟨fun h1 => ?_, fun h1 => ?_⟩⟩
  · replace e := ifp h1 e; conv => whnf
    obtain rfl := sm e
    exact rfl
  · replace e := ifn h1 e; conv => whnf
    refine ⟨⟨fun h2 => ?_, fun h2 => ?_⟩⟩
    · replace e := ifp h2 e; conv => whnf
      obtain rfl := sm e
      exact rfl
    · replace e := ifn h2 e; conv => whnf
      refine RunsL.runs (RunsL.weak (P_r01_Name_l0 e) ?_)
      repeat' first | exact wk.of_eq rfl | exact rfl | exact trivial | refine ⟨?_, ?_⟩
def M_r01_shape (a0 : Ty) (r : Bool) : Prop := Pure Try.prog 108 [(Ty.D a0)] (.bool r)
def M_r01_shape_j0 (a0 : Ty) (r : Bool) : Prop := JoinAt T Try.prog Try.f108 Fx0 [3] [1, 1, 0, 0] (EP T Try.f108 (.bool r)) [(1, .ptr 0 0 0)] [[.cells [.d (.bool a0.v), .d (.str a0.name), .d (.slice 3 (Ty.Ds a0.args))]]]
def M_r01_shape_l0 (rest0 : (List Ty)) (r : Bool) : Prop := ∀ (a0 : Ty) (k0 : Nat) (hd0 : rest0 = a0.args.drop k0), LoopAt T Try.prog Try.f108 Fx0 [3] [1, 1, 0, 1, 0] (EP T Try.f108 (.bool r)) [(1, .ptr 0 0 0), (3, .d (.int .i64 (k0 : Int)))] [[.cells [.d (.bool a0.v), .d (.str a0.name), .d (.slice 3 (Ty.Ds a0.args))]]]
theorem G_r01_shape : (∀ p r, r01_shape' p = some r → ∀ a0, a0 = p → M_r01_shape a0 r) ∧
    (∀ p r, r01_shape_j0' p = some r → ∀ a0, a0 = p → M_r01_shape_j0 a0 r) ∧
    (∀ p r, r01_shape_l0' p = some r → ∀ rest0, rest0 = p → M_r01_shape_l0 rest0 r) := by
  refine r01_shape'.mutual_partial_correctness (fun (p : Ty) (r : Bool) => ∀ (a0 : Ty), a0 = p → M_r01_shape a0 r) (fun (p : Ty) (r : Bool) => ∀ (a0 : Ty), a0 = p → M_r01_shape_j0 a0 r) (fun (p : (List Ty)) (r : Bool) => ∀ (rest0 : (List Ty)), rest0 = p → M_r01_shape_l0 rest0 r) ?_ ?_ ?_
  · intro f_r01_shape_j0 ih_r01_shape_j0 p r e a0 hp
    subst hp
    refine pure_of_awp (js := [3]) T_ok Try.func108 rfl (by decide +kernel) rfl ?_; conv => whnf
    refine draw_rule [] T_ok mixed r01_shape_pl1 (by decide +kernel) ?_; conv => whnf
    obtain ⟨v1, qv1, e⟩ := bnd e
    refine said_pure (P_r01_Name qv1) rfl ⟨Keeps.refl _ _, ?_⟩; conv => whnf
    refine brK.nsplit (fun hb2 => ?_) (fun hb2 => ?_)
    · replace e := ifpb hb2 e; conv => whnf
      refine brK.ntt hb2 ?_; conv => whnf
      refine brK.ntt hb2 ?_; conv => whnf
      refine brK.ntt hb2 ?_; conv => whnf
      refine brK.ntt hb2 ?_; conv => whnf
      obtain ⟨v3, qv3, e⟩ := bnd e
      obtain ⟨qv3k, qv3q, qv3a, qv3b, qv3c⟩ := getb_some qv3
      refine ⟨qv3k, qv3q, qv3a, qv3b, ?_⟩; rw [qv3c]; conv => whnf
      refine brK.ntt hb2 ?_; conv => whnf
      refine test.dec ?_; conv => whnf
      refine brK.ntt hb2 ?_; conv => whnf
      refine ⟨⟨fun h4 => ?_, fun h4 => ?_⟩⟩
      · replace e := ifp h4 e; conv => whnf
        refine brK.ntt hb2 ?_; conv => whnf
        obtain rfl := sm e
        exact rfl
      · replace e := ifn h4 e; conv => whnf
        refine brK.ntt hb2 ?_; conv => whnf
        refine brK.split (fun hb5 => ?_) (fun hb5 => ?_)
        · replace e := ifpb hb5 e; conv => whnf
          refine brK.tt hb5 ?_; conv => whnf
          refine brK.tt hb5 ?_; conv => whnf
          refine brK.tt hb5 ?_; conv => whnf
          refine ⟨⟨fun h6 => ?_, fun h6 => ?_⟩⟩
          · replace e := ifp h6 e; conv => whnf
            refine brK.tt hb5 ?_; conv => whnf
            obtain rfl := sm e
            exact rfl
          · replace e := ifn h6 e; conv => whnf
            refine brK.tt hb5 ?_; conv => whnf
            refine ⟨⟨fun h7 => ?_, fun h7 => ?_⟩⟩
            · replace e := ifp h7 e; conv => whnf
              obtain rfl := sm e
              exact rfl
            · replace e := ifn h7 e; conv => whnf
              refine Runs.weak (ih_r01_shape_j0 _ _ e _ rfl) ?_
              repeat' first | exact wk.of_eq rfl | exact rfl | exact trivial | refine ⟨?_, ?_⟩
        · replace e := ifnb hb5 e; conv => whnf
          refine brK.ff hb5 ?_; conv => whnf
          refine brK.ff hb5 ?_; conv => whnf
          refine brK.ff hb5 ?_; conv => whnf
          refine brK.ff hb5 ?_; conv => whnf
          refine ⟨⟨fun h6 => ?_, fun h6 => ?_⟩⟩
          · replace e := ifp h6 e; conv => whnf
            obtain rfl := sm e
            exact rfl
          · replace e := ifn h6 e; conv => whnf
            refine Runs.weak (ih_r01_shape_j0 _ _ e _ rfl) ?_
            repeat' first | exact wk.of_eq rfl | exact rfl | exact trivial | refine ⟨?_, ?_⟩
    · replace e := ifnb hb2 e; conv => whnf
      refine brK.nff hb2 ?_; conv => whnf
      refine brK.nff hb2 ?_; conv => whnf
      refine brK.nff hb2 ?_; conv => whnf
      refine brK.nff hb2 ?_; conv => whnf
      refine brK.nff hb2 ?_; conv => whnf
      refine brK.nff hb2 ?_; conv => whnf
      refine brK.nff hb2 ?_; conv => whnf
      obtain rfl := sm e
      exact rfl
  · intro f_r01_shape_l0 ih_r01_shape_l0 p r e a0 hp
    subst hp
    refine Runs.enter T_ok ?_; conv => whnf
    refine RunsL.runs (RunsL.weak ((ih_r01_shape_l0 _ _ e _ rfl) a0 0 (by simp)) ?_)
    repeat' first | exact wk.of_eq rfl | exact rfl | exact trivial | refine ⟨?_, ?_⟩
  · intro f_r01_shape f_r01_shape_l0 ih_r01_shape ih_r01_shape_l0 p r e rest0 hp
    subst hp
    intro a0 k0 hd0
    refine RunsL.len_cell 0 2 rfl rfl rfl fun hlenk0 => ?_
    refine RunsL.of_awp (js := [3]) T_ok ?_; conv => whnf
    have hls := Ty.Ds_len a0.args
    cases rest0 with
    | nil =>
      have hk := drop_nil hd0
      refine ⟨⟨fun h => absurd h (by omega), fun _ => ?_⟩⟩; conv => whnf
      obtain rfl := sm e
      exact rfl
    | cons v4 rest0 =>
      obtain ⟨hxv4, hd0, hltv4⟩ := drop_head hd0
      refine ⟨⟨fun _ => ?_, fun h => absurd (by omega) h⟩⟩; conv => whnf
      refine ⟨k0, _, rfl, Ty.Ds_get hxv4, ?_⟩; conv => whnf
      refine ⟨Ty.Ds_fit _ rfl rfl, ?_⟩; conv => whnf
      obtain ⟨v5, qv5, e⟩ := bnd e
      refine said_pure (ih_r01_shape _ _ qv5 _ rfl) rfl ?_; conv => whnf
      refine brK.nsplit (fun hb6 => ?_) (fun hb6 => ?_)
      · replace e := ifpb hb6 e; conv => whnf
        refine ⟨((k0 + 1 : Nat) : Int), wrap64e (by omega) (by omega) (by omega), ?_⟩; conv => whnf
        refine (RunsL.weak ((ih_r01_shape_l0 _ _ e _ rfl) a0 (k0 + 1) hd0) ?_)
        repeat' first | exact wk.of_eq rfl | exact rfl | exact trivial | refine ⟨?_, ?_⟩
      · replace e := ifnb hb6 e; conv => whnf
        obtain rfl := sm e
        exact rfl
theorem P_r01_shape {a0 : Ty} {r : Bool} (e : r01_shape a0 = some r) : M_r01_shape a0 r := G_r01_shape.1 _ _ e _ rfl
theorem P_r01_Valid {a0 : Ty} {r : Bool} (e : r01_Valid a0 = some r) : Pure Try.prog 87 [(Ty.D a0)] (.bool r) := by
  unfold r01_Valid at e
  refine pure_of_awp (js := []) T_ok Try.func87 rfl (by decide +kernel) rfl ?_; conv => whnf
  obtain ⟨v1, qv1, e⟩ := bnd e
  refine said_pure (P_r01_Small qv1) rfl ?_; conv => whnf
  refine brK.split (fun hb2 => ?_) (fun hb2 => ?_)
  · replace e := ifpb hb2 e; conv => whnf
    refine brK.tt hb2 ?_; conv => whnf
    obtain ⟨v3, qv3, e⟩ := bnd e
    refine said_pure (P_r01_shape qv3) rfl ?_; conv => whnf
    refine brK.tt hb2 ?_; conv => whnf
    obtain rfl := sm e
    exact rfl
  · replace e := ifnb hb2 e; conv => whnf
    refine brK.ff hb2 ?_; conv => whnf
    refine brK.ff hb2 ?_; conv => whnf
    obtain rfl := sm e
    exact rfl
def M_r31_below_l0 (rest0 : (List Int)) (a1 : Int) (r : Bool) : Prop := ∀ (a0 : (List Int)) (k0 : Nat) (hd0 : rest0 = a0.drop k0), LoopAt T Try.prog Try.f112 Fx0 [] [1, 0, 1, 0] (EP T Try.f112 (.bool r)) [(0, .d (.slice 1 (intDs_i64 a0))), (1, .d (.int .i64 a1)), (5, .d (.int .i64 (k0 : Int)))] [[]]
theorem G_r31_below_l0 : (∀ p r, r31_below_l0' p = some r → ∀ rest0 a1, (rest0, a1) = p → M_r31_below_l0 rest0 a1 r) := by
  refine r31_below_l0'.partial_correctness (fun (p : ((List Int) × Int)) (r : Bool) => ∀ (rest0 : (List Int)) (a1 : Int), (rest0, a1) = p → M_r31_below_l0 rest0 a1 r) ?_
  · intro f_r31_below_l0 ih_r31_below_l0 p r e rest0 a1 hp
    subst hp
    intro a0 k0 hd0
    refine RunsL.len_tmp 0 rfl fun hlenk0 => ?_
    refine RunsL.of_awp (js := []) T_ok ?_; conv => whnf
    have hls := intDs_i64_len a0
    cases rest0 with
    | nil =>
      have hk := drop_nil hd0
      refine ⟨⟨fun h => absurd h (by omega), fun _ => ?_⟩⟩; conv => whnf
      obtain rfl := sm e
      exact rfl
    | cons v6 rest0 =>
      obtain ⟨hxv6, hd0, hltv6⟩ := drop_head hd0
      refine ⟨⟨fun _ => ?_, fun h => absurd (by omega) h⟩⟩; conv => whnf
      refine ⟨k0, _, rfl, intDs_i64_get hxv6, ?_⟩; conv => whnf
      refine ⟨intDs_i64_fit _ rfl rfl, ?_⟩; conv => whnf
      refine ⟨⟨fun h7 => ?_, fun h7 => ?_⟩⟩
      · replace e := ifp h7 e; conv => whnf
        obtain rfl := sm e
        exact rfl
      · replace e := ifn h7 e; conv => whnf
        refine ⟨k0, _, rfl, intDs_i64_get hxv6, ?_⟩; conv => whnf
        refine ⟨intDs_i64_fit _ rfl rfl, ?_⟩; conv => whnf
        refine ⟨⟨fun h8 => ?_, fun h8 => ?_⟩⟩
        · replace e := ifp h8 e; conv => whnf
          obtain rfl := sm e
          exact rfl
        · replace e := ifn h8 e; conv => whnf
          refine ⟨((k0 + 1 : Nat) : Int), wrap64e (by omega) (by omega) (by omega), ?_⟩; conv => whnf
          refine (RunsL.weak ((ih_r31_below_l0 _ _ e _ _ rfl) a0 (k0 + 1) hd0) ?_)
          repeat' first | exact wk.of_eq rfl | exact rfl | exact trivial | refine ⟨?_, ?_⟩
theorem P_r31_below_l0 {rest0 : (List Int)} {a1 : Int} {r : Bool} (e : r31_below_l0 rest0 a1 = some r) : M_r31_below_l0 rest0 a1 r := G_r31_below_l0 _ _ e _ _ rfl
theorem P_r31_below {a0 : (List Int)} {a1 : Int} {r : Bool} (e : r31_below a0 a1 = some r) : Pure Try.prog 112 [(.slice 1 (intDs_i64 a0)), (.int .i64 a1)] (.bool r) := by
  unfold r31_below at e
  refine pure_of_awp (js := []) T_ok Try.func112 rfl (by decide +kernel) rfl ?_; conv => whnf
  refine RunsL.runs (RunsL.weak ((P_r31_below_l0 e) a0 0 (by simp)) ?_)
  repeat' first | exact wk.of_eq rfl | exact rfl | exact trivial | refine ⟨?_, ?_⟩
def M_r31_Sized_l0 (t4_0 : (List Int)) (t5_0 : (List Int)) (t6_0 : Int) (a0 : (List (List Int))) (r : ((List Int) × (List Int))) : Prop := LoopAt T Try.prog Try.f62 Fx0 [] [1, 1, 0, 1, 0] (EP T Try.f62 (.tuple [(.slice 1 (intDs_i64 r.1)), (.slice 1 (intDs_i64 r.2))])) [(0, .d (.slice 1 (intDs_i64s a0))), (4, .own 0 0 1 (intDs_i64 t4_0)), (5, .own 0 1 1 (intDs_i64 t5_0)), (6, .d (.int .i64 t6_0))] [[.grow 1 (intDs_i64 t4_0).length, .grow 1 (intDs_i64 t5_0).length]]
def M_r31_Sized_l1 (t4_1 : (List Int)) (t5_1 : (List Int)) (t6_1 : Int) (t7_1 : Int) (t8_1 : Int) (t9_1 : Int) (a0 : (List (List Int))) (r : ((List Int) × (List Int))) : Prop := LoopAt T Try.prog Try.f62 Fx0 [] [1, 1, 0, 1, 0, 0, 1, 0, 0, 1, 0, 1, 0] (EP T Try.f62 (.tuple [(.slice 1 (intDs_i64 r.1)), (.slice 1 (intDs_i64 r.2))])) [(0, .d (.slice 1 (intDs_i64s a0))), (4, .own 0 0 1 (intDs_i64 t4_1)), (5, .own 0 1 1 (intDs_i64 t5_1)), (6, .d (.int .i64 t6_1)), (7, .d (.int .i64 t7_1)), (8, .d (.int .i64 t8_1)), (9, .d (.int .i64 t9_1))] [[.grow 1 (intDs_i64 t4_1).length, .grow 1 (intDs_i64 t5_1).length]]
theorem G_r31_Sized_l0 : (∀ p r, r31_Sized_l0' p = some r → ∀ t4_0 t5_0 t6_0 a0, (t4_0, t5_0, t6_0, a0) = p → M_r31_Sized_l0 t4_0 t5_0 t6_0 a0 r) ∧
    (∀ p r, r31_Sized_l1' p = some r → ∀ t4_1 t5_1 t6_1 t7_1 t8_1 t9_1 a0, (t4_1, t5_1, t6_1, t7_1, t8_1, t9_1, a0) = p → M_r31_Sized_l1 t4_1 t5_1 t6_1 t7_1 t8_1 t9_1 a0 r) := by
  refine r31_Sized_l0'.mutual_partial_correctness (fun (p : ((List Int) × (List Int) × Int × (List (List Int)))) (r : ((List Int) × (List Int))) => ∀ (t4_0 : (List Int)) (t5_0 : (List Int)) (t6_0 : Int) (a0 : (List (List Int))), (t4_0, t5_0, t6_0, a0) = p → M_r31_Sized_l0 t4_0 t5_0 t6_0 a0 r) (fun (p : ((List Int) × (List Int) × Int × Int × Int × Int × (List (List Int)))) (r : ((List Int) × (List Int))) => ∀ (t4_1 : (List Int)) (t5_1 : (List Int)) (t6_1 : Int) (t7_1 : Int) (t8_1 : Int) (t9_1 : Int) (a0 : (List (List Int))), (t4_1, t5_1, t6_1, t7_1, t8_1, t9_1, a0) = p → M_r31_Sized_l1 t4_1 t5_1 t6_1 t7_1 t8_1 t9_1 a0 r) ?_ ?_
  · intro f_r31_Sized_l1 ih_r31_Sized_l1 p r e t4_0 t5_0 t6_0 a0 hp
    subst hp
    refine RunsL.of_awp (js := []) T_ok ?_; conv => whnf
    refine ⟨⟨fun h7 => ?_, fun h7 => ?_⟩⟩
    · replace e := ifp h7 e; conv => whnf
      refine RunsL.runs (RunsL.weak (ih_r31_Sized_l1 _ _ e _ _ _ _ _ _ _ rfl) ?_)
      repeat' first | exact wk.of_eq rfl | exact rfl | exact trivial | refine ⟨?_, ?_⟩
    · replace e := ifn h7 e; conv => whnf
      obtain rfl := sm e
      repeat' first | exact rfl | exact trivial | refine ⟨?_, ?_⟩
  · intro f_r31_Sized_l0 f_r31_Sized_l1 ih_r31_Sized_l0 ih_r31_Sized_l1 p r e t4_1 t5_1 t6_1 t7_1 t8_1 t9_1 a0 hp
    subst hp
    refine RunsL.of_awp (js := []) T_ok ?_; conv => whnf
    obtain ⟨v10, qv10, e⟩ := bnd e
    obtain ⟨qv10k, qv10a, qv10b⟩ := geti_some qv10
    refine ⟨qv10k, _, qv10a, intDs_i64s_get qv10b, ?_⟩; conv => whnf
    refine ⟨intDs_i64s_fit _ rfl rfl, ?_⟩; conv => whnf
    refine ⟨⟨fun h11 => ?_, fun h11 => ?_⟩⟩
    · replace e := ifp h11 e; conv => whnf
      obtain ⟨v12, qv12, e⟩ := bnd e
      obtain ⟨qv12k, qv12a, qv12b⟩ := geti_some qv12
      refine ⟨qv12k, _, qv12a, intDs_i64s_get qv12b, ?_⟩; conv => whnf
      refine ⟨intDs_i64s_fit _ rfl rfl, ?_⟩; conv => whnf
      obtain ⟨v13, qv13, e⟩ := bnd e
      obtain ⟨qv13k, qv13a, qv13b⟩ := geti_some qv13
      refine ⟨qv13k, _, qv13a, intDs_i64_get qv13b, ?_⟩; conv => whnf
      refine ⟨intDs_i64_fit _ rfl rfl, ?_⟩; conv => whnf
      obtain ⟨v14, qv14, e⟩ := bnd e
      obtain ⟨qv14k, qv14a, qv14b⟩ := geti_some qv14
      refine ⟨qv14k, _, qv14a, (intDs_i64_get qv14b), ?_⟩; conv => whnf
      refine ⟨intDs_i64_fit _ rfl rfl, ?_⟩; conv => whnf
      obtain ⟨v15, qv15, e⟩ := bnd e
      refine ⟨v15, sm qv15, ?_⟩; conv => whnf
      obtain ⟨v16, qv16, e⟩ := bnd e
      obtain ⟨qv16k, qv16a, qv16b⟩ := geti_some qv16
      refine ⟨qv16k, _, qv16a, intDs_i64s_get qv16b, ?_⟩; conv => whnf
      refine ⟨intDs_i64s_fit _ rfl rfl, ?_⟩; conv => whnf
      obtain ⟨v17, qv17, e⟩ := bnd e
      obtain ⟨qv17k, qv17a, qv17b⟩ := geti_some qv17
      refine ⟨qv17k, _, qv17a, intDs_i64_get qv17b, ?_⟩; conv => whnf
      refine ⟨intDs_i64_fit _ rfl rfl, ?_⟩; conv => whnf
      obtain ⟨v18, qv18, e⟩ := bnd e
      obtain ⟨qv18k, qv18a, qv18b⟩ := geti_some qv18
      refine ⟨qv18k, _, qv18a, (intDs_i64_get qv18b), ?_⟩; conv => whnf
      refine ⟨intDs_i64_fit _ rfl rfl, ?_⟩; conv => whnf
      obtain ⟨v19, qv19, e⟩ := bnd e
      refine ⟨v19, sm qv19, ?_⟩; conv => whnf
      refine (RunsL.weak (ih_r31_Sized_l1 _ _ e _ _ _ _ _ _ _ rfl) ?_)
      repeat' first | exact wk.of_eq rfl | exact rfl | exact trivial | refine ⟨?_, ?_⟩
    · replace e := ifn h11 e; conv => whnf
      refine ⟨⟨⟨rfl, rfl⟩, trivial⟩, ?_⟩; conv => whnf
      obtain ⟨v12, qv12, e⟩ := bnd e
      obtain ⟨qv12l, qv12e⟩ := app_some qv12
      refine ⟨(by simpa [ia, intDs_i64s_all, listAll] using qv12l), rfl, (by rfl), ?_⟩; conv => whnf
      obtain ⟨v13, qv13, e⟩ := bnd e
      refine ⟨v13, sm qv13, ?_⟩; conv => whnf
      refine ⟨⟨⟨rfl, rfl⟩, trivial⟩, ?_⟩; conv => whnf
      obtain ⟨v14, qv14, e⟩ := bnd e
      obtain ⟨qv14l, qv14e⟩ := app_some qv14
      refine ⟨(by simpa [ia, intDs_i64s_all, listAll] using qv14l), rfl, (by rfl), ?_⟩; conv => whnf
      obtain ⟨v15, qv15, e⟩ := bnd e
      refine ⟨v15, sm qv15, ?_⟩; conv => whnf
      refine (RunsL.weak (ih_r31_Sized_l0 _ _ e _ _ _ _ rfl) ?_)
      repeat' first | exact wk.of_eq rfl | exact rfl | exact trivial | refine ⟨?_, ?_⟩ | (refine wk.of_eq ?_; (conv => lhs; whnf); (simp [ia, intDs_i64s_all, listAll, qv12e, qv14e] <;> (repeat' first | rfl | apply And.intro)); done) | ((simp [ia, intDs_i64s_all, listAll, qv12e, qv14e] <;> (repeat' first | rfl | apply And.intro)); done)
theorem P_r31_Sized_l0 {t4_0 : (List Int)} {t5_0 : (List Int)} {t6_0 : Int} {a0 : (List (List Int))} {r : ((List Int) × (List Int))} (e : r31_Sized_l0 t4_0 t5_0 t6_0 a0 = some r) : M_r31_Sized_l0 t4_0 t5_0 t6_0 a0 r := G_r31_Sized_l0.1 _ _ e _ _ _ _ rfl
theorem P_r31_Sized {a0 : (List (List Int))} {r : ((List Int) × (List Int))} (e : r31_Sized a0 = some r) : Pure Try.prog 62 [(.slice 1 (intDs_i64s a0))] (.tuple [(.slice 1 (intDs_i64 r.1)), (.slice 1 (intDs_i64 r.2))]) := by
  unfold r31_Sized at e
  refine pure_of_awp (js := []) T_ok Try.func62 rfl (by decide +kernel) rfl ?_; conv => whnf
  refine Runs.hold 1 ?_
  refine Runs.hold 1 ?_
  refine RunsL.runs (RunsL.weak (P_r31_Sized_l0 e) ?_)
  repeat' first | exact wk.of_eq rfl | exact wk.hold _ _ _ | exact rfl | exact trivial | refine ⟨?_, ?_⟩
def M_r31_ints_l0 (rest0 : (List Int)) (k0 : Nat) (a1 : (List Int)) (r : Bool) : Prop := ∀ (a0 : (List Int)) (hd0 : rest0 = a0.drop k0), LoopAt T Try.prog Try.f88 Fx0 [] [1, 1, 0, 1, 0] (EP T Try.f88 (.bool r)) [(0, .d (.slice 1 (intDs_i64 a0))), (1, .d (.slice 1 (intDs_i64 a1))), (5, .d (.int .i64 (k0 : Int)))] [[]]
theorem G_r31_ints_l0 : (∀ p r, r31_ints_l0' p = some r → ∀ rest0 k0 a1, (rest0, k0, a1) = p → M_r31_ints_l0 rest0 k0 a1 r) := by
  refine r31_ints_l0'.partial_correctness (fun (p : ((List Int) × Nat × (List Int))) (r : Bool) => ∀ (rest0 : (List Int)) (k0 : Nat) (a1 : (List Int)), (rest0, k0, a1) = p → M_r31_ints_l0 rest0 k0 a1 r) ?_
  · intro f_r31_ints_l0 ih_r31_ints_l0 p r e rest0 k0 a1 hp
    subst hp
    intro a0 hd0
    refine RunsL.len_tmp 0 rfl fun hlenk0 => ?_
    refine RunsL.of_awp (js := []) T_ok ?_; conv => whnf
    have hls := intDs_i64_len a0
    cases rest0 with
    | nil =>
      have hk := drop_nil hd0
      refine ⟨⟨fun h => absurd h (by omega), fun _ => ?_⟩⟩; conv => whnf
      obtain rfl := sm e
      exact rfl
    | cons v6 rest0 =>
      obtain ⟨hxv6, hd0, hltv6⟩ := drop_head hd0
      refine ⟨⟨fun _ => ?_, fun h => absurd (by omega) h⟩⟩; conv => whnf
      refine draw_rule [] T_ok mixed r31_ints_pl6 (by decide +kernel) ?_; conv => whnf
      refine ⟨k0, _, rfl, intDs_i64_get hxv6, ?_⟩; conv => whnf
      refine ⟨intDs_i64_fit _ rfl rfl, ?_⟩; conv => whnf
      obtain ⟨v7, qv7, e⟩ := bnd e
      obtain ⟨qv7k, qv7a, qv7b⟩ := geti_some qv7
      refine ⟨qv7k, _, qv7a, intDs_i64_get qv7b, ?_⟩; conv => whnf
      refine ⟨intDs_i64_fit _ rfl rfl, ?_⟩; conv => whnf
      refine ⟨⟨fun h8 => ?_, fun h8 => ?_⟩⟩
      · replace e := ifp h8 e; conv => whnf
        obtain rfl := sm e
        exact rfl
      · replace e := ifn h8 e; conv => whnf
        refine ⟨((k0 + 1 : Nat) : Int), wrap64e (by omega) (by omega) (by omega), ?_⟩; conv => whnf
        refine (RunsL.weak ((ih_r31_ints_l0 _ _ e _ _ _ rfl) a0 hd0) ?_)
        repeat' first | exact wk.of_eq rfl | exact rfl | exact trivial | refine ⟨?_, ?_⟩
theorem P_r31_ints_l0 {rest0 : (List Int)} {k0 : Nat} {a1 : (List Int)} {r : Bool} (e : r31_ints_l0 rest0 k0 a1 = some r) : M_r31_ints_l0 rest0 k0 a1 r := G_r31_ints_l0 _ _ e _ _ _ rfl
theorem P_r31_ints {a0 : (List Int)} {a1 : (List Int)} {r : Bool} (e : r31_ints a0 a1 = some r) : Pure Try.prog 88 [(.slice 1 (intDs_i64 a0)), (.slice 1 (intDs_i64 a1))] (.bool r) := by
  unfold r31_ints at e
  refine pure_of_awp (js := []) T_ok Try.func88 rfl (by decide +kernel) rfl ?_; conv => whnf
  refine ⟨⟨fun h1 => ?_, fun h1 => ?_⟩⟩
  · replace e := ifp h1 e; conv => whnf
    obtain rfl := sm e
    exact rfl
  · replace e := ifn h1 e; conv => whnf
    refine RunsL.runs (RunsL.weak ((P_r31_ints_l0 e) a0 (by simp)) ?_)
    repeat' first | exact wk.of_eq rfl | exact rfl | exact trivial | refine ⟨?_, ?_⟩
theorem P_r31_sameType {a0 : YN} {a1 : YN} {r : Bool} (e : r31_sameType a0 a1 = some r) : Pure Try.prog 51 [(YN.D a0), (YN.D a1)] (.bool r) := by
  unfold r31_sameType at e
  refine pure_of_awp (js := []) T_ok Try.func51 rfl (by decide +kernel) rfl ?_; conv => whnf
  refine ⟨⟨fun h1 => ?_, fun h1 => ?_⟩⟩
  · replace e := ifp h1 e; conv => whnf
    refine ⟨⟨fun h2 => ?_, fun h2 => ?_⟩⟩
    · replace e := ifp h2 e; conv => whnf
      obtain ⟨v3, qv3, e⟩ := bnd e
      refine said_pure (P_r31_ints qv3) rfl ?_; conv => whnf
      obtain rfl := sm e
      exact rfl
    · replace e := ifn h2 e; conv => whnf
      obtain rfl := sm e
      exact rfl
  · replace e := ifn h1 e; conv => whnf
    obtain rfl := sm e
    exact rfl
def M_r31_typesValid_l2 (rest2 : (List YN)) (k2 : Nat) (v5 : ((List Int) × (List Int))) (r : Bool) : Prop := ∀ (a0 : (List YN)) (hd2 : rest2 = a0.drop k2), LoopAt T Try.prog Try.f91 Fx0 [13, 7] [1, 1, 1, 1, 0, 1, 0] (EP T Try.f91 (.bool r)) [(0, .d (.slice 3 (YN.Ds a0))), (6, .d (.slice 1 (intDs_i64 v5.1))), (7, .d (.slice 1 (intDs_i64 v5.2))), (8, .d (.int .i64 (k2 : Int)))] [[]]
theorem G_r31_typesValid_l2 : (∀ p r, r31_typesValid_l2' p = some r → ∀ rest2 k2 v5, (rest2, k2, v5) = p → M_r31_typesValid_l2 rest2 k2 v5 r) := by
  refine r31_typesValid_l2'.partial_correctness (fun (p : ((List YN) × Nat × ((List Int) × (List Int)))) (r : Bool) => ∀ (rest2 : (List YN)) (k2 : Nat) (v5 : ((List Int) × (List Int))), (rest2, k2, v5) = p → M_r31_typesValid_l2 rest2 k2 v5 r) ?_
  · intro f_r31_typesValid_l2 ih_r31_typesValid_l2 p r e rest2 k2 v5 hp
    subst hp
    intro a0 hd2
    refine RunsL.len_tmp 0 rfl fun hlenk2 => ?_
    refine RunsL.of_awp (js := [13, 7]) T_ok ?_; conv => whnf
    have hls := YN.Ds_len a0
    cases rest2 with
    | nil =>
      have hk := drop_nil hd2
      refine ⟨⟨fun h => absurd h (by omega), fun _ => ?_⟩⟩; conv => whnf
      obtain rfl := sm e
      exact rfl
    | cons v9 rest2 =>
      obtain ⟨hxv9, hd2, hltv9⟩ := drop_head hd2
      refine ⟨⟨fun _ => ?_, fun h => absurd (by omega) h⟩⟩; conv => whnf
      obtain ⟨v10, qv10, e⟩ := bnd e
      obtain ⟨qv10k, qv10a, qv10b⟩ := geti_some qv10
      refine ⟨qv10k, _, qv10a, intDs_i64_get qv10b, ?_⟩; conv => whnf
      refine ⟨intDs_i64_fit _ rfl rfl, ?_⟩; conv => whnf
      refine ⟨⟨fun h11 => ?_, fun h11 => ?_⟩⟩
      · replace e := ifp h11 e; conv => whnf
        obtain rfl := sm e
        exact rfl
      · replace e := ifn h11 e; conv => whnf
        obtain ⟨v12, qv12, e⟩ := bnd e
        obtain ⟨qv12k, qv12a, qv12b⟩ := geti_some qv12
        refine ⟨qv12k, _, qv12a, intDs_i64_get qv12b, ?_⟩; conv => whnf
        refine ⟨intDs_i64_fit _ rfl rfl, ?_⟩; conv => whnf
        refine ⟨⟨fun h13 => ?_, fun h13 => ?_⟩⟩
        · replace e := ifp h13 e; conv => whnf
          obtain rfl := sm e
          exact rfl
        · replace e := ifn h13 e; conv => whnf
          refine ⟨((k2 + 1 : Nat) : Int), wrap64e (by omega) (by omega) (by omega), ?_⟩; conv => whnf
          refine (RunsL.weak ((ih_r31_typesValid_l2 _ _ e _ _ _ rfl) a0 hd2) ?_)
          repeat' first | exact wk.of_eq rfl | exact rfl | exact trivial | refine ⟨?_, ?_⟩
theorem P_r31_typesValid_l2 {rest2 : (List YN)} {k2 : Nat} {v5 : ((List Int) × (List Int))} {r : Bool} (e : r31_typesValid_l2 rest2 k2 v5 = some r) : M_r31_typesValid_l2 rest2 k2 v5 r := G_r31_typesValid_l2 _ _ e _ _ _ rfl
theorem P_r31_typesValid_j1 {a0 : (List YN)} {t3_0 : (List (List Int))} {r : Bool} (e : r31_typesValid_j1 a0 t3_0 = some r) : JoinAt T Try.prog Try.f91 Fx0 [13, 7] [1, 1, 1, 0] (EP T Try.f91 (.bool r)) [(0, .d (.slice 3 (YN.Ds a0))), (3, .own 0 0 1 (intDs_i64s t3_0))] [[.grow 1 (intDs_i64s t3_0).length]] := by
  unfold r31_typesValid_j1 at e
  refine Runs.enter T_ok ?_; conv => whnf
  obtain ⟨v5, qv5, e⟩ := bnd e
  first | (refine said_pure (P_r31_Sized qv5) rfl ?_) | (refine said_pure2 (P_r31_Sized qv5) rfl (by simp [YN.Ds_all, ia, intDs_i64s_all, YN.D, listAll] <;> (repeat' first | rfl | apply And.intro)) ?_)
  (conv => whnf)
  refine RunsL.runs (RunsL.weak ((P_r31_typesValid_l2 e) a0 (by simp)) ?_)
  repeat' first | exact wk.of_eq rfl | exact rfl | exact trivial | refine ⟨?_, ?_⟩
def M_r31_typesValid_l0 (t3_0 : (List (List Int))) (t4_0 : Int) (a0 : (List YN)) (r : Bool) : Prop := LoopAt T Try.prog Try.f91 Fx0 [13, 7] [1, 1, 0, 1, 0] (EP T Try.f91 (.bool r)) [(0, .d (.slice 3 (YN.Ds a0))), (3, .own 0 0 1 (intDs_i64s t3_0)), (4, .d (.int .i64 t4_0))] [[.grow 1 (intDs_i64s t3_0).length]]
def M_r31_typesValid_j0 (a0 : (List YN)) (t3_0 : (List (List Int))) (t4_0 : Int) (r : Bool) : Prop := JoinAt T Try.prog Try.f91 Fx0 [13, 7] [1, 1, 0, 1, 0, 0, 1, 0, 0, 1, 0, 0] (EP T Try.f91 (.bool r)) [(0, .d (.slice 3 (YN.Ds a0))), (3, .own 0 0 1 (intDs_i64s t3_0)), (4, .d (.int .i64 t4_0))] [[.grow 1 (intDs_i64s t3_0).length]]
def M_r31_typesValid_l1 (t3_1 : (List (List Int))) (t4_1 : Int) (t5_1 : Int) (a0 : (List YN)) (r : Bool) : Prop := LoopAt T Try.prog Try.f91 Fx0 [13, 7] [1, 1, 0, 1, 0, 0, 1, 0, 0, 1, 0, 1, 0] (EP T Try.f91 (.bool r)) [(0, .d (.slice 3 (YN.Ds a0))), (3, .own 0 0 1 (intDs_i64s t3_1)), (4, .d (.int .i64 t4_1)), (5, .d (.int .i64 t5_1))] [[.grow 1 (intDs_i64s t3_1).length]]
theorem G_r31_typesValid_l0 : (∀ p r, r31_typesValid_l0' p = some r → ∀ t3_0 t4_0 a0, (t3_0, t4_0, a0) = p → M_r31_typesValid_l0 t3_0 t4_0 a0 r) ∧
    (∀ p r, r31_typesValid_j0' p = some r → ∀ a0 t3_0 t4_0, (a0, t3_0, t4_0) = p → M_r31_typesValid_j0 a0 t3_0 t4_0 r) ∧
    (∀ p r, r31_typesValid_l1' p = some r → ∀ t3_1 t4_1 t5_1 a0, (t3_1, t4_1, t5_1, a0) = p → M_r31_typesValid_l1 t3_1 t4_1 t5_1 a0 r) := by
  refine r31_typesValid_l0'.mutual_partial_correctness (fun (p : ((List (List Int)) × Int × (List YN))) (r : Bool) => ∀ (t3_0 : (List (List Int))) (t4_0 : Int) (a0 : (List YN)), (t3_0, t4_0, a0) = p → M_r31_typesValid_l0 t3_0 t4_0 a0 r) (fun (p : ((List YN) × (List (List Int)) × Int)) (r : Bool) => ∀ (a0 : (List YN)) (t3_0 : (List (List Int))) (t4_0 : Int), (a0, t3_0, t4_0) = p → M_r31_typesValid_j0 a0 t3_0 t4_0 r) (fun (p : ((List (List Int)) × Int × Int × (List YN))) (r : Bool) => ∀ (t3_1 : (List (List Int))) (t4_1 : Int) (t5_1 : Int) (a0 : (List YN)), (t3_1, t4_1, t5_1, a0) = p → M_r31_typesValid_l1 t3_1 t4_1 t5_1 a0 r) ?_ ?_ ?_
  · intro f_r31_typesValid_j0 ih_r31_typesValid_j0 p r e t3_0 t4_0 a0 hp
    subst hp
    refine RunsL.of_awp (js := [13, 7]) T_ok ?_; conv => whnf
    refine ⟨⟨fun h17 => ?_, fun h17 => ?_⟩⟩
    · replace e := ifp h17 e; conv => whnf
      refine draw_rule [] T_ok mixed r31_typesValid_pl5 (by decide +kernel) ?_; conv => whnf
      obtain ⟨v18, qv18, e⟩ := bnd e
      obtain ⟨qv18k, qv18a, qv18b⟩ := geti_some qv18
      refine ⟨qv18k, _, qv18a, YN.Ds_get qv18b, ?_⟩; conv => whnf
      refine brK.split (fun hb19 => ?_) (fun hb19 => ?_)
      · replace e := ifpb hb19 e; conv => whnf
        refine brK.tt hb19 ?_; conv => whnf
        refine brK.tt hb19 ?_; conv => whnf
        obtain ⟨v20, qv20, e⟩ := bnd e
        obtain ⟨qv20k, qv20a, qv20b⟩ := geti_some qv20
        refine ⟨qv20k, _, qv20a, YN.Ds_get qv20b, ?_⟩; conv => whnf
        refine brK.tt hb19 ?_; conv => whnf
        refine brK.tt hb19 ?_; conv => whnf
        refine brK.tt hb19 ?_; conv => whnf
        refine brK.tt hb19 ?_; conv => whnf
        refine ⟨⟨fun h21 => ?_, fun h21 => ?_⟩⟩
        · replace e := ifp h21 e; conv => whnf
          refine brK.tt hb19 ?_; conv => whnf
          obtain rfl := sm e
          exact rfl
        · replace e := ifn h21 e; conv => whnf
          refine brK.tt hb19 ?_; conv => whnf
          obtain ⟨v22, qv22, e⟩ := bnd e
          obtain ⟨qv22k, qv22a, qv22b⟩ := geti_some qv22
          refine ⟨qv22k, _, qv22a, YN.Ds_get qv22b, ?_⟩; conv => whnf
          refine ⟨⟨fun h23 => ?_, fun h23 => ?_⟩⟩
          · replace e := ifp h23 e; conv => whnf
            obtain rfl := sm e
            exact rfl
          · replace e := ifn h23 e; conv => whnf
            obtain ⟨v24, qv24, e⟩ := bnd e
            obtain ⟨qv24k, qv24a, qv24b⟩ := geti_some qv24
            refine ⟨qv24k, _, qv24a, YN.Ds_get qv24b, ?_⟩; conv => whnf
            obtain ⟨v25, qv25, e⟩ := bnd e
            obtain ⟨qv25k, qv25a, qv25b⟩ := geti_some qv25
            refine ⟨qv25k, _, qv25a, YN.Ds_get qv25b, ?_⟩; conv => whnf
            obtain ⟨v26, qv26, e⟩ := bnd e
            refine said_pure (P_r01_Valid qv26) rfl ⟨Keeps.refl _ _, ?_⟩; conv => whnf
            refine brK.nsplit (fun hb27 => ?_) (fun hb27 => ?_)
            · replace e := ifpb hb27 e; conv => whnf
              refine brK.ntt hb27 ?_; conv => whnf
              refine brK.ntt hb27 ?_; conv => whnf
              obtain ⟨v28, qv28, e⟩ := bnd e
              obtain ⟨qv28k, qv28a, qv28b⟩ := geti_some qv28
              refine ⟨qv28k, _, qv28a, YN.Ds_get qv28b, ?_⟩; conv => whnf
              refine brK.ntt hb27 ?_; conv => whnf
              refine brK.ntt hb27 ?_; conv => whnf
              refine brK.ntt hb27 ?_; conv => whnf
              refine brK.ntt hb27 ?_; conv => whnf
              obtain ⟨v29, qv29, e⟩ := bnd e
              refine said_pure (P_r31_below qv29) rfl ⟨Keeps.refl _ _, ?_⟩; conv => whnf
              refine brK.ntt hb27 ?_; conv => whnf
              refine brK.ntt hb27 ?_; conv => whnf
              refine brK.nsplit (fun hb30 => ?_) (fun hb30 => ?_)
              · replace e := ifpb hb30 e; conv => whnf
                refine Runs.weak (ih_r31_typesValid_j0 _ _ e _ _ _ rfl) ?_
                repeat' first | exact wk.of_eq rfl | exact rfl | exact trivial | refine ⟨?_, ?_⟩
              · replace e := ifnb hb30 e; conv => whnf
                obtain rfl := sm e
                exact rfl
            · replace e := ifnb hb27 e; conv => whnf
              refine brK.nff hb27 ?_; conv => whnf
              refine brK.nff hb27 ?_; conv => whnf
              refine brK.nff hb27 ?_; conv => whnf
              refine brK.nff hb27 ?_; conv => whnf
              refine brK.nff hb27 ?_; conv => whnf
              refine brK.nff hb27 ?_; conv => whnf
              refine brK.nff hb27 ?_; conv => whnf
              refine brK.nff hb27 ?_; conv => whnf
              obtain rfl := sm e
              exact rfl
      · replace e := ifnb hb19 e; conv => whnf
        refine brK.ff hb19 ?_; conv => whnf
        refine brK.ff hb19 ?_; conv => whnf
        refine brK.ff hb19 ?_; conv => whnf
        refine brK.ff hb19 ?_; conv => whnf
        refine brK.ff hb19 ?_; conv => whnf
        refine brK.ff hb19 ?_; conv => whnf
        refine brK.ff hb19 ?_; conv => whnf
        obtain ⟨v20, qv20, e⟩ := bnd e
        obtain ⟨qv20k, qv20a, qv20b⟩ := geti_some qv20
        refine ⟨qv20k, _, qv20a, YN.Ds_get qv20b, ?_⟩; conv => whnf
        refine ⟨⟨fun h21 => ?_, fun h21 => ?_⟩⟩
        · replace e := ifp h21 e; conv => whnf
          obtain rfl := sm e
          exact rfl
        · replace e := ifn h21 e; conv => whnf
          obtain ⟨v22, qv22, e⟩ := bnd e
          obtain ⟨qv22k, qv22a, qv22b⟩ := geti_some qv22
          refine ⟨qv22k, _, qv22a, YN.Ds_get qv22b, ?_⟩; conv => whnf
          obtain ⟨v23, qv23, e⟩ := bnd e
          obtain ⟨qv23k, qv23a, qv23b⟩ := geti_some qv23
          refine ⟨qv23k, _, qv23a, YN.Ds_get qv23b, ?_⟩; conv => whnf
          obtain ⟨v24, qv24, e⟩ := bnd e
          refine said_pure (P_r01_Valid qv24) rfl ⟨Keeps.refl _ _, ?_⟩; conv => whnf
          refine brK.nsplit (fun hb25 => ?_) (fun hb25 => ?_)
          · replace e := ifpb hb25 e; conv => whnf
            refine brK.ntt hb25 ?_; conv => whnf
            refine brK.ntt hb25 ?_; conv => whnf
            obtain ⟨v26, qv26, e⟩ := bnd e
            obtain ⟨qv26k, qv26a, qv26b⟩ := geti_some qv26
            refine ⟨qv26k, _, qv26a, YN.Ds_get qv26b, ?_⟩; conv => whnf
            refine brK.ntt hb25 ?_; conv => whnf
            refine brK.ntt hb25 ?_; conv => whnf
            refine brK.ntt hb25 ?_; conv => whnf
            refine brK.ntt hb25 ?_; conv => whnf
            obtain ⟨v27, qv27, e⟩ := bnd e
            refine said_pure (P_r31_below qv27) rfl ⟨Keeps.refl _ _, ?_⟩; conv => whnf
            refine brK.ntt hb25 ?_; conv => whnf
            refine brK.ntt hb25 ?_; conv => whnf
            refine brK.nsplit (fun hb28 => ?_) (fun hb28 => ?_)
            · replace e := ifpb hb28 e; conv => whnf
              refine Runs.weak (ih_r31_typesValid_j0 _ _ e _ _ _ rfl) ?_
              repeat' first | exact wk.of_eq rfl | exact rfl | exact trivial | refine ⟨?_, ?_⟩
            · replace e := ifnb hb28 e; conv => whnf
              obtain rfl := sm e
              exact rfl
          · replace e := ifnb hb25 e; conv => whnf
            refine brK.nff hb25 ?_; conv => whnf
            refine brK.nff hb25 ?_; conv => whnf
            refine brK.nff hb25 ?_; conv => whnf
            refine brK.nff hb25 ?_; conv => whnf
            refine brK.nff hb25 ?_; conv => whnf
            refine brK.nff hb25 ?_; conv => whnf
            refine brK.nff hb25 ?_; conv => whnf
            refine brK.nff hb25 ?_; conv => whnf
            obtain rfl := sm e
            exact rfl
    · replace e := ifn h17 e; conv => whnf
      refine Runs.weak (P_r31_typesValid_j1 e) ?_
      repeat' first | exact wk.of_eq rfl | exact rfl | exact trivial | refine ⟨?_, ?_⟩
  · intro f_r31_typesValid_l1 ih_r31_typesValid_l1 p r e a0 t3_0 t4_0 hp
    subst hp
    refine Runs.enter T_ok ?_; conv => whnf
    refine RunsL.runs (RunsL.weak (ih_r31_typesValid_l1 _ _ e _ _ _ _ rfl) ?_)
    repeat' first | exact wk.of_eq rfl | exact rfl | exact trivial | refine ⟨?_, ?_⟩
  · intro f_r31_typesValid_l0 f_r31_typesValid_l1 ih_r31_typesValid_l0 ih_r31_typesValid_l1 p r e t3_1 t4_1 t5_1 a0 hp
    subst hp
    refine RunsL.of_awp (js := [13, 7]) T_ok ?_; conv => whnf
    refine ⟨⟨fun h30 => ?_, fun h30 => ?_⟩⟩
    · replace e := ifp h30 e; conv => whnf
      refine draw_rule [] T_ok mixed r31_typesValid_pl10 (by decide +kernel) ?_; conv => whnf
      obtain ⟨v31, qv31, e⟩ := bnd e
      obtain ⟨qv31k, qv31a, qv31b⟩ := geti_some qv31
      refine ⟨qv31k, _, qv31a, YN.Ds_get qv31b, ?_⟩; conv => whnf
      refine ⟨YN.Ds_fit _ rfl rfl, ?_⟩; conv => whnf
      obtain ⟨v32, qv32, e⟩ := bnd e
      obtain ⟨qv32k, qv32a, qv32b⟩ := geti_some qv32
      refine ⟨qv32k, _, qv32a, YN.Ds_get qv32b, ?_⟩; conv => whnf
      refine ⟨YN.Ds_fit _ rfl rfl, ?_⟩; conv => whnf
      obtain ⟨v33, qv33, e⟩ := bnd e
      refine said_pure (P_r31_sameType qv33) rfl ⟨Keeps.refl _ _, ?_⟩; conv => whnf
      refine brK.split (fun hb34 => ?_) (fun hb34 => ?_)
      · replace e := ifpb hb34 e; conv => whnf
        obtain rfl := sm e
        exact rfl
      · replace e := ifnb hb34 e; conv => whnf
        obtain ⟨v35, qv35, e⟩ := bnd e
        refine ⟨v35, sm qv35, ?_⟩; conv => whnf
        refine (RunsL.weak (ih_r31_typesValid_l1 _ _ e _ _ _ _ rfl) ?_)
        repeat' first | exact wk.of_eq rfl | exact rfl | exact trivial | refine ⟨?_, ?_⟩
    · replace e := ifn h30 e; conv => whnf
      obtain ⟨v31, qv31, e⟩ := bnd e
      obtain ⟨qv31k, qv31a, qv31b⟩ := geti_some qv31
      refine ⟨qv31k, _, qv31a, YN.Ds_get qv31b, ?_⟩; conv => whnf
      refine ⟨⟨⟨rfl, rfl⟩, trivial⟩, ?_⟩; conv => whnf
      obtain ⟨v32, qv32, e⟩ := bnd e
      obtain ⟨qv32l, qv32e⟩ := app_some qv32
      refine ⟨(by simpa [YN.Ds_all, ia, intDs_i64s_all, YN.D, listAll] using qv32l), rfl, (by rfl), ?_⟩; conv => whnf
      obtain ⟨v33, qv33, e⟩ := bnd e
      refine ⟨v33, sm qv33, ?_⟩; conv => whnf
      refine (RunsL.weak (ih_r31_typesValid_l0 _ _ e _ _ _ rfl) ?_)
      repeat' first | exact wk.of_eq rfl | exact rfl | exact trivial | refine ⟨?_, ?_⟩ | (refine wk.of_eq ?_; (conv => lhs; whnf); (simp [YN.Ds_all, ia, intDs_i64s_all, YN.D, listAll, qv32e] <;> (repeat' first | rfl | apply And.intro)); done) | ((simp [YN.Ds_all, ia, intDs_i64s_all, YN.D, listAll, qv32e] <;> (repeat' first | rfl | apply And.intro)); done)
theorem P_r31_typesValid_l0 {t3_0 : (List (List Int))} {t4_0 : Int} {a0 : (List YN)} {r : Bool} (e : r31_typesValid_l0 t3_0 t4_0 a0 = some r) : M_r31_typesValid_l0 t3_0 t4_0 a0 r := G_r31_typesValid_l0.1 _ _ e _ _ _ rfl
theorem P_r31_typesValid {a0 : (List YN)} {r : Bool} (e : r31_typesValid a0 = some r) : Pure Try.prog 91 [(.slice 3 (YN.Ds a0))] (.bool r) := by
  unfold r31_typesValid at e
  refine pure_of_awp (js := [13, 7]) T_ok Try.func91 rfl (by decide +kernel) rfl ?_; conv => whnf
  refine Runs.hold 1 ?_
  refine RunsL.runs (RunsL.weak (P_r31_typesValid_l0 e) ?_)
  repeat' first | exact wk.of_eq rfl | exact wk.hold _ _ _ | exact rfl | exact trivial | refine ⟨?_, ?_⟩
theorem P_r02_Name {a0 : ByteArray} {r : Bool} (e : r02_Name a0 = some r) : Pure Try.prog 109 [(.str a0)] (.bool r) := by
  unfold r02_Name at e
  refine pure_of_awp (js := []) T_ok Try.func109 rfl (by decide +kernel) rfl ?_; conv => whnf
  obtain ⟨v1, qv1, e⟩ := bnd e
  refine said_pure (P_r01_Name qv1) rfl ?_; conv => whnf
  refine brK.split (fun hb2 => ?_) (fun hb2 => ?_)
  · replace e := ifpb hb2 e; conv => whnf
    refine brK.tt hb2 ?_; conv => whnf
    obtain ⟨v3, qv3, e⟩ := bnd e
    obtain ⟨qv3k, qv3q, qv3a, qv3b, qv3c⟩ := getb_some qv3
    refine ⟨qv3k, qv3q, qv3a, qv3b, ?_⟩; rw [qv3c]; conv => whnf
    refine brK.tt hb2 ?_; conv => whnf
    refine test.dec ?_; conv => whnf
    refine brK.tt hb2 ?_; conv => whnf
    obtain rfl := sm e
    exact rfl
  · replace e := ifnb hb2 e; conv => whnf
    refine brK.ff hb2 ?_; conv => whnf
    refine brK.ff hb2 ?_; conv => whnf
    refine brK.ff hb2 ?_; conv => whnf
    obtain rfl := sm e
    exact rfl
theorem P_r31_fine_j1 {t8_1 : Bool} {a0 : XN} {t7_0 : Bool} {r : Bool} (e : r31_fine_j1 t8_1 a0 t7_0 = some r) : JoinAt T Try.prog Try.f92 Fx0 [4, 5] [1, 1, 1, 1, 0, 0] (EP T Try.f92 (.bool r)) [(3, .ptr 0 0 0), (7, .d (.bool t7_0)), (8, .d (.bool t8_1))] [[.cells [.d (.int .u8 a0.kind), .d (.str a0.name), .d (.int .i64 a0.type_), .d (.int .i64 a0.index), .d (.slice 1 (intDs_i64 a0.sub))]]] := by
  unfold r31_fine_j1 at e
  refine Runs.enter T_ok ?_; conv => whnf
  refine ⟨⟨fun h9 => ?_, fun h9 => ?_⟩⟩
  · replace e := ifp h9 e; conv => whnf
    refine brK.split (fun hb10 => ?_) (fun hb10 => ?_)
    · replace e := ifpb hb10 e; conv => whnf
      refine brK.tt hb10 ?_; conv => whnf
      refine brK.tt hb10 ?_; conv => whnf
      refine brK.tt hb10 ?_; conv => whnf
      refine test.dec ?_; conv => whnf
      refine brK.tt hb10 ?_; conv => whnf
      obtain rfl := sm e
      exact rfl
    · replace e := ifnb hb10 e; conv => whnf
      refine brK.ff hb10 ?_; conv => whnf
      refine brK.ff hb10 ?_; conv => whnf
      refine brK.ff hb10 ?_; conv => whnf
      refine brK.ff hb10 ?_; conv => whnf
      obtain rfl := sm e
      exact rfl
  · replace e := ifn h9 e; conv => whnf
    refine ⟨⟨fun h10 => ?_, fun h10 => ?_⟩⟩
    · replace e := ifp h10 e; conv => whnf
      refine brK.split (fun hb11 => ?_) (fun hb11 => ?_)
      · replace e := ifpb hb11 e; conv => whnf
        refine brK.tt hb11 ?_; conv => whnf
        refine brK.tt hb11 ?_; conv => whnf
        refine brK.tt hb11 ?_; conv => whnf
        refine test.dec ?_; conv => whnf
        refine brK.tt hb11 ?_; conv => whnf
        obtain rfl := sm e
        exact rfl
      · replace e := ifnb hb11 e; conv => whnf
        refine brK.ff hb11 ?_; conv => whnf
        refine brK.ff hb11 ?_; conv => whnf
        refine brK.ff hb11 ?_; conv => whnf
        refine brK.ff hb11 ?_; conv => whnf
        obtain rfl := sm e
        exact rfl
    · replace e := ifn h10 e; conv => whnf
      refine ⟨⟨fun h11 => ?_, fun h11 => ?_⟩⟩
      · replace e := ifp h11 e; conv => whnf
        refine brK.split (fun hb12 => ?_) (fun hb12 => ?_)
        · replace e := ifpb hb12 e; conv => whnf
          refine brK.tt hb12 ?_; conv => whnf
          refine brK.tt hb12 ?_; conv => whnf
          refine ⟨⟨fun h13 => ?_, fun h13 => ?_⟩⟩
          · replace e := ifp h13 e; conv => whnf
            refine brK.tt hb12 ?_; conv => whnf
            refine ⟨⟨fun h14 => ?_, fun h14 => ?_⟩⟩
            · replace e := ifp h14 e; conv => whnf
              refine test.dec ?_; conv => whnf
              obtain rfl := sm e
              exact rfl
            · replace e := ifn h14 e; conv => whnf
              obtain rfl := sm e
              exact rfl
          · replace e := ifn h13 e; conv => whnf
            refine brK.tt hb12 ?_; conv => whnf
            obtain rfl := sm e
            exact rfl
        · replace e := ifnb hb12 e; conv => whnf
          refine brK.ff hb12 ?_; conv => whnf
          refine brK.ff hb12 ?_; conv => whnf
          refine brK.ff hb12 ?_; conv => whnf
          obtain rfl := sm e
          exact rfl
      · replace e := ifn h11 e; conv => whnf
        refine ⟨⟨fun h12 => ?_, fun h12 => ?_⟩⟩
        · replace e := ifp h12 e; conv => whnf
          refine brK.split (fun hb13 => ?_) (fun hb13 => ?_)
          · replace e := ifpb hb13 e; conv => whnf
            refine brK.tt hb13 ?_; conv => whnf
            refine brK.tt hb13 ?_; conv => whnf
            refine ⟨⟨fun h14 => ?_, fun h14 => ?_⟩⟩
            · replace e := ifp h14 e; conv => whnf
              refine brK.tt hb13 ?_; conv => whnf
              refine test.dec ?_; conv => whnf
              obtain rfl := sm e
              exact rfl
            · replace e := ifn h14 e; conv => whnf
              refine brK.tt hb13 ?_; conv => whnf
              obtain rfl := sm e
              exact rfl
          · replace e := ifnb hb13 e; conv => whnf
            refine brK.ff hb13 ?_; conv => whnf
            refine brK.ff hb13 ?_; conv => whnf
            refine brK.ff hb13 ?_; conv => whnf
            obtain rfl := sm e
            exact rfl
        · replace e := ifn h12 e; conv => whnf
          refine ⟨⟨fun h13 => ?_, fun h13 => ?_⟩⟩
          · replace e := ifp h13 e; conv => whnf
            refine brK.split (fun hb14 => ?_) (fun hb14 => ?_)
            · replace e := ifpb hb14 e; conv => whnf
              refine brK.tt hb14 ?_; conv => whnf
              refine brK.tt hb14 ?_; conv => whnf
              refine brK.tt hb14 ?_; conv => whnf
              refine test.dec ?_; conv => whnf
              refine brK.tt hb14 ?_; conv => whnf
              obtain rfl := sm e
              exact rfl
            · replace e := ifnb hb14 e; conv => whnf
              refine brK.ff hb14 ?_; conv => whnf
              refine brK.ff hb14 ?_; conv => whnf
              refine brK.ff hb14 ?_; conv => whnf
              refine brK.ff hb14 ?_; conv => whnf
              obtain rfl := sm e
              exact rfl
          · replace e := ifn h13 e; conv => whnf
            obtain rfl := sm e
            exact rfl
theorem P_r31_fine_j0 {t7_0 : Bool} {a0 : XN} {r : Bool} (e : r31_fine_j0 t7_0 a0 = some r) : JoinAt T Try.prog Try.f92 Fx0 [4, 5] [1, 1, 1, 0] (EP T Try.f92 (.bool r)) [(3, .ptr 0 0 0), (7, .d (.bool t7_0))] [[.cells [.d (.int .u8 a0.kind), .d (.str a0.name), .d (.int .i64 a0.type_), .d (.int .i64 a0.index), .d (.slice 1 (intDs_i64 a0.sub))]]] := by
  unfold r31_fine_j0 at e
  refine Runs.enter T_ok ?_; conv => whnf
  refine ⟨⟨fun h8 => ?_, fun h8 => ?_⟩⟩
  · replace e := ifp h8 e; conv => whnf
    refine ⟨⟨fun h9 => ?_, fun h9 => ?_⟩⟩
    · replace e := ifp h9 e; conv => whnf
      refine Runs.weak (P_r31_fine_j1 e) ?_
      repeat' first | exact wk.of_eq rfl | exact rfl | exact trivial | refine ⟨?_, ?_⟩
    · replace e := ifn h9 e; conv => whnf
      refine Runs.weak (P_r31_fine_j1 e) ?_
      repeat' first | exact wk.of_eq rfl | exact rfl | exact trivial | refine ⟨?_, ?_⟩
  · replace e := ifn h8 e; conv => whnf
    refine Runs.weak (P_r31_fine_j1 e) ?_
    repeat' first | exact wk.of_eq rfl | exact rfl | exact trivial | refine ⟨?_, ?_⟩
theorem P_r31_fine {a0 : XN} {a1 : Int} {a2 : Int} {r : Bool} (e : r31_fine a0 a1 a2 = some r) : Pure Try.prog 92 [(XN.D a0), (.int .i64 a1), (.int .i64 a2)] (.bool r) := by
  unfold r31_fine at e
  refine pure_of_awp (js := [4, 5]) T_ok Try.func92 rfl (by decide +kernel) rfl ?_; conv => whnf
  obtain ⟨v1, qv1, e⟩ := bnd e
  refine said_pure (P_r31_below qv1) rfl ?_; conv => whnf
  refine brK.nsplit (fun hb2 => ?_) (fun hb2 => ?_)
  · replace e := ifpb hb2 e; conv => whnf
    obtain ⟨v3, qv3, e⟩ := bnd e
    refine said_pure (P_r02_Name qv3) rfl ?_; conv => whnf
    refine brK.split (fun hb4 => ?_) (fun hb4 => ?_)
    · replace e := ifpb hb4 e; conv => whnf
      refine brK.tt hb4 ?_; conv => whnf
      refine brK.tt hb4 ?_; conv => whnf
      refine ⟨⟨fun h5 => ?_, fun h5 => ?_⟩⟩
      · replace e := ifp h5 e; conv => whnf
        refine brK.tt hb4 ?_; conv => whnf
        refine ⟨⟨fun h6 => ?_, fun h6 => ?_⟩⟩
        · replace e := ifp h6 e; conv => whnf
          refine ⟨⟨fun h7 => ?_, fun h7 => ?_⟩⟩
          · replace e := ifp h7 e; conv => whnf
            refine Runs.weak (P_r31_fine_j0 e) ?_
            repeat' first | exact wk.of_eq rfl | exact rfl | exact trivial | refine ⟨?_, ?_⟩
          · replace e := ifn h7 e; conv => whnf
            refine Runs.weak (P_r31_fine_j0 e) ?_
            repeat' first | exact wk.of_eq rfl | exact rfl | exact trivial | refine ⟨?_, ?_⟩
        · replace e := ifn h6 e; conv => whnf
          refine Runs.weak (P_r31_fine_j0 e) ?_
          repeat' first | exact wk.of_eq rfl | exact rfl | exact trivial | refine ⟨?_, ?_⟩
      · replace e := ifn h5 e; conv => whnf
        refine brK.tt hb4 ?_; conv => whnf
        refine Runs.weak (P_r31_fine_j0 e) ?_
        repeat' first | exact wk.of_eq rfl | exact rfl | exact trivial | refine ⟨?_, ?_⟩
    · replace e := ifnb hb4 e; conv => whnf
      refine brK.ff hb4 ?_; conv => whnf
      refine brK.ff hb4 ?_; conv => whnf
      refine brK.ff hb4 ?_; conv => whnf
      refine Runs.weak (P_r31_fine_j0 e) ?_
      repeat' first | exact wk.of_eq rfl | exact rfl | exact trivial | refine ⟨?_, ?_⟩
  · replace e := ifnb hb2 e; conv => whnf
    obtain rfl := sm e
    exact rfl
theorem P_r31_sameTerm {a0 : XN} {a1 : XN} {r : Bool} (e : r31_sameTerm a0 a1 = some r) : Pure Try.prog 52 [(XN.D a0), (XN.D a1)] (.bool r) := by
  unfold r31_sameTerm at e
  refine pure_of_awp (js := []) T_ok Try.func52 rfl (by decide +kernel) rfl ?_; conv => whnf
  refine ⟨⟨fun h1 => ?_, fun h1 => ?_⟩⟩
  · replace e := ifp h1 e; conv => whnf
    refine ⟨⟨fun h2 => ?_, fun h2 => ?_⟩⟩
    · replace e := ifp h2 e; conv => whnf
      refine ⟨⟨fun h3 => ?_, fun h3 => ?_⟩⟩
      · replace e := ifp h3 e; conv => whnf
        refine ⟨⟨fun h4 => ?_, fun h4 => ?_⟩⟩
        · replace e := ifp h4 e; conv => whnf
          obtain ⟨v5, qv5, e⟩ := bnd e
          refine said_pure (P_r31_ints qv5) rfl ?_; conv => whnf
          obtain rfl := sm e
          exact rfl
        · replace e := ifn h4 e; conv => whnf
          obtain rfl := sm e
          exact rfl
      · replace e := ifn h3 e; conv => whnf
        obtain rfl := sm e
        exact rfl
    · replace e := ifn h2 e; conv => whnf
      refine ⟨⟨fun h3 => ?_, fun h3 => ?_⟩⟩
      · replace e := ifp h3 e; conv => whnf
        refine ⟨⟨fun h4 => ?_, fun h4 => ?_⟩⟩
        · replace e := ifp h4 e; conv => whnf
          refine ⟨⟨fun h5 => ?_, fun h5 => ?_⟩⟩
          · replace e := ifp h5 e; conv => whnf
            obtain ⟨v6, qv6, e⟩ := bnd e
            refine said_pure (P_r31_ints qv6) rfl ?_; conv => whnf
            obtain rfl := sm e
            exact rfl
          · replace e := ifn h5 e; conv => whnf
            obtain rfl := sm e
            exact rfl
        · replace e := ifn h4 e; conv => whnf
          obtain rfl := sm e
          exact rfl
      · replace e := ifn h3 e; conv => whnf
        obtain rfl := sm e
        exact rfl
  · replace e := ifn h1 e; conv => whnf
    obtain rfl := sm e
    exact rfl
end Go.Proofs.Ytpgecpmonaldiaa.Fw

