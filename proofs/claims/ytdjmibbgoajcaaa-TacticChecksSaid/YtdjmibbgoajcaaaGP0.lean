/- The code computes the functions. -/
import Derived.Test.YtdjmibbgoajcaaaGTab
set_option autoImplicit false
set_option linter.unusedVariables false
set_option linter.unusedSimpArgs false
set_option maxHeartbeats 4000000
namespace Go.Proofs.Ytdjmibbgoajcaaa.Fw
open Go Go.Proofs Go.RowKit
theorem P_cmpstr {a b : ByteArray} {r : Int} (e : cmpstr a b = some r) : Pure Try.prog 171 [.str a, .str b] (.int .i64 r) := by
  obtain rfl := sm e
  refine ⟨fun H w vs hm hn hr => .inr ⟨.int .i64 (bcmp a b), w, ?_, _, H, rfl, Imm.ext.refl _ _, hm, .int _ _, Below.refl _ _⟩⟩
  obtain ⟨v0, v1, rfl⟩ : ∃ v0 v1, vs = [v0, v1] := by
    match vs, hn with
    | [v0, v1], _ => exact ⟨v0, v1, rfl⟩
  have h0 := hr 0 (by simp)
  have h1 := hr 1 (by simp)
  simp only [List.getD_cons_zero, List.getElem_cons_zero, List.getD_cons_succ, List.getElem_cons_succ] at h0 h1
  cases h0
  cases h1
  rw [run_callFunc_extern Try.func171 (by decide +kernel) (by rfl) (by kernel_rfl) (e := Extern.BytealgCompare.compare) (by kernel_rfl)]
  change (Sem.run Try.prog (do pure (goInt (Extern.BytealgCompare.cmp (← Extern.Bytes.bytesOf (.string a)) (← Extern.Bytes.bytesOf (.string b))))) w).andThen _ = _
  simp [Extern.Bytes.bytesOf, goInt, cmp_bcmp]
def M_sequentref01_count (a0 : Ty) (a1 : Int) (a2 : Int) (r : Int) : Prop := Pure Try.prog 139 [(Ty.D a0), (.int .i64 a1), (.int .i64 a2)] (.int .i64 r)
def M_sequentref01_count_l0 (rest0 : (List Ty)) (t1_0 : Int) (a2 : Int) (r : Int) : Prop := ∀ (a0 : Ty) (k0 : Nat) (hd0 : rest0 = a0.args.drop k0), LoopAt T Try.prog Try.f139 Fx0 [] [1, 1, 1, 0, 1, 0] (EP T Try.f139 (.int .i64 r)) [(1, .d (.int .i64 t1_0)), (2, .d (.int .i64 a2)), (3, .ptr 0 0 0), (7, .d (.int .i64 (k0 : Int)))] [[.cells [.d (.bool a0.v), .d (.str a0.name), .d (.slice 3 (Ty.Ds a0.args))]]]
theorem G_sequentref01_count : (∀ p r, sequentref01_count' p = some r → ∀ a0 a1 a2, (a0, a1, a2) = p → M_sequentref01_count a0 a1 a2 r) ∧
    (∀ p r, sequentref01_count_l0' p = some r → ∀ rest0 t1_0 a2, (rest0, t1_0, a2) = p → M_sequentref01_count_l0 rest0 t1_0 a2 r) := by
  refine sequentref01_count'.mutual_partial_correctness (fun (p : (Ty × Int × Int)) (r : Int) => ∀ (a0 : Ty) (a1 : Int) (a2 : Int), (a0, a1, a2) = p → M_sequentref01_count a0 a1 a2 r) (fun (p : ((List Ty) × Int × Int)) (r : Int) => ∀ (rest0 : (List Ty)) (t1_0 : Int) (a2 : Int), (rest0, t1_0, a2) = p → M_sequentref01_count_l0 rest0 t1_0 a2 r) ?_ ?_
  · intro f_sequentref01_count_l0 ih_sequentref01_count_l0 p r e a0 a1 a2 hp
    subst hp
    refine pure_of_awp (js := []) T_ok Try.func139 rfl (by decide +kernel) rfl ?_; (conv => whnf)
    refine ⟨⟨fun h1 => ?_, fun h1 => ?_⟩⟩
    · replace e := ifp h1 e; (conv => whnf)
      obtain rfl := sm e
      repeat' first | exact rfl | exact trivial | refine ⟨?_, ?_⟩
    · replace e := ifn h1 e; (conv => whnf)
      obtain ⟨v2, qv2, e⟩ := bnd e
      refine ⟨v2, sm qv2, ?_⟩; (conv => whnf)
      obtain ⟨v3, qv3, e⟩ := bnd e
      refine ⟨by decide, v3, sm qv3, ?_⟩; (conv => whnf)
      obtain ⟨v4, qv4, e⟩ := bnd e
      refine ⟨v4, sm qv4, ?_⟩; (conv => whnf)
      refine RunsL.runs (RunsL.weak ((ih_sequentref01_count_l0 _ _ e _ _ _ rfl) a0 0 (by simp)) ?_)
      repeat' first | exact wk.of_eq rfl | exact wk.pure rfl | exact wk.un _ | exact wk.hold _ _ _ | exact wk.holdG _ _ _ | exact rfl | exact trivial | refine ⟨?_, ?_⟩
  · intro f_sequentref01_count f_sequentref01_count_l0 ih_sequentref01_count ih_sequentref01_count_l0 p r e rest0 t1_0 a2 hp
    subst hp
    intro a0 k0 hd0
    refine RunsL.len_cell 0 2 rfl rfl rfl fun hlenk0 => ?_
    refine RunsL.of_awp (js := []) T_ok ?_; (conv => whnf)
    have hls := Ty.Ds_len a0.args
    cases rest0 with
    | nil =>
      have hk := drop_nil hd0
      refine ⟨⟨fun h => absurd h (by omega), fun _ => ?_⟩⟩; (conv => whnf)
      obtain rfl := sm e
      repeat' first | exact rfl | exact trivial | refine ⟨?_, ?_⟩
    | cons v8 rest0 =>
      obtain ⟨hxv8, hd0, hltv8⟩ := drop_head hd0
      refine ⟨⟨fun _ => ?_, fun h => absurd (by omega) h⟩⟩; (conv => whnf)
      refine ⟨⟨fun h9 => ?_, fun h9 => ?_⟩⟩
      · replace e := ifp h9 e; (conv => whnf)
        refine ⟨k0, _, rfl, Ty.Ds_get hxv8, ?_⟩; (conv => whnf)
        refine ⟨Ty.Ds_fit _ rfl rfl, ?_⟩; (conv => whnf)
        obtain ⟨v10, qv10, e⟩ := bnd e
        refine ⟨v10, sm qv10, ?_⟩; (conv => whnf)
        obtain ⟨v11, qv11, e⟩ := bnd e
        refine said_pure (ih_sequentref01_count _ _ qv11 _ _ _ rfl) rfl ?_; (conv => whnf)
        refine ⟨((k0 + 1 : Nat) : Int), wrap64e (by omega) (by omega) (by omega), ?_⟩; (conv => whnf)
        refine (RunsL.weak ((ih_sequentref01_count_l0 _ _ e _ _ _ rfl) a0 (k0 + 1) hd0) ?_)
        repeat' first | exact wk.of_eq rfl | exact wk.pure rfl | exact wk.un _ | exact wk.hold _ _ _ | exact wk.holdG _ _ _ | exact rfl | exact trivial | refine ⟨?_, ?_⟩
      · replace e := ifn h9 e; (conv => whnf)
        obtain rfl := sm e
        repeat' first | exact rfl | exact trivial | refine ⟨?_, ?_⟩
theorem P_sequentref01_count {a0 : Ty} {a1 : Int} {a2 : Int} {r : Int} (e : sequentref01_count a0 a1 a2 = some r) : M_sequentref01_count a0 a1 a2 r := G_sequentref01_count.1 _ _ e _ _ _ rfl
theorem P_sequentref01_Great {a0 : Ty} {r : Bool} (e : sequentref01_Great a0 = some r) : Pure Try.prog 103 [(Ty.D a0)] (.bool r) := by
  unfold sequentref01_Great at e
  refine pure_of_awp (js := []) T_ok Try.func103 rfl (by decide +kernel) rfl ?_; (conv => whnf)
  obtain ⟨v1, qv1, e⟩ := bnd e
  refine said_pure (P_sequentref01_count qv1) rfl ?_; (conv => whnf)
  refine test.dec ?_; (conv => whnf)
  obtain rfl := sm e
  repeat' first | exact rfl | exact trivial | refine ⟨?_, ?_⟩
def M_sequentref02_count (a0 : Tm) (a1 : Int) (a2 : Int) (r : Int) : Prop := Pure Try.prog 52 [(Tm.D a0), (.int .i64 a1), (.int .i64 a2)] (.int .i64 r)
def M_sequentref02_count_l0 (rest0 : (List Tm)) (t1_0 : Int) (a2 : Int) (r : Int) : Prop := ∀ (a0 : Tm) (k0 : Nat) (hd0 : rest0 = a0.sub.drop k0), LoopAt T Try.prog Try.f52 Fx0 [] [1, 1, 1, 0, 1, 0] (EP T Try.f52 (.int .i64 r)) [(1, .d (.int .i64 t1_0)), (2, .d (.int .i64 a2)), (3, .ptr 0 0 0), (7, .d (.int .i64 (k0 : Int)))] [[.cells [.d (.int .u8 a0.kind), .d (.str a0.name), .d (.bool a0.ty.v), .d (.str a0.ty.name), .d (.slice 3 (Ty.Ds a0.ty.args)), .d (.int .i64 a0.index), .d (.slice 7 (Tm.Ds a0.sub))]]]
theorem G_sequentref02_count : (∀ p r, sequentref02_count' p = some r → ∀ a0 a1 a2, (a0, a1, a2) = p → M_sequentref02_count a0 a1 a2 r) ∧
    (∀ p r, sequentref02_count_l0' p = some r → ∀ rest0 t1_0 a2, (rest0, t1_0, a2) = p → M_sequentref02_count_l0 rest0 t1_0 a2 r) := by
  refine sequentref02_count'.mutual_partial_correctness (fun (p : (Tm × Int × Int)) (r : Int) => ∀ (a0 : Tm) (a1 : Int) (a2 : Int), (a0, a1, a2) = p → M_sequentref02_count a0 a1 a2 r) (fun (p : ((List Tm) × Int × Int)) (r : Int) => ∀ (rest0 : (List Tm)) (t1_0 : Int) (a2 : Int), (rest0, t1_0, a2) = p → M_sequentref02_count_l0 rest0 t1_0 a2 r) ?_ ?_
  · intro f_sequentref02_count_l0 ih_sequentref02_count_l0 p r e a0 a1 a2 hp
    subst hp
    refine pure_of_awp (js := []) T_ok Try.func52 rfl (by decide +kernel) rfl ?_; (conv => whnf)
    refine ⟨⟨fun h1 => ?_, fun h1 => ?_⟩⟩
    · replace e := ifp h1 e; (conv => whnf)
      obtain rfl := sm e
      repeat' first | exact rfl | exact trivial | refine ⟨?_, ?_⟩
    · replace e := ifn h1 e; (conv => whnf)
      obtain ⟨v2, qv2, e⟩ := bnd e
      refine said_pure (P_sequentref01_Great qv2) rfl ?_; (conv => whnf)
      refine brK.split (fun hb3 => ?_) (fun hb3 => ?_)
      · replace e := ifpb hb3 e; (conv => whnf)
        obtain rfl := sm e
        repeat' first | exact rfl | exact trivial | refine ⟨?_, ?_⟩
      · replace e := ifnb hb3 e; (conv => whnf)
        obtain ⟨v4, qv4, e⟩ := bnd e
        refine ⟨v4, sm qv4, ?_⟩; (conv => whnf)
        obtain ⟨v5, qv5, e⟩ := bnd e
        refine ⟨by decide, v5, sm qv5, ?_⟩; (conv => whnf)
        obtain ⟨v6, qv6, e⟩ := bnd e
        refine ⟨v6, sm qv6, ?_⟩; (conv => whnf)
        refine RunsL.runs (RunsL.weak ((ih_sequentref02_count_l0 _ _ e _ _ _ rfl) a0 0 (by simp)) ?_)
        repeat' first | exact wk.of_eq rfl | exact wk.pure rfl | exact wk.un _ | exact wk.hold _ _ _ | exact wk.holdG _ _ _ | exact rfl | exact trivial | refine ⟨?_, ?_⟩
  · intro f_sequentref02_count f_sequentref02_count_l0 ih_sequentref02_count ih_sequentref02_count_l0 p r e rest0 t1_0 a2 hp
    subst hp
    intro a0 k0 hd0
    refine RunsL.len_cell 0 6 rfl rfl rfl fun hlenk0 => ?_
    refine RunsL.of_awp (js := []) T_ok ?_; (conv => whnf)
    have hls := Tm.Ds_len a0.sub
    cases rest0 with
    | nil =>
      have hk := drop_nil hd0
      refine ⟨⟨fun h => absurd h (by omega), fun _ => ?_⟩⟩; (conv => whnf)
      obtain rfl := sm e
      repeat' first | exact rfl | exact trivial | refine ⟨?_, ?_⟩
    | cons v8 rest0 =>
      obtain ⟨hxv8, hd0, hltv8⟩ := drop_head hd0
      refine ⟨⟨fun _ => ?_, fun h => absurd (by omega) h⟩⟩; (conv => whnf)
      refine ⟨⟨fun h9 => ?_, fun h9 => ?_⟩⟩
      · replace e := ifp h9 e; (conv => whnf)
        refine ⟨k0, _, rfl, Tm.Ds_get hxv8, ?_⟩; (conv => whnf)
        refine ⟨Tm.Ds_fit _ rfl rfl, ?_⟩; (conv => whnf)
        obtain ⟨v10, qv10, e⟩ := bnd e
        refine ⟨v10, sm qv10, ?_⟩; (conv => whnf)
        obtain ⟨v11, qv11, e⟩ := bnd e
        refine said_pure (ih_sequentref02_count _ _ qv11 _ _ _ rfl) rfl ?_; (conv => whnf)
        refine ⟨((k0 + 1 : Nat) : Int), wrap64e (by omega) (by omega) (by omega), ?_⟩; (conv => whnf)
        refine (RunsL.weak ((ih_sequentref02_count_l0 _ _ e _ _ _ rfl) a0 (k0 + 1) hd0) ?_)
        repeat' first | exact wk.of_eq rfl | exact wk.pure rfl | exact wk.un _ | exact wk.hold _ _ _ | exact wk.holdG _ _ _ | exact rfl | exact trivial | refine ⟨?_, ?_⟩
      · replace e := ifn h9 e; (conv => whnf)
        obtain rfl := sm e
        repeat' first | exact rfl | exact trivial | refine ⟨?_, ?_⟩
theorem P_sequentref02_count {a0 : Tm} {a1 : Int} {a2 : Int} {r : Int} (e : sequentref02_count a0 a1 a2 = some r) : M_sequentref02_count a0 a1 a2 r := G_sequentref02_count.1 _ _ e _ _ _ rfl
def M_sequentref02_Size (a0 : Tm) (r : Int) : Prop := Pure Try.prog 104 [(Tm.D a0)] (.int .i64 r)
def M_sequentref02_Size_l0 (rest0 : (List Tm)) (t3_0 : Int) (r : Int) : Prop := ∀ (a0 : Tm) (k0 : Nat) (hd0 : rest0 = a0.sub.drop k0), LoopAt T Try.prog Try.f104 Fx0 [] [1, 1, 0, 1, 0] (EP T Try.f104 (.int .i64 r)) [(1, .ptr 0 0 0), (3, .d (.int .i64 t3_0)), (4, .d (.int .i64 (k0 : Int)))] [[.cells [.d (.int .u8 a0.kind), .d (.str a0.name), .d (.bool a0.ty.v), .d (.str a0.ty.name), .d (.slice 3 (Ty.Ds a0.ty.args)), .d (.int .i64 a0.index), .d (.slice 7 (Tm.Ds a0.sub))]]]
theorem G_sequentref02_Size : (∀ p r, sequentref02_Size' p = some r → ∀ a0, a0 = p → M_sequentref02_Size a0 r) ∧
    (∀ p r, sequentref02_Size_l0' p = some r → ∀ rest0 t3_0, (rest0, t3_0) = p → M_sequentref02_Size_l0 rest0 t3_0 r) := by
  refine sequentref02_Size'.mutual_partial_correctness (fun (p : Tm) (r : Int) => ∀ (a0 : Tm), a0 = p → M_sequentref02_Size a0 r) (fun (p : ((List Tm) × Int)) (r : Int) => ∀ (rest0 : (List Tm)) (t3_0 : Int), (rest0, t3_0) = p → M_sequentref02_Size_l0 rest0 t3_0 r) ?_ ?_
  · intro f_sequentref02_Size_l0 ih_sequentref02_Size_l0 p r e a0 hp
    subst hp
    refine pure_of_awp (js := []) T_ok Try.func104 rfl (by decide +kernel) rfl ?_; (conv => whnf)
    refine RunsL.runs (RunsL.weak ((ih_sequentref02_Size_l0 _ _ e _ _ rfl) a0 0 (by simp)) ?_)
    repeat' first | exact wk.of_eq rfl | exact wk.pure rfl | exact wk.un _ | exact wk.hold _ _ _ | exact wk.holdG _ _ _ | exact rfl | exact trivial | refine ⟨?_, ?_⟩
  · intro f_sequentref02_Size f_sequentref02_Size_l0 ih_sequentref02_Size ih_sequentref02_Size_l0 p r e rest0 t3_0 hp
    subst hp
    intro a0 k0 hd0
    refine RunsL.len_cell 0 6 rfl rfl rfl fun hlenk0 => ?_
    refine RunsL.of_awp (js := []) T_ok ?_; (conv => whnf)
    have hls := Tm.Ds_len a0.sub
    cases rest0 with
    | nil =>
      have hk := drop_nil hd0
      refine ⟨⟨fun h => absurd h (by omega), fun _ => ?_⟩⟩; (conv => whnf)
      obtain rfl := sm e
      repeat' first | exact rfl | exact trivial | refine ⟨?_, ?_⟩
    | cons v5 rest0 =>
      obtain ⟨hxv5, hd0, hltv5⟩ := drop_head hd0
      refine ⟨⟨fun _ => ?_, fun h => absurd (by omega) h⟩⟩; (conv => whnf)
      refine ⟨k0, _, rfl, Tm.Ds_get hxv5, ?_⟩; (conv => whnf)
      refine ⟨Tm.Ds_fit _ rfl rfl, ?_⟩; (conv => whnf)
      obtain ⟨v6, qv6, e⟩ := bnd e
      refine said_pure (ih_sequentref02_Size _ _ qv6 _ rfl) rfl ?_; (conv => whnf)
      obtain ⟨v7, qv7, e⟩ := bnd e
      refine ⟨v7, sm qv7, ?_⟩; (conv => whnf)
      refine ⟨((k0 + 1 : Nat) : Int), wrap64e (by omega) (by omega) (by omega), ?_⟩; (conv => whnf)
      refine (RunsL.weak ((ih_sequentref02_Size_l0 _ _ e _ _ rfl) a0 (k0 + 1) hd0) ?_)
      repeat' first | exact wk.of_eq rfl | exact wk.pure rfl | exact wk.un _ | exact wk.hold _ _ _ | exact wk.holdG _ _ _ | exact rfl | exact trivial | refine ⟨?_, ?_⟩
theorem P_sequentref02_Size {a0 : Tm} {r : Int} (e : sequentref02_Size a0 = some r) : M_sequentref02_Size a0 r := G_sequentref02_Size.1 _ _ e _ rfl
def M_sequentref02_Depth (a0 : Tm) (r : Int) : Prop := Pure Try.prog 105 [(Tm.D a0)] (.int .i64 r)
def M_sequentref02_Depth_l0 (rest0 : (List Tm)) (t3_0 : Int) (r : Int) : Prop := ∀ (a0 : Tm) (k0 : Nat) (hd0 : rest0 = a0.sub.drop k0), LoopAt T Try.prog Try.f105 Fx0 [] [1, 1, 0, 1, 0] (EP T Try.f105 (.int .i64 r)) [(1, .ptr 0 0 0), (3, .d (.int .i64 t3_0)), (4, .d (.int .i64 (k0 : Int)))] [[.cells [.d (.int .u8 a0.kind), .d (.str a0.name), .d (.bool a0.ty.v), .d (.str a0.ty.name), .d (.slice 3 (Ty.Ds a0.ty.args)), .d (.int .i64 a0.index), .d (.slice 7 (Tm.Ds a0.sub))]]]
theorem G_sequentref02_Depth : (∀ p r, sequentref02_Depth' p = some r → ∀ a0, a0 = p → M_sequentref02_Depth a0 r) ∧
    (∀ p r, sequentref02_Depth_l0' p = some r → ∀ rest0 t3_0, (rest0, t3_0) = p → M_sequentref02_Depth_l0 rest0 t3_0 r) := by
  refine sequentref02_Depth'.mutual_partial_correctness (fun (p : Tm) (r : Int) => ∀ (a0 : Tm), a0 = p → M_sequentref02_Depth a0 r) (fun (p : ((List Tm) × Int)) (r : Int) => ∀ (rest0 : (List Tm)) (t3_0 : Int), (rest0, t3_0) = p → M_sequentref02_Depth_l0 rest0 t3_0 r) ?_ ?_
  · intro f_sequentref02_Depth_l0 ih_sequentref02_Depth_l0 p r e a0 hp
    subst hp
    refine pure_of_awp (js := []) T_ok Try.func105 rfl (by decide +kernel) rfl ?_; (conv => whnf)
    refine RunsL.runs (RunsL.weak ((ih_sequentref02_Depth_l0 _ _ e _ _ rfl) a0 0 (by simp)) ?_)
    repeat' first | exact wk.of_eq rfl | exact wk.pure rfl | exact wk.un _ | exact wk.hold _ _ _ | exact wk.holdG _ _ _ | exact rfl | exact trivial | refine ⟨?_, ?_⟩
  · intro f_sequentref02_Depth f_sequentref02_Depth_l0 ih_sequentref02_Depth ih_sequentref02_Depth_l0 p r e rest0 t3_0 hp
    subst hp
    intro a0 k0 hd0
    refine RunsL.len_cell 0 6 rfl rfl rfl fun hlenk0 => ?_
    refine RunsL.of_awp (js := []) T_ok ?_; (conv => whnf)
    have hls := Tm.Ds_len a0.sub
    cases rest0 with
    | nil =>
      have hk := drop_nil hd0
      refine ⟨⟨fun h => absurd h (by omega), fun _ => ?_⟩⟩; (conv => whnf)
      obtain ⟨v6, qv6, e⟩ := bnd e
      refine ⟨v6, sm qv6, ?_⟩; (conv => whnf)
      obtain rfl := sm e
      repeat' first | exact rfl | exact trivial | refine ⟨?_, ?_⟩
    | cons v5 rest0 =>
      obtain ⟨hxv5, hd0, hltv5⟩ := drop_head hd0
      refine ⟨⟨fun _ => ?_, fun h => absurd (by omega) h⟩⟩; (conv => whnf)
      refine ⟨k0, _, rfl, Tm.Ds_get hxv5, ?_⟩; (conv => whnf)
      refine ⟨Tm.Ds_fit _ rfl rfl, ?_⟩; (conv => whnf)
      obtain ⟨v6, qv6, e⟩ := bnd e
      refine said_pure (ih_sequentref02_Depth _ _ qv6 _ rfl) rfl ?_; (conv => whnf)
      refine ⟨((k0 + 1 : Nat) : Int), wrap64e (by omega) (by omega) (by omega), ?_⟩; (conv => whnf)
      refine (RunsL.weak ((ih_sequentref02_Depth_l0 _ _ e _ _ rfl) a0 (k0 + 1) hd0) ?_)
      repeat' first | exact wk.of_eq rfl | exact wk.pure rfl | exact wk.un _ | exact wk.hold _ _ _ | exact wk.holdG _ _ _ | exact rfl | exact trivial | refine ⟨?_, ?_⟩
theorem P_sequentref02_Depth {a0 : Tm} {r : Int} (e : sequentref02_Depth a0 = some r) : M_sequentref02_Depth a0 r := G_sequentref02_Depth.1 _ _ e _ rfl
theorem P_sequentref02_Small {a0 : Tm} {r : Bool} (e : sequentref02_Small a0 = some r) : Pure Try.prog 53 [(Tm.D a0)] (.bool r) := by
  unfold sequentref02_Small at e
  refine pure_of_awp (js := []) T_ok Try.func53 rfl (by decide +kernel) rfl ?_; (conv => whnf)
  obtain ⟨v1, qv1, e⟩ := bnd e
  refine said_pure (P_sequentref02_Size qv1) rfl ?_; (conv => whnf)
  refine ⟨⟨fun h2 => ?_, fun h2 => ?_⟩⟩
  · replace e := ifp h2 e; (conv => whnf)
    obtain ⟨v3, qv3, e⟩ := bnd e
    refine said_pure (P_sequentref02_Depth qv3) rfl ?_; (conv => whnf)
    refine test.dec ?_; (conv => whnf)
    obtain rfl := sm e
    repeat' first | exact rfl | exact trivial | refine ⟨?_, ?_⟩
  · replace e := ifn h2 e; (conv => whnf)
    obtain rfl := sm e
    repeat' first | exact rfl | exact trivial | refine ⟨?_, ?_⟩
theorem P_sequentref02_Great {a0 : Tm} {r : Bool} (e : sequentref02_Great a0 = some r) : Pure Try.prog 15 [(Tm.D a0)] (.bool r) := by
  unfold sequentref02_Great at e
  refine pure_of_awp (js := []) T_ok Try.func15 rfl (by decide +kernel) rfl ?_; (conv => whnf)
  obtain ⟨v1, qv1, e⟩ := bnd e
  refine said_pure (P_sequentref02_count qv1) rfl ?_; (conv => whnf)
  refine ⟨⟨fun h2 => ?_, fun h2 => ?_⟩⟩
  · replace e := ifp h2 e; (conv => whnf)
    obtain rfl := sm e
    repeat' first | exact rfl | exact trivial | refine ⟨?_, ?_⟩
  · replace e := ifn h2 e; (conv => whnf)
    obtain ⟨v3, qv3, e⟩ := bnd e
    refine said_pure (P_sequentref02_count qv3) rfl ?_; (conv => whnf)
    refine ⟨⟨fun h4 => ?_, fun h4 => ?_⟩⟩
    · replace e := ifp h4 e; (conv => whnf)
      obtain rfl := sm e
      repeat' first | exact rfl | exact trivial | refine ⟨?_, ?_⟩
    · replace e := ifn h4 e; (conv => whnf)
      obtain ⟨v5, qv5, e⟩ := bnd e
      refine said_pure (P_sequentref02_Small qv5) rfl ?_; (conv => whnf)
      obtain rfl := sm e
      repeat' first | exact rfl | exact trivial | refine ⟨?_, ?_⟩
def M_sequentref29_count (a0 : ATactic) (a1 : Int) (a2 : Int) (r : Int) : Prop := Pure Try.prog 87 [(ATactic.D a0), (.int .i64 a1), (.int .i64 a2)] (.int .i64 r)
def M_sequentref29_count_l0 (rest0 : (List ATactic)) (t1_0 : Int) (a2 : Int) (r : Int) : Prop := ∀ (a0 : ATactic) (k0 : Nat) (hd0 : rest0 = a0.kids.drop k0), LoopAt T Try.prog Try.f87 Fx0 [] [1, 1, 1, 0, 1, 0] (EP T Try.f87 (.int .i64 r)) [(1, .d (.int .i64 t1_0)), (2, .d (.int .i64 a2)), (3, .ptr 0 0 0), (7, .d (.int .i64 (k0 : Int)))] [[.cells [.d (.int .u8 a0.kind), .d (.int .i64 a0.at_), .d (.int .i64 a0.to_), .d (.int .u8 a0.term.kind), .d (.str a0.term.name), .d (.bool a0.term.ty.v), .d (.str a0.term.ty.name), .d (.slice 3 (Ty.Ds a0.term.ty.args)), .d (.int .i64 a0.term.index), .d (.slice 7 (Tm.Ds a0.term.sub)), .d (.slice 11 (ATactic.Ds a0.kids))]]]
theorem G_sequentref29_count : (∀ p r, sequentref29_count' p = some r → ∀ a0 a1 a2, (a0, a1, a2) = p → M_sequentref29_count a0 a1 a2 r) ∧
    (∀ p r, sequentref29_count_l0' p = some r → ∀ rest0 t1_0 a2, (rest0, t1_0, a2) = p → M_sequentref29_count_l0 rest0 t1_0 a2 r) := by
  refine sequentref29_count'.mutual_partial_correctness (fun (p : (ATactic × Int × Int)) (r : Int) => ∀ (a0 : ATactic) (a1 : Int) (a2 : Int), (a0, a1, a2) = p → M_sequentref29_count a0 a1 a2 r) (fun (p : ((List ATactic) × Int × Int)) (r : Int) => ∀ (rest0 : (List ATactic)) (t1_0 : Int) (a2 : Int), (rest0, t1_0, a2) = p → M_sequentref29_count_l0 rest0 t1_0 a2 r) ?_ ?_
  · intro f_sequentref29_count_l0 ih_sequentref29_count_l0 p r e a0 a1 a2 hp
    subst hp
    refine pure_of_awp (js := []) T_ok Try.func87 rfl (by decide +kernel) rfl ?_; (conv => whnf)
    obtain ⟨v1, qv1, e⟩ := bnd e
    refine ⟨v1, sm qv1, ?_⟩; (conv => whnf)
    refine ⟨⟨fun h2 => ?_, fun h2 => ?_⟩⟩
    · replace e := ifp h2 e; (conv => whnf)
      obtain rfl := sm e
      repeat' first | exact rfl | exact trivial | refine ⟨?_, ?_⟩
    · replace e := ifn h2 e; (conv => whnf)
      refine ⟨⟨fun h3 => ?_, fun h3 => ?_⟩⟩
      · replace e := ifp h3 e; (conv => whnf)
        obtain rfl := sm e
        repeat' first | exact rfl | exact trivial | refine ⟨?_, ?_⟩
      · replace e := ifn h3 e; (conv => whnf)
        obtain ⟨v4, qv4, e⟩ := bnd e
        refine said_pure (P_sequentref02_Great qv4) rfl ?_; (conv => whnf)
        refine brK.split (fun hb5 => ?_) (fun hb5 => ?_)
        · replace e := ifpb hb5 e; (conv => whnf)
          obtain rfl := sm e
          repeat' first | exact rfl | exact trivial | refine ⟨?_, ?_⟩
        · replace e := ifnb hb5 e; (conv => whnf)
          refine RunsL.runs (RunsL.weak ((ih_sequentref29_count_l0 _ _ e _ _ _ rfl) a0 0 (by simp)) ?_)
          repeat' first | exact wk.of_eq rfl | exact wk.pure rfl | exact wk.un _ | exact wk.hold _ _ _ | exact wk.holdG _ _ _ | exact rfl | exact trivial | refine ⟨?_, ?_⟩
  · intro f_sequentref29_count f_sequentref29_count_l0 ih_sequentref29_count ih_sequentref29_count_l0 p r e rest0 t1_0 a2 hp
    subst hp
    intro a0 k0 hd0
    refine RunsL.len_cell 0 10 rfl rfl rfl fun hlenk0 => ?_
    refine RunsL.of_awp (js := []) T_ok ?_; (conv => whnf)
    have hls := ATactic.Ds_len a0.kids
    cases rest0 with
    | nil =>
      have hk := drop_nil hd0
      refine ⟨⟨fun h => absurd h (by omega), fun _ => ?_⟩⟩; (conv => whnf)
      obtain rfl := sm e
      repeat' first | exact rfl | exact trivial | refine ⟨?_, ?_⟩
    | cons v8 rest0 =>
      obtain ⟨hxv8, hd0, hltv8⟩ := drop_head hd0
      refine ⟨⟨fun _ => ?_, fun h => absurd (by omega) h⟩⟩; (conv => whnf)
      refine ⟨⟨fun h9 => ?_, fun h9 => ?_⟩⟩
      · replace e := ifp h9 e; (conv => whnf)
        refine ⟨k0, _, rfl, ATactic.Ds_get hxv8, ?_⟩; (conv => whnf)
        refine ⟨ATactic.Ds_fit _ rfl rfl, ?_⟩; (conv => whnf)
        obtain ⟨v10, qv10, e⟩ := bnd e
        refine ⟨v10, sm qv10, ?_⟩; (conv => whnf)
        obtain ⟨v11, qv11, e⟩ := bnd e
        refine said_pure (ih_sequentref29_count _ _ qv11 _ _ _ rfl) rfl ?_; (conv => whnf)
        refine ⟨((k0 + 1 : Nat) : Int), wrap64e (by omega) (by omega) (by omega), ?_⟩; (conv => whnf)
        refine (RunsL.weak ((ih_sequentref29_count_l0 _ _ e _ _ _ rfl) a0 (k0 + 1) hd0) ?_)
        repeat' first | exact wk.of_eq rfl | exact wk.pure rfl | exact wk.un _ | exact wk.hold _ _ _ | exact wk.holdG _ _ _ | exact rfl | exact trivial | refine ⟨?_, ?_⟩
      · replace e := ifn h9 e; (conv => whnf)
        obtain rfl := sm e
        repeat' first | exact rfl | exact trivial | refine ⟨?_, ?_⟩
theorem P_sequentref29_count {a0 : ATactic} {a1 : Int} {a2 : Int} {r : Int} (e : sequentref29_count a0 a1 a2 = some r) : M_sequentref29_count a0 a1 a2 r := G_sequentref29_count.1 _ _ e _ _ _ rfl
theorem P_sequentref29_Great {a0 : ATactic} {r : Bool} (e : sequentref29_Great a0 = some r) : Pure Try.prog 39 [(ATactic.D a0)] (.bool r) := by
  unfold sequentref29_Great at e
  refine pure_of_awp (js := []) T_ok Try.func39 rfl (by decide +kernel) rfl ?_; (conv => whnf)
  obtain ⟨v1, qv1, e⟩ := bnd e
  refine said_pure (P_sequentref29_count qv1) rfl ?_; (conv => whnf)
  refine test.dec ?_; (conv => whnf)
  obtain rfl := sm e
  repeat' first | exact rfl | exact trivial | refine ⟨?_, ?_⟩
def M_sequentref01_Twin (a0 : Ty) (r : Ty) : Prop := Pure Try.prog 125 [(Ty.D a0)] (Ty.D r)
def M_sequentref01_Twin_l0 (rest0 : (List Ty)) (c2_2_0 : (List Ty)) (a0 : Ty) (r : Ty) : Prop := ∀ (k0 : Nat) (hd0 : rest0 = a0.args.drop k0), LoopAt T Try.prog Try.f125 Fx0 [] [1, 1, 0, 1, 0] (EP T Try.f125 (Ty.D r)) [(1, .ptr 0 0 0), (2, .ptr 0 1 0), (3, .ptr 0 2 0), (4, .d (.int .i64 (k0 : Int)))] [[.cells [.d (.bool a0.v), .d (.str a0.name), .d (.slice 3 (Ty.Ds a0.args))], .cells [.d (.bool false), .d (.str ByteArray.empty), .nil 3], .cells [.d (.bool a0.v), .d (.str a0.name), .own 0 3 3 (Ty.Ds c2_2_0)], .grow 3 (Ty.Ds c2_2_0).length]]
theorem G_sequentref01_Twin : (∀ p r, sequentref01_Twin' p = some r → ∀ a0, a0 = p → M_sequentref01_Twin a0 r) ∧
    (∀ p r, sequentref01_Twin_l0' p = some r → ∀ rest0 c2_2_0 a0, (rest0, c2_2_0, a0) = p → M_sequentref01_Twin_l0 rest0 c2_2_0 a0 r) := by
  refine sequentref01_Twin'.mutual_partial_correctness (fun (p : Ty) (r : Ty) => ∀ (a0 : Ty), a0 = p → M_sequentref01_Twin a0 r) (fun (p : ((List Ty) × (List Ty) × Ty)) (r : Ty) => ∀ (rest0 : (List Ty)) (c2_2_0 : (List Ty)) (a0 : Ty), (rest0, c2_2_0, a0) = p → M_sequentref01_Twin_l0 rest0 c2_2_0 a0 r) ?_ ?_
  · intro f_sequentref01_Twin_l0 ih_sequentref01_Twin_l0 p r e a0 hp
    subst hp
    refine pure_of_awp (js := []) T_ok Try.func125 rfl (by decide +kernel) rfl ?_; (conv => whnf)
    refine Runs.hold 3 ?_
    refine RunsL.runs (RunsL.weak ((ih_sequentref01_Twin_l0 _ _ e _ _ _ rfl) 0 (by simp)) ?_)
    repeat' first | exact wk.of_eq rfl | exact wk.pure rfl | exact wk.un _ | exact wk.hold _ _ _ | exact wk.holdG _ _ _ | exact rfl | exact trivial | refine ⟨?_, ?_⟩ | (refine wk.of_eq ?_; (conv => lhs; whnf); (simp [Ty.Ds_all, Ty.D, listAll] <;> (repeat' first | rfl | apply And.intro)); done) | (refine wk.pure ?_; (conv => lhs; whnf); (simp [Ty.Ds_all, Ty.D, listAll] <;> (repeat' first | rfl | apply And.intro)); done) | ((simp [Ty.Ds_all, Ty.D, listAll] <;> (repeat' first | rfl | apply And.intro)); done) | (simp [Ty.Ds_all, Ty.D, listAll]; omega)
  · intro f_sequentref01_Twin f_sequentref01_Twin_l0 ih_sequentref01_Twin ih_sequentref01_Twin_l0 p r e rest0 c2_2_0 a0 hp
    subst hp
    intro k0 hd0
    refine RunsL.len_cell 0 2 rfl rfl rfl fun hlenk0 => ?_
    refine RunsL.of_awp (js := []) T_ok ?_; (conv => whnf)
    have hls := Ty.Ds_len a0.args
    cases rest0 with
    | nil =>
      have hk := drop_nil hd0
      refine ⟨⟨fun h => absurd h (by omega), fun _ => ?_⟩⟩; (conv => whnf)
      obtain rfl := sm e
      repeat' first | exact rfl | exact trivial | exact ⟨_, rfl, (by first | exact rfl | (simp [Ty.Ds_all, Ty.D, listAll] <;> (repeat' first | rfl | apply And.intro))), (by first | exact rfl | (simp [Ty.Ds_all, Ty.D, listAll] <;> (repeat' first | rfl | apply And.intro)))⟩ | refine ⟨?_, ?_⟩ | (simp [Ty.Ds_all, Ty.D, listAll] <;> (repeat' first | rfl | apply And.intro))
    | cons v6 rest0 =>
      obtain ⟨hxv6, hd0, hltv6⟩ := drop_head hd0
      refine ⟨⟨fun _ => ?_, fun h => absurd (by omega) h⟩⟩; (conv => whnf)
      refine draw_rule [] T_ok mixed sequentref01_Twin_pl5 (by decide +kernel) ?_; (conv => whnf)
      refine ⟨k0, _, rfl, Ty.Ds_get hxv6, ?_⟩; (conv => whnf)
      refine ⟨Ty.Ds_fit _ rfl rfl, ?_⟩; (conv => whnf)
      obtain ⟨v7, qv7, e⟩ := bnd e
      refine said_pure (ih_sequentref01_Twin _ _ qv7 _ rfl) rfl ⟨Keeps.refl _ _, ?_⟩; (conv => whnf)
      refine ⟨⟨⟨rfl, rfl⟩, trivial⟩, ?_⟩; (conv => whnf)
      obtain ⟨v8, qv8, e⟩ := bnd e
      obtain ⟨qv8l, qv8e⟩ := app_some qv8
      refine ⟨(by first | exact qv8l | simpa [Ty.Ds_all, Ty.D, listAll] using qv8l), rfl, (by first | rfl | simp [Ty.Ds_all, Ty.D, listAll]), ?_⟩; (conv => whnf)
      refine ⟨((k0 + 1 : Nat) : Int), wrap64e (by omega) (by omega) (by omega), ?_⟩; (conv => whnf)
      refine (RunsL.weak ((ih_sequentref01_Twin_l0 _ _ e _ _ _ rfl) (k0 + 1) hd0) ?_)
      repeat' first | exact wk.of_eq rfl | exact wk.pure rfl | exact wk.un _ | exact wk.hold _ _ _ | exact wk.holdG _ _ _ | exact rfl | exact trivial | refine ⟨?_, ?_⟩ | (refine wk.of_eq ?_; (conv => lhs; whnf); (simp [Ty.Ds_all, Ty.D, listAll, qv8e] <;> (repeat' first | rfl | apply And.intro)); done) | (refine wk.pure ?_; (conv => lhs; whnf); (simp [Ty.Ds_all, Ty.D, listAll, qv8e] <;> (repeat' first | rfl | apply And.intro)); done) | ((simp [Ty.Ds_all, Ty.D, listAll, qv8e] <;> (repeat' first | rfl | apply And.intro)); done) | (simp [Ty.Ds_all, Ty.D, listAll, qv8e]; omega)
theorem P_sequentref01_Twin {a0 : Ty} {r : Ty} (e : sequentref01_Twin a0 = some r) : M_sequentref01_Twin a0 r := G_sequentref01_Twin.1 _ _ e _ rfl
def M_sequentref02_Twin (a0 : Tm) (r : Tm) : Prop := Pure Try.prog 74 [(Tm.D a0)] (Tm.D r)
def M_sequentref02_Twin_j0 (a0 : Tm) (v1 : Ty) (r : Tm) : Prop := JoinAt T Try.prog Try.f74 Fx0 [2] [1, 1, 0, 0] (EP T Try.f74 (Tm.D r)) [(1, .ptr 0 0 0), (2, .ptr 0 1 0), (3, .ptr 0 2 0)] [[.cells [.d (.int .u8 a0.kind), .d (.str a0.name), .d (.bool a0.ty.v), .d (.str a0.ty.name), .d (.slice 3 (Ty.Ds a0.ty.args)), .d (.int .i64 a0.index), .d (.slice 7 (Tm.Ds a0.sub))], .cells [.d (.int .u8 0), .d (.str ByteArray.empty), .d (.bool false), .d (.str ByteArray.empty), .nil 3, .d (.int .i64 0), .nil 7], .cells [.d (.int .u8 a0.kind), .d (.str a0.name), .d (.bool v1.v), .d (.str v1.name), .d (.slice 3 (Ty.Ds v1.args)), .d (.int .i64 a0.index), .nil 7]]]
def M_sequentref02_Twin_l0 (rest0 : (List Tm)) (c2_6_0 : (List Tm)) (a0 : Tm) (v1 : Ty) (r : Tm) : Prop := ∀ (k0 : Nat) (hd0 : rest0 = a0.sub.drop k0), LoopAt T Try.prog Try.f74 Fx0 [2] [1, 1, 0, 1, 0] (EP T Try.f74 (Tm.D r)) [(1, .ptr 0 0 0), (2, .ptr 0 1 0), (3, .ptr 0 2 0), (4, .d (.int .i64 (k0 : Int)))] [[.cells [.d (.int .u8 a0.kind), .d (.str a0.name), .d (.bool a0.ty.v), .d (.str a0.ty.name), .d (.slice 3 (Ty.Ds a0.ty.args)), .d (.int .i64 a0.index), .d (.slice 7 (Tm.Ds a0.sub))], .cells [.d (.int .u8 0), .d (.str ByteArray.empty), .d (.bool false), .d (.str ByteArray.empty), .nil 3, .d (.int .i64 0), .nil 7], .cells [.d (.int .u8 a0.kind), .d (.str a0.name), .d (.bool v1.v), .d (.str v1.name), .d (.slice 3 (Ty.Ds v1.args)), .d (.int .i64 a0.index), .own 0 3 7 (Tm.Ds c2_6_0)], .grow 7 (Tm.Ds c2_6_0).length]]
theorem G_sequentref02_Twin : (∀ p r, sequentref02_Twin' p = some r → ∀ a0, a0 = p → M_sequentref02_Twin a0 r) ∧
    (∀ p r, sequentref02_Twin_j0' p = some r → ∀ a0 v1, (a0, v1) = p → M_sequentref02_Twin_j0 a0 v1 r) ∧
    (∀ p r, sequentref02_Twin_l0' p = some r → ∀ rest0 c2_6_0 a0 v1, (rest0, c2_6_0, a0, v1) = p → M_sequentref02_Twin_l0 rest0 c2_6_0 a0 v1 r) := by
  refine sequentref02_Twin'.mutual_partial_correctness (fun (p : Tm) (r : Tm) => ∀ (a0 : Tm), a0 = p → M_sequentref02_Twin a0 r) (fun (p : (Tm × Ty)) (r : Tm) => ∀ (a0 : Tm) (v1 : Ty), (a0, v1) = p → M_sequentref02_Twin_j0 a0 v1 r) (fun (p : ((List Tm) × (List Tm) × Tm × Ty)) (r : Tm) => ∀ (rest0 : (List Tm)) (c2_6_0 : (List Tm)) (a0 : Tm) (v1 : Ty), (rest0, c2_6_0, a0, v1) = p → M_sequentref02_Twin_l0 rest0 c2_6_0 a0 v1 r) ?_ ?_ ?_
  · intro f_sequentref02_Twin_j0 ih_sequentref02_Twin_j0 p r e a0 hp
    subst hp
    refine pure_of_awp (js := [2]) T_ok Try.func74 rfl (by decide +kernel) rfl ?_; (conv => whnf)
    refine draw_rule [] T_ok mixed sequentref02_Twin_pl1 (by decide +kernel) ?_; (conv => whnf)
    obtain ⟨v1, qv1, e⟩ := bnd e
    refine ⟨?_, ?_⟩
    · (conv => whnf)
      refine said_pure (P_sequentref01_Twin qv1) rfl ⟨Keeps.refl _ _, ?_⟩; (conv => whnf)
      refine Runs.weak (ih_sequentref02_Twin_j0 _ _ e _ _ rfl) ?_
      repeat' first | exact wk.of_eq rfl | exact wk.pure rfl | exact wk.un _ | exact wk.hold _ _ _ | exact wk.holdG _ _ _ | exact rfl | exact trivial | refine ⟨?_, ?_⟩
    · (conv => whnf)
      refine said_pure (P_sequentref01_Twin qv1) rfl ⟨Keeps.refl _ _, ?_⟩; (conv => whnf)
      refine Runs.weak (ih_sequentref02_Twin_j0 _ _ e _ _ rfl) ?_
      repeat' first | exact wk.of_eq rfl | exact wk.pure rfl | exact wk.un _ | exact wk.hold _ _ _ | exact wk.holdG _ _ _ | exact rfl | exact trivial | refine ⟨?_, ?_⟩
  · intro f_sequentref02_Twin_l0 ih_sequentref02_Twin_l0 p r e a0 v1 hp
    subst hp
    refine Runs.enter T_ok ?_; (conv => whnf)
    refine Runs.hold 7 ?_
    refine RunsL.runs (RunsL.weak ((ih_sequentref02_Twin_l0 _ _ e _ _ _ _ rfl) 0 (by simp)) ?_)
    repeat' first | exact wk.of_eq rfl | exact wk.pure rfl | exact wk.un _ | exact wk.hold _ _ _ | exact wk.holdG _ _ _ | exact rfl | exact trivial | refine ⟨?_, ?_⟩ | (refine wk.of_eq ?_; (conv => lhs; whnf); (simp [Tm.Ds_all, Ty.Ds_all, Tm.D, Ty.D, listAll] <;> (repeat' first | rfl | apply And.intro)); done) | (refine wk.pure ?_; (conv => lhs; whnf); (simp [Tm.Ds_all, Ty.Ds_all, Tm.D, Ty.D, listAll] <;> (repeat' first | rfl | apply And.intro)); done) | ((simp [Tm.Ds_all, Ty.Ds_all, Tm.D, Ty.D, listAll] <;> (repeat' first | rfl | apply And.intro)); done) | (simp [Tm.Ds_all, Ty.Ds_all, Tm.D, Ty.D, listAll]; omega)
  · intro f_sequentref02_Twin f_sequentref02_Twin_l0 ih_sequentref02_Twin ih_sequentref02_Twin_l0 p r e rest0 c2_6_0 a0 v1 hp
    subst hp
    intro k0 hd0
    refine RunsL.len_cell 0 6 rfl rfl rfl fun hlenk0 => ?_
    refine RunsL.of_awp (js := [2]) T_ok ?_; (conv => whnf)
    have hls := Tm.Ds_len a0.sub
    cases rest0 with
    | nil =>
      have hk := drop_nil hd0
      refine ⟨⟨fun h => absurd h (by omega), fun _ => ?_⟩⟩; (conv => whnf)
      obtain rfl := sm e
      repeat' first | exact rfl | exact trivial | exact ⟨_, rfl, (by first | exact rfl | (simp [Tm.Ds_all, Ty.Ds_all, Tm.D, Ty.D, listAll] <;> (repeat' first | rfl | apply And.intro))), (by first | exact rfl | (simp [Tm.Ds_all, Ty.Ds_all, Tm.D, Ty.D, listAll] <;> (repeat' first | rfl | apply And.intro)))⟩ | refine ⟨?_, ?_⟩ | (simp [Tm.Ds_all, Ty.Ds_all, Tm.D, Ty.D, listAll] <;> (repeat' first | rfl | apply And.intro))
    | cons v7 rest0 =>
      obtain ⟨hxv7, hd0, hltv7⟩ := drop_head hd0
      refine ⟨⟨fun _ => ?_, fun h => absurd (by omega) h⟩⟩; (conv => whnf)
      refine draw_rule [] T_ok mixed sequentref02_Twin_pl5 (by decide +kernel) ?_; (conv => whnf)
      refine ⟨k0, _, rfl, Tm.Ds_get hxv7, ?_⟩; (conv => whnf)
      refine ⟨Tm.Ds_fit _ rfl rfl, ?_⟩; (conv => whnf)
      obtain ⟨v8, qv8, e⟩ := bnd e
      refine said_pure (ih_sequentref02_Twin _ _ qv8 _ rfl) rfl ⟨Keeps.refl _ _, ?_⟩; (conv => whnf)
      refine ⟨⟨⟨rfl, rfl⟩, trivial⟩, ?_⟩; (conv => whnf)
      obtain ⟨v9, qv9, e⟩ := bnd e
      obtain ⟨qv9l, qv9e⟩ := app_some qv9
      refine ⟨(by first | exact qv9l | simpa [Tm.Ds_all, Ty.Ds_all, Tm.D, Ty.D, listAll] using qv9l), rfl, (by first | rfl | simp [Tm.Ds_all, Ty.Ds_all, Tm.D, Ty.D, listAll]), ?_⟩; (conv => whnf)
      refine ⟨((k0 + 1 : Nat) : Int), wrap64e (by omega) (by omega) (by omega), ?_⟩; (conv => whnf)
      refine (RunsL.weak ((ih_sequentref02_Twin_l0 _ _ e _ _ _ _ rfl) (k0 + 1) hd0) ?_)
      repeat' first | exact wk.of_eq rfl | exact wk.pure rfl | exact wk.un _ | exact wk.hold _ _ _ | exact wk.holdG _ _ _ | exact rfl | exact trivial | refine ⟨?_, ?_⟩ | (refine wk.of_eq ?_; (conv => lhs; whnf); (simp [Tm.Ds_all, Ty.Ds_all, Tm.D, Ty.D, listAll, qv9e] <;> (repeat' first | rfl | apply And.intro)); done) | (refine wk.pure ?_; (conv => lhs; whnf); (simp [Tm.Ds_all, Ty.Ds_all, Tm.D, Ty.D, listAll, qv9e] <;> (repeat' first | rfl | apply And.intro)); done) | ((simp [Tm.Ds_all, Ty.Ds_all, Tm.D, Ty.D, listAll, qv9e] <;> (repeat' first | rfl | apply And.intro)); done) | (simp [Tm.Ds_all, Ty.Ds_all, Tm.D, Ty.D, listAll, qv9e]; omega)
theorem P_sequentref02_Twin {a0 : Tm} {r : Tm} (e : sequentref02_Twin a0 = some r) : M_sequentref02_Twin a0 r := G_sequentref02_Twin.1 _ _ e _ rfl
def M_sequentref29_Twin (a0 : ATactic) (r : ATactic) : Prop := Pure Try.prog 40 [(ATactic.D a0)] (ATactic.D r)
def M_sequentref29_Twin_j0 (a0 : ATactic) (v1 : Tm) (r : ATactic) : Prop := JoinAt T Try.prog Try.f40 Fx0 [2] [1, 1, 0, 0] (EP T Try.f40 (ATactic.D r)) [(1, .ptr 0 0 0), (2, .ptr 0 1 0), (3, .ptr 0 2 0)] [[.cells [.d (.int .u8 a0.kind), .d (.int .i64 a0.at_), .d (.int .i64 a0.to_), .d (.int .u8 a0.term.kind), .d (.str a0.term.name), .d (.bool a0.term.ty.v), .d (.str a0.term.ty.name), .d (.slice 3 (Ty.Ds a0.term.ty.args)), .d (.int .i64 a0.term.index), .d (.slice 7 (Tm.Ds a0.term.sub)), .d (.slice 11 (ATactic.Ds a0.kids))], .cells [.d (.int .u8 0), .d (.int .i64 0), .d (.int .i64 0), .d (.int .u8 0), .d (.str ByteArray.empty), .d (.bool false), .d (.str ByteArray.empty), .nil 3, .d (.int .i64 0), .nil 7, .nil 11], .cells [.d (.int .u8 a0.kind), .d (.int .i64 a0.at_), .d (.int .i64 a0.to_), .d (.int .u8 v1.kind), .d (.str v1.name), .d (.bool v1.ty.v), .d (.str v1.ty.name), .d (.slice 3 (Ty.Ds v1.ty.args)), .d (.int .i64 v1.index), .d (.slice 7 (Tm.Ds v1.sub)), .nil 11]]]
def M_sequentref29_Twin_l0 (rest0 : (List ATactic)) (c2_10_0 : (List ATactic)) (a0 : ATactic) (v1 : Tm) (r : ATactic) : Prop := ∀ (k0 : Nat) (hd0 : rest0 = a0.kids.drop k0), LoopAt T Try.prog Try.f40 Fx0 [2] [1, 1, 0, 1, 0] (EP T Try.f40 (ATactic.D r)) [(1, .ptr 0 0 0), (2, .ptr 0 1 0), (3, .ptr 0 2 0), (4, .d (.int .i64 (k0 : Int)))] [[.cells [.d (.int .u8 a0.kind), .d (.int .i64 a0.at_), .d (.int .i64 a0.to_), .d (.int .u8 a0.term.kind), .d (.str a0.term.name), .d (.bool a0.term.ty.v), .d (.str a0.term.ty.name), .d (.slice 3 (Ty.Ds a0.term.ty.args)), .d (.int .i64 a0.term.index), .d (.slice 7 (Tm.Ds a0.term.sub)), .d (.slice 11 (ATactic.Ds a0.kids))], .cells [.d (.int .u8 0), .d (.int .i64 0), .d (.int .i64 0), .d (.int .u8 0), .d (.str ByteArray.empty), .d (.bool false), .d (.str ByteArray.empty), .nil 3, .d (.int .i64 0), .nil 7, .nil 11], .cells [.d (.int .u8 a0.kind), .d (.int .i64 a0.at_), .d (.int .i64 a0.to_), .d (.int .u8 v1.kind), .d (.str v1.name), .d (.bool v1.ty.v), .d (.str v1.ty.name), .d (.slice 3 (Ty.Ds v1.ty.args)), .d (.int .i64 v1.index), .d (.slice 7 (Tm.Ds v1.sub)), .own 0 3 11 (ATactic.Ds c2_10_0)], .grow 11 (ATactic.Ds c2_10_0).length]]
theorem G_sequentref29_Twin : (∀ p r, sequentref29_Twin' p = some r → ∀ a0, a0 = p → M_sequentref29_Twin a0 r) ∧
    (∀ p r, sequentref29_Twin_j0' p = some r → ∀ a0 v1, (a0, v1) = p → M_sequentref29_Twin_j0 a0 v1 r) ∧
    (∀ p r, sequentref29_Twin_l0' p = some r → ∀ rest0 c2_10_0 a0 v1, (rest0, c2_10_0, a0, v1) = p → M_sequentref29_Twin_l0 rest0 c2_10_0 a0 v1 r) := by
  refine sequentref29_Twin'.mutual_partial_correctness (fun (p : ATactic) (r : ATactic) => ∀ (a0 : ATactic), a0 = p → M_sequentref29_Twin a0 r) (fun (p : (ATactic × Tm)) (r : ATactic) => ∀ (a0 : ATactic) (v1 : Tm), (a0, v1) = p → M_sequentref29_Twin_j0 a0 v1 r) (fun (p : ((List ATactic) × (List ATactic) × ATactic × Tm)) (r : ATactic) => ∀ (rest0 : (List ATactic)) (c2_10_0 : (List ATactic)) (a0 : ATactic) (v1 : Tm), (rest0, c2_10_0, a0, v1) = p → M_sequentref29_Twin_l0 rest0 c2_10_0 a0 v1 r) ?_ ?_ ?_
  · intro f_sequentref29_Twin_j0 ih_sequentref29_Twin_j0 p r e a0 hp
    subst hp
    refine pure_of_awp (js := [2]) T_ok Try.func40 rfl (by decide +kernel) rfl ?_; (conv => whnf)
    refine draw_rule [] T_ok mixed sequentref29_Twin_pl1 (by decide +kernel) ?_; (conv => whnf)
    obtain ⟨v1, qv1, e⟩ := bnd e
    refine ⟨?_, ?_⟩
    · (conv => whnf)
      refine said_pure (P_sequentref02_Twin qv1) rfl ⟨Keeps.refl _ _, ?_⟩; (conv => whnf)
      refine Runs.weak (ih_sequentref29_Twin_j0 _ _ e _ _ rfl) ?_
      repeat' first | exact wk.of_eq rfl | exact wk.pure rfl | exact wk.un _ | exact wk.hold _ _ _ | exact wk.holdG _ _ _ | exact rfl | exact trivial | refine ⟨?_, ?_⟩
    · (conv => whnf)
      refine said_pure (P_sequentref02_Twin qv1) rfl ⟨Keeps.refl _ _, ?_⟩; (conv => whnf)
      refine Runs.weak (ih_sequentref29_Twin_j0 _ _ e _ _ rfl) ?_
      repeat' first | exact wk.of_eq rfl | exact wk.pure rfl | exact wk.un _ | exact wk.hold _ _ _ | exact wk.holdG _ _ _ | exact rfl | exact trivial | refine ⟨?_, ?_⟩
  · intro f_sequentref29_Twin_l0 ih_sequentref29_Twin_l0 p r e a0 v1 hp
    subst hp
    refine Runs.enter T_ok ?_; (conv => whnf)
    refine Runs.hold 11 ?_
    refine RunsL.runs (RunsL.weak ((ih_sequentref29_Twin_l0 _ _ e _ _ _ _ rfl) 0 (by simp)) ?_)
    repeat' first | exact wk.of_eq rfl | exact wk.pure rfl | exact wk.un _ | exact wk.hold _ _ _ | exact wk.holdG _ _ _ | exact rfl | exact trivial | refine ⟨?_, ?_⟩ | (refine wk.of_eq ?_; (conv => lhs; whnf); (simp [ATactic.Ds_all, Tm.Ds_all, Ty.Ds_all, ATactic.D, Tm.D, Ty.D, listAll] <;> (repeat' first | rfl | apply And.intro)); done) | (refine wk.pure ?_; (conv => lhs; whnf); (simp [ATactic.Ds_all, Tm.Ds_all, Ty.Ds_all, ATactic.D, Tm.D, Ty.D, listAll] <;> (repeat' first | rfl | apply And.intro)); done) | ((simp [ATactic.Ds_all, Tm.Ds_all, Ty.Ds_all, ATactic.D, Tm.D, Ty.D, listAll] <;> (repeat' first | rfl | apply And.intro)); done) | (simp [ATactic.Ds_all, Tm.Ds_all, Ty.Ds_all, ATactic.D, Tm.D, Ty.D, listAll]; omega)
  · intro f_sequentref29_Twin f_sequentref29_Twin_l0 ih_sequentref29_Twin ih_sequentref29_Twin_l0 p r e rest0 c2_10_0 a0 v1 hp
    subst hp
    intro k0 hd0
    refine RunsL.len_cell 0 10 rfl rfl rfl fun hlenk0 => ?_
    refine RunsL.of_awp (js := [2]) T_ok ?_; (conv => whnf)
    have hls := ATactic.Ds_len a0.kids
    cases rest0 with
    | nil =>
      have hk := drop_nil hd0
      refine ⟨⟨fun h => absurd h (by omega), fun _ => ?_⟩⟩; (conv => whnf)
      obtain rfl := sm e
      repeat' first | exact rfl | exact trivial | exact ⟨_, rfl, (by first | exact rfl | (simp [ATactic.Ds_all, Tm.Ds_all, Ty.Ds_all, ATactic.D, Tm.D, Ty.D, listAll] <;> (repeat' first | rfl | apply And.intro))), (by first | exact rfl | (simp [ATactic.Ds_all, Tm.Ds_all, Ty.Ds_all, ATactic.D, Tm.D, Ty.D, listAll] <;> (repeat' first | rfl | apply And.intro)))⟩ | refine ⟨?_, ?_⟩ | (simp [ATactic.Ds_all, Tm.Ds_all, Ty.Ds_all, ATactic.D, Tm.D, Ty.D, listAll] <;> (repeat' first | rfl | apply And.intro))
    | cons v11 rest0 =>
      obtain ⟨hxv11, hd0, hltv11⟩ := drop_head hd0
      refine ⟨⟨fun _ => ?_, fun h => absurd (by omega) h⟩⟩; (conv => whnf)
      refine draw_rule [] T_ok mixed sequentref29_Twin_pl5 (by decide +kernel) ?_; (conv => whnf)
      refine ⟨k0, _, rfl, ATactic.Ds_get hxv11, ?_⟩; (conv => whnf)
      refine ⟨ATactic.Ds_fit _ rfl rfl, ?_⟩; (conv => whnf)
      obtain ⟨v12, qv12, e⟩ := bnd e
      refine said_pure (ih_sequentref29_Twin _ _ qv12 _ rfl) rfl ⟨Keeps.refl _ _, ?_⟩; (conv => whnf)
      refine ⟨⟨⟨rfl, rfl⟩, trivial⟩, ?_⟩; (conv => whnf)
      obtain ⟨v13, qv13, e⟩ := bnd e
      obtain ⟨qv13l, qv13e⟩ := app_some qv13
      refine ⟨(by first | exact qv13l | simpa [ATactic.Ds_all, Tm.Ds_all, Ty.Ds_all, ATactic.D, Tm.D, Ty.D, listAll] using qv13l), rfl, (by first | rfl | simp [ATactic.Ds_all, Tm.Ds_all, Ty.Ds_all, ATactic.D, Tm.D, Ty.D, listAll]), ?_⟩; (conv => whnf)
      refine ⟨((k0 + 1 : Nat) : Int), wrap64e (by omega) (by omega) (by omega), ?_⟩; (conv => whnf)
      refine (RunsL.weak ((ih_sequentref29_Twin_l0 _ _ e _ _ _ _ rfl) (k0 + 1) hd0) ?_)
      repeat' first | exact wk.of_eq rfl | exact wk.pure rfl | exact wk.un _ | exact wk.hold _ _ _ | exact wk.holdG _ _ _ | exact rfl | exact trivial | refine ⟨?_, ?_⟩ | (refine wk.of_eq ?_; (conv => lhs; whnf); (simp [ATactic.Ds_all, Tm.Ds_all, Ty.Ds_all, ATactic.D, Tm.D, Ty.D, listAll, qv13e] <;> (repeat' first | rfl | apply And.intro)); done) | (refine wk.pure ?_; (conv => lhs; whnf); (simp [ATactic.Ds_all, Tm.Ds_all, Ty.Ds_all, ATactic.D, Tm.D, Ty.D, listAll, qv13e] <;> (repeat' first | rfl | apply And.intro)); done) | ((simp [ATactic.Ds_all, Tm.Ds_all, Ty.Ds_all, ATactic.D, Tm.D, Ty.D, listAll, qv13e] <;> (repeat' first | rfl | apply And.intro)); done) | (simp [ATactic.Ds_all, Tm.Ds_all, Ty.Ds_all, ATactic.D, Tm.D, Ty.D, listAll, qv13e]; omega)
theorem P_sequentref29_Twin {a0 : ATactic} {r : ATactic} (e : sequentref29_Twin a0 = some r) : M_sequentref29_Twin a0 r := G_sequentref29_Twin.1 _ _ e _ rfl
def M_tactic_forms_l1 (rest1 : (List Int)) (m0_1 : (List (Int × TacticForm))) (r : (Option (List (Int × TacticForm)))) : Prop := ∀ (k1 : Nat) (hd1 : rest1 = ([6, 19, 20, 21, 22]).drop k1), LoopAt T Try.prog Try.f88 Fx0 [] [1, 1, 1, 0, 1, 0] (EP T Try.f88 (mapO (D.int .u8) TacticForm.D r)) [(1, .map 0 0), (13, .full 1 (intDs_u8 ([6, 19, 20, 21, 22]))), (14, .d (.int .i64 ((intDs_u8 ([6, 19, 20, 21, 22])).length : Int))), (15, .d (.int .i64 (k1 : Int)))] [[.map (mapD (D.int .u8) TacticForm.D m0_1)]]
theorem G_tactic_forms_l1 : (∀ p r, tactic_forms_l1' p = some r → ∀ rest1 m0_1, (rest1, m0_1) = p → M_tactic_forms_l1 rest1 m0_1 r) := by
  refine tactic_forms_l1'.partial_correctness (fun (p : ((List Int) × (List (Int × TacticForm)))) (r : (Option (List (Int × TacticForm)))) => ∀ (rest1 : (List Int)) (m0_1 : (List (Int × TacticForm))), (rest1, m0_1) = p → M_tactic_forms_l1 rest1 m0_1 r) ?_
  · intro f_tactic_forms_l1 ih_tactic_forms_l1 p r e rest1 m0_1 hp
    subst hp
    intro k1 hd1
    refine RunsL.len_tmp 13 rfl fun hlenk1 => ?_
    refine RunsL.of_awp (js := []) T_ok ?_; (conv => whnf)
    have hls := intDs_u8_len ([6, 19, 20, 21, 22])
    cases rest1 with
    | nil =>
      have hk := drop_nil hd1
      refine ⟨⟨fun h => absurd h (by omega), fun _ => ?_⟩⟩; (conv => whnf)
      obtain ⟨v17, qv17, e⟩ := bnd e
      refine mupd_of KF_5 (sm qv17) ?_; (conv => whnf)
      obtain ⟨v18, qv18, e⟩ := bnd e
      refine mupd_of KF_5 (sm qv18) ?_; (conv => whnf)
      obtain ⟨v19, qv19, e⟩ := bnd e
      refine mupd_of KF_5 (sm qv19) ?_; (conv => whnf)
      obtain ⟨v20, qv20, e⟩ := bnd e
      refine mupd_of KF_5 (sm qv20) ?_; (conv => whnf)
      obtain ⟨v21, qv21, e⟩ := bnd e
      refine mupd_of KF_5 (sm qv21) ?_; (conv => whnf)
      obtain ⟨v22, qv22, e⟩ := bnd e
      refine mupd_of KF_5 (sm qv22) ?_; (conv => whnf)
      obtain ⟨v23, qv23, e⟩ := bnd e
      refine mupd_of KF_5 (sm qv23) ?_; (conv => whnf)
      obtain ⟨v24, qv24, e⟩ := bnd e
      refine mupd_of KF_5 (sm qv24) ?_; (conv => whnf)
      obtain ⟨v25, qv25, e⟩ := bnd e
      refine mupd_of KF_5 (sm qv25) ?_; (conv => whnf)
      obtain rfl := sm e
      repeat' first | exact rfl | exact trivial | exact ⟨_, rfl, rfl⟩ | refine ⟨?_, ?_⟩
    | cons v16 rest1 =>
      obtain ⟨hxv16, hd1, hltv16⟩ := drop_head hd1
      refine ⟨⟨fun _ => ?_, fun h => absurd (by omega) h⟩⟩; (conv => whnf)
      refine ⟨k1, _, rfl, intDs_u8_get hxv16, ?_⟩; (conv => whnf)
      refine ⟨intDs_u8_fit _ rfl rfl, ?_⟩; (conv => whnf)
      obtain ⟨v17, qv17, e⟩ := bnd e
      refine mupd_of KF_5 (sm qv17) ?_; (conv => whnf)
      refine ⟨((k1 + 1 : Nat) : Int), wrap64e (by omega) (by omega) (by omega), ?_⟩; (conv => whnf)
      refine (RunsL.weak ((ih_tactic_forms_l1 _ _ e _ _ rfl) (k1 + 1) hd1) ?_)
      repeat' first | exact wk.of_eq rfl | exact wk.pure rfl | exact wk.un _ | exact wk.hold _ _ _ | exact wk.holdG _ _ _ | exact rfl | exact trivial | refine ⟨?_, ?_⟩ | (refine wk.of_eq ?_; (conv => lhs; whnf); (simp [intDs_u8_all, listAll] <;> (repeat' first | rfl | apply And.intro)); done) | (refine wk.pure ?_; (conv => lhs; whnf); (simp [intDs_u8_all, listAll] <;> (repeat' first | rfl | apply And.intro)); done) | ((simp [intDs_u8_all, listAll] <;> (repeat' first | rfl | apply And.intro)); done) | (simp [intDs_u8_all, listAll]; omega)
theorem P_tactic_forms_l1 {rest1 : (List Int)} {m0_1 : (List (Int × TacticForm))} {r : (Option (List (Int × TacticForm)))} (e : tactic_forms_l1 rest1 m0_1 = some r) : M_tactic_forms_l1 rest1 m0_1 r := G_tactic_forms_l1 _ _ e _ _ rfl
def M_tactic_forms_l0 (t2_0 : Int) (m0_0 : (List (Int × TacticForm))) (r : (Option (List (Int × TacticForm)))) : Prop := LoopAt T Try.prog Try.f88 Fx0 [] [1, 1, 0, 1, 0] (EP T Try.f88 (mapO (D.int .u8) TacticForm.D r)) [(1, .map 0 0), (2, .d (.int .u8 t2_0))] [[.map (mapD (D.int .u8) TacticForm.D m0_0)]]
theorem G_tactic_forms_l0 : (∀ p r, tactic_forms_l0' p = some r → ∀ t2_0 m0_0, (t2_0, m0_0) = p → M_tactic_forms_l0 t2_0 m0_0 r) := by
  refine tactic_forms_l0'.partial_correctness (fun (p : (Int × (List (Int × TacticForm)))) (r : (Option (List (Int × TacticForm)))) => ∀ (t2_0 : Int) (m0_0 : (List (Int × TacticForm))), (t2_0, m0_0) = p → M_tactic_forms_l0 t2_0 m0_0 r) ?_
  · intro f_tactic_forms_l0 ih_tactic_forms_l0 p r e t2_0 m0_0 hp
    subst hp
    refine RunsL.of_awp (js := []) T_ok ?_; (conv => whnf)
    refine ⟨⟨fun h3 => ?_, fun h3 => ?_⟩⟩
    · replace e := ifp h3 e; (conv => whnf)
      obtain ⟨v4, qv4, e⟩ := bnd e
      refine mupd_of KF_5 (sm qv4) ?_; (conv => whnf)
      obtain ⟨v5, qv5, e⟩ := bnd e
      refine ⟨v5, sm qv5, ?_⟩; (conv => whnf)
      refine (RunsL.weak (ih_tactic_forms_l0 _ _ e _ _ rfl) ?_)
      repeat' first | exact wk.of_eq rfl | exact wk.pure rfl | exact wk.un _ | exact wk.hold _ _ _ | exact wk.holdG _ _ _ | exact rfl | exact trivial | refine ⟨?_, ?_⟩
    · replace e := ifn h3 e; (conv => whnf)
      refine ⟨⟨⟨rfl, rfl⟩, ⟨⟨rfl, rfl⟩, ⟨⟨rfl, rfl⟩, ⟨⟨rfl, rfl⟩, ⟨⟨rfl, rfl⟩, trivial⟩⟩⟩⟩⟩, ?_⟩; (conv => whnf)
      refine RunsL.runs (RunsL.weak ((P_tactic_forms_l1 e) 0 (by simp)) ?_)
      repeat' first | exact wk.of_eq rfl | exact wk.pure rfl | exact wk.un _ | exact wk.hold _ _ _ | exact wk.holdG _ _ _ | exact rfl | exact trivial | refine ⟨?_, ?_⟩ | (refine wk.of_eq ?_; (conv => lhs; whnf); (simp [intDs_u8_all, listAll] <;> (repeat' first | rfl | apply And.intro)); done) | (refine wk.pure ?_; (conv => lhs; whnf); (simp [intDs_u8_all, listAll] <;> (repeat' first | rfl | apply And.intro)); done) | ((simp [intDs_u8_all, listAll] <;> (repeat' first | rfl | apply And.intro)); done) | (simp [intDs_u8_all, listAll]; omega)
theorem P_tactic_forms_l0 {t2_0 : Int} {m0_0 : (List (Int × TacticForm))} {r : (Option (List (Int × TacticForm)))} (e : tactic_forms_l0 t2_0 m0_0 = some r) : M_tactic_forms_l0 t2_0 m0_0 r := G_tactic_forms_l0 _ _ e _ _ rfl
theorem P_tactic_forms {r : (Option (List (Int × TacticForm)))} (e : tactic_forms = some r) : Pure Try.prog 88 [] (mapO (D.int .u8) TacticForm.D r) := by
  unfold tactic_forms at e
  refine pure_of_awp (js := []) T_ok Try.func88 rfl (by decide +kernel) rfl ?_; (conv => whnf)
  refine RunsL.runs (RunsL.weak (P_tactic_forms_l0 e) ?_)
  repeat' first | exact wk.of_eq rfl | exact wk.pure rfl | exact wk.un _ | exact wk.hold _ _ _ | exact wk.holdG _ _ _ | exact rfl | exact trivial | refine ⟨?_, ?_⟩
theorem P_cmp_isNaN_uint8 {a0 : Int} {r : Bool} (e : cmp_isNaN_uint8 a0 = some r) : Pure Try.prog 156 [(.int .u8 a0)] (.bool r) := by
  unfold cmp_isNaN_uint8 at e
  refine pure_of_awp (js := []) T_ok Try.func156 rfl (by decide +kernel) rfl ?_; (conv => whnf)
  refine test.dec ?_; (conv => whnf)
  obtain rfl := sm e
  repeat' first | exact rfl | exact trivial | refine ⟨?_, ?_⟩
theorem P_cmp_Compare_uint8 {a0 : Int} {a1 : Int} {r : Int} (e : cmp_Compare_uint8 a0 a1 = some r) : Pure Try.prog 140 [(.int .u8 a0), (.int .u8 a1)] (.int .i64 r) := by
  unfold cmp_Compare_uint8 at e
  refine pure_of_awp (js := []) T_ok Try.func140 rfl (by decide +kernel) rfl ?_; (conv => whnf)
  obtain ⟨v1, qv1, e⟩ := bnd e
  refine said_pure (P_cmp_isNaN_uint8 qv1) rfl ?_; (conv => whnf)
  obtain ⟨v2, qv2, e⟩ := bnd e
  refine said_pure (P_cmp_isNaN_uint8 qv2) rfl ?_; (conv => whnf)
  refine brK.split (fun hb3 => ?_) (fun hb3 => ?_)
  · replace e := ifpb hb3 e; (conv => whnf)
    refine brK.split (fun hb4 => ?_) (fun hb4 => ?_)
    · replace e := ifpb hb4 e; (conv => whnf)
      obtain rfl := sm e
      repeat' first | exact rfl | exact trivial | refine ⟨?_, ?_⟩
    · replace e := ifnb hb4 e; (conv => whnf)
      obtain rfl := sm e
      repeat' first | exact rfl | exact trivial | refine ⟨?_, ?_⟩
  · replace e := ifnb hb3 e; (conv => whnf)
    refine brK.split (fun hb4 => ?_) (fun hb4 => ?_)
    · replace e := ifpb hb4 e; (conv => whnf)
      obtain rfl := sm e
      repeat' first | exact rfl | exact trivial | refine ⟨?_, ?_⟩
    · replace e := ifnb hb4 e; (conv => whnf)
      refine ⟨⟨fun h5 => ?_, fun h5 => ?_⟩⟩
      · replace e := ifp h5 e; (conv => whnf)
        obtain rfl := sm e
        repeat' first | exact rfl | exact trivial | refine ⟨?_, ?_⟩
      · replace e := ifn h5 e; (conv => whnf)
        refine ⟨⟨fun h6 => ?_, fun h6 => ?_⟩⟩
        · replace e := ifp h6 e; (conv => whnf)
          obtain rfl := sm e
          repeat' first | exact rfl | exact trivial | refine ⟨?_, ?_⟩
        · replace e := ifn h6 e; (conv => whnf)
          obtain rfl := sm e
          repeat' first | exact rfl | exact trivial | refine ⟨?_, ?_⟩
theorem P_bytealg_CompareString {a0 : ByteArray} {a1 : ByteArray} {r : Int} (e : bytealg_CompareString a0 a1 = some r) : Pure Try.prog 157 [(.str a0), (.str a1)] (.int .i64 r) := by
  unfold bytealg_CompareString at e
  refine pure_of_awp (js := []) T_ok Try.func157 rfl (by decide +kernel) rfl ?_; (conv => whnf)
  obtain ⟨v1, qv1, e⟩ := bnd e
  refine said_pure (P_cmpstr qv1) rfl ?_; (conv => whnf)
  obtain rfl := sm e
  repeat' first | exact rfl | exact trivial | refine ⟨?_, ?_⟩
theorem P_strings_Compare {a0 : ByteArray} {a1 : ByteArray} {r : Int} (e : strings_Compare a0 a1 = some r) : Pure Try.prog 141 [(.str a0), (.str a1)] (.int .i64 r) := by
  unfold strings_Compare at e
  refine pure_of_awp (js := []) T_ok Try.func141 rfl (by decide +kernel) rfl ?_; (conv => whnf)
  obtain ⟨v1, qv1, e⟩ := bnd e
  refine said_pure (P_bytealg_CompareString qv1) rfl ?_; (conv => whnf)
  obtain rfl := sm e
  repeat' first | exact rfl | exact trivial | refine ⟨?_, ?_⟩
theorem P_types_rank {a0 : Ty} {r : Int} (e : types_rank a0 = some r) : Pure Try.prog 158 [(Ty.D a0)] (.int .i64 r) := by
  unfold types_rank at e
  refine pure_of_awp (js := []) T_ok Try.func158 rfl (by decide +kernel) rfl ?_; (conv => whnf)
  refine brK.split (fun hb1 => ?_) (fun hb1 => ?_)
  · replace e := ifpb hb1 e; (conv => whnf)
    obtain rfl := sm e
    repeat' first | exact rfl | exact trivial | refine ⟨?_, ?_⟩
  · replace e := ifnb hb1 e; (conv => whnf)
    obtain rfl := sm e
    repeat' first | exact rfl | exact trivial | refine ⟨?_, ?_⟩
theorem P_cmp_isNaN_int {a0 : Int} {r : Bool} (e : cmp_isNaN_int a0 = some r) : Pure Try.prog 160 [(.int .i64 a0)] (.bool r) := by
  unfold cmp_isNaN_int at e
  refine pure_of_awp (js := []) T_ok Try.func160 rfl (by decide +kernel) rfl ?_; (conv => whnf)
  refine test.dec ?_; (conv => whnf)
  obtain rfl := sm e
  repeat' first | exact rfl | exact trivial | refine ⟨?_, ?_⟩
theorem P_cmp_Compare_int {a0 : Int} {a1 : Int} {r : Int} (e : cmp_Compare_int a0 a1 = some r) : Pure Try.prog 144 [(.int .i64 a0), (.int .i64 a1)] (.int .i64 r) := by
  unfold cmp_Compare_int at e
  refine pure_of_awp (js := []) T_ok Try.func144 rfl (by decide +kernel) rfl ?_; (conv => whnf)
  obtain ⟨v1, qv1, e⟩ := bnd e
  refine said_pure (P_cmp_isNaN_int qv1) rfl ?_; (conv => whnf)
  obtain ⟨v2, qv2, e⟩ := bnd e
  refine said_pure (P_cmp_isNaN_int qv2) rfl ?_; (conv => whnf)
  refine brK.split (fun hb3 => ?_) (fun hb3 => ?_)
  · replace e := ifpb hb3 e; (conv => whnf)
    refine brK.split (fun hb4 => ?_) (fun hb4 => ?_)
    · replace e := ifpb hb4 e; (conv => whnf)
      obtain rfl := sm e
      repeat' first | exact rfl | exact trivial | refine ⟨?_, ?_⟩
    · replace e := ifnb hb4 e; (conv => whnf)
      obtain rfl := sm e
      repeat' first | exact rfl | exact trivial | refine ⟨?_, ?_⟩
  · replace e := ifnb hb3 e; (conv => whnf)
    refine brK.split (fun hb4 => ?_) (fun hb4 => ?_)
    · replace e := ifpb hb4 e; (conv => whnf)
      obtain rfl := sm e
      repeat' first | exact rfl | exact trivial | refine ⟨?_, ?_⟩
    · replace e := ifnb hb4 e; (conv => whnf)
      refine ⟨⟨fun h5 => ?_, fun h5 => ?_⟩⟩
      · replace e := ifp h5 e; (conv => whnf)
        obtain rfl := sm e
        repeat' first | exact rfl | exact trivial | refine ⟨?_, ?_⟩
      · replace e := ifn h5 e; (conv => whnf)
        refine ⟨⟨fun h6 => ?_, fun h6 => ?_⟩⟩
        · replace e := ifp h6 e; (conv => whnf)
          obtain rfl := sm e
          repeat' first | exact rfl | exact trivial | refine ⟨?_, ?_⟩
        · replace e := ifn h6 e; (conv => whnf)
          obtain rfl := sm e
          repeat' first | exact rfl | exact trivial | refine ⟨?_, ?_⟩
def M_cmp_Or_int_l0 (rest0 : (List Int)) (r : Int) : Prop := ∀ (a0 : (List Int)) (k0 : Nat) (hd0 : rest0 = a0.drop k0), LoopAt T Try.prog Try.f142 Fx0 [] [1, 1, 0, 1, 0] (EP T Try.f142 (.int .i64 r)) [(3, .d (.int .i64 0)), (6, .d (.slice 1 (intDs_i64 a0))), (7, .d (.int .i64 ((intDs_i64 a0).length : Int))), (8, .d (.int .i64 (k0 : Int)))] [[]]
theorem G_cmp_Or_int_l0 : (∀ p r, cmp_Or_int_l0' p = some r → ∀ rest0, rest0 = p → M_cmp_Or_int_l0 rest0 r) := by
  refine cmp_Or_int_l0'.partial_correctness (fun (p : (List Int)) (r : Int) => ∀ (rest0 : (List Int)), rest0 = p → M_cmp_Or_int_l0 rest0 r) ?_
  · intro f_cmp_Or_int_l0 ih_cmp_Or_int_l0 p r e rest0 hp
    subst hp
    intro a0 k0 hd0
    refine RunsL.len_tmp 6 rfl fun hlenk0 => ?_
    refine RunsL.of_awp (js := []) T_ok ?_; (conv => whnf)
    have hls := intDs_i64_len a0
    cases rest0 with
    | nil =>
      have hk := drop_nil hd0
      refine ⟨⟨fun h => absurd h (by omega), fun _ => ?_⟩⟩; (conv => whnf)
      obtain rfl := sm e
      repeat' first | exact rfl | exact trivial | refine ⟨?_, ?_⟩
    | cons v9 rest0 =>
      obtain ⟨hxv9, hd0, hltv9⟩ := drop_head hd0
      refine ⟨⟨fun _ => ?_, fun h => absurd (by omega) h⟩⟩; (conv => whnf)
      refine ⟨k0, _, rfl, intDs_i64_get hxv9, ?_⟩; (conv => whnf)
      refine ⟨intDs_i64_fit _ rfl rfl, ?_⟩; (conv => whnf)
      refine ⟨⟨fun h10 => ?_, fun h10 => ?_⟩⟩
      · replace e := ifp h10 e; (conv => whnf)
        obtain rfl := sm e
        repeat' first | exact rfl | exact trivial | refine ⟨?_, ?_⟩
      · replace e := ifn h10 e; (conv => whnf)
        refine ⟨((k0 + 1 : Nat) : Int), wrap64e (by omega) (by omega) (by omega), ?_⟩; (conv => whnf)
        refine (RunsL.weak ((ih_cmp_Or_int_l0 _ _ e _ rfl) a0 (k0 + 1) hd0) ?_)
        repeat' first | exact wk.of_eq rfl | exact wk.pure rfl | exact wk.un _ | exact wk.hold _ _ _ | exact wk.holdG _ _ _ | exact rfl | exact trivial | refine ⟨?_, ?_⟩ | (refine wk.of_eq ?_; (conv => lhs; whnf); (simp [intDs_i64_all, listAll] <;> (repeat' first | rfl | apply And.intro)); done) | (refine wk.pure ?_; (conv => lhs; whnf); (simp [intDs_i64_all, listAll] <;> (repeat' first | rfl | apply And.intro)); done) | ((simp [intDs_i64_all, listAll] <;> (repeat' first | rfl | apply And.intro)); done) | (simp [intDs_i64_all, listAll]; omega)
theorem P_cmp_Or_int_l0 {rest0 : (List Int)} {r : Int} (e : cmp_Or_int_l0 rest0 = some r) : M_cmp_Or_int_l0 rest0 r := G_cmp_Or_int_l0 _ _ e _ rfl
theorem P_cmp_Or_int {a0 : (List Int)} {r : Int} (e : cmp_Or_int a0 = some r) : Pure Try.prog 142 [(.slice 1 (intDs_i64 a0))] (.int .i64 r) := by
  unfold cmp_Or_int at e
  refine pure_of_awp (js := []) T_ok Try.func142 rfl (by decide +kernel) rfl ?_; (conv => whnf)
  refine RunsL.runs (RunsL.weak ((P_cmp_Or_int_l0 e) a0 0 (by simp)) ?_)
  repeat' first | exact wk.of_eq rfl | exact wk.pure rfl | exact wk.un _ | exact wk.hold _ _ _ | exact wk.holdG _ _ _ | exact rfl | exact trivial | refine ⟨?_, ?_⟩ | (refine wk.of_eq ?_; (conv => lhs; whnf); (simp [intDs_i64_all, listAll] <;> (repeat' first | rfl | apply And.intro)); done) | (refine wk.pure ?_; (conv => lhs; whnf); (simp [intDs_i64_all, listAll] <;> (repeat' first | rfl | apply And.intro)); done) | ((simp [intDs_i64_all, listAll] <;> (repeat' first | rfl | apply And.intro)); done) | (simp [intDs_i64_all, listAll]; omega)
def M_slices_CompareFunc_Type_Type_Type_Type__types_Compare (a0 : (List Ty)) (a1 : (List Ty)) (r : Int) : Prop := Pure Try.prog 159 [(.slice 3 (Ty.Ds a0)), (.slice 3 (Ty.Ds a1)), (.func (.func 143) [] [])] (.int .i64 r)
def M_slices_CompareFunc_Type_Type_Type_Type__types_Compare_l0 (rest0 : (List Ty)) (k0 : Nat) (a0 : (List Ty)) (a1 : (List Ty)) (r : Int) : Prop := ∀ (hd0 : rest0 = a0.drop k0), LoopAt T Try.prog Try.f159 Fx0 [] [1, 0, 1, 0] (EP T Try.f159 (.int .i64 r)) [(0, .d (.slice 3 (Ty.Ds a0))), (1, .d (.slice 3 (Ty.Ds a1))), (2, .d (.func (.func 143) [] [])), (11, .d (.slice 3 (Ty.Ds a0))), (12, .d (.int .i64 ((Ty.Ds a0).length : Int))), (13, .d (.int .i64 (k0 : Int)))] [[]]
def M_types_Compare (a0 : Ty) (a1 : Ty) (r : Int) : Prop := Pure Try.prog 143 [(Ty.D a0), (Ty.D a1)] (.int .i64 r)
theorem G_slices_CompareFunc_Type_Type_Type_Type__types_Compare : (∀ p r, slices_CompareFunc_Type_Type_Type_Type__types_Compare' p = some r → ∀ a0 a1, (a0, a1) = p → M_slices_CompareFunc_Type_Type_Type_Type__types_Compare a0 a1 r) ∧
    (∀ p r, slices_CompareFunc_Type_Type_Type_Type__types_Compare_l0' p = some r → ∀ rest0 k0 a0 a1, (rest0, k0, a0, a1) = p → M_slices_CompareFunc_Type_Type_Type_Type__types_Compare_l0 rest0 k0 a0 a1 r) ∧
    (∀ p r, types_Compare' p = some r → ∀ a0 a1, (a0, a1) = p → M_types_Compare a0 a1 r) := by
  refine slices_CompareFunc_Type_Type_Type_Type__types_Compare'.mutual_partial_correctness (fun (p : ((List Ty) × (List Ty))) (r : Int) => ∀ (a0 : (List Ty)) (a1 : (List Ty)), (a0, a1) = p → M_slices_CompareFunc_Type_Type_Type_Type__types_Compare a0 a1 r) (fun (p : ((List Ty) × Nat × (List Ty) × (List Ty))) (r : Int) => ∀ (rest0 : (List Ty)) (k0 : Nat) (a0 : (List Ty)) (a1 : (List Ty)), (rest0, k0, a0, a1) = p → M_slices_CompareFunc_Type_Type_Type_Type__types_Compare_l0 rest0 k0 a0 a1 r) (fun (p : (Ty × Ty)) (r : Int) => ∀ (a0 : Ty) (a1 : Ty), (a0, a1) = p → M_types_Compare a0 a1 r) ?_ ?_ ?_
  · intro f_slices_CompareFunc_Type_Type_Type_Type__types_Compare_l0 ih_slices_CompareFunc_Type_Type_Type_Type__types_Compare_l0 p r e a0 a1 hp
    subst hp
    refine pure_of_awp (js := []) T_ok Try.func159 rfl (by decide +kernel) rfl ?_; (conv => whnf)
    refine RunsL.runs (RunsL.weak ((ih_slices_CompareFunc_Type_Type_Type_Type__types_Compare_l0 _ _ e _ _ _ _ rfl) (by simp)) ?_)
    repeat' first | exact wk.of_eq rfl | exact wk.pure rfl | exact wk.un _ | exact wk.hold _ _ _ | exact wk.holdG _ _ _ | exact rfl | exact trivial | refine ⟨?_, ?_⟩ | (refine wk.of_eq ?_; (conv => lhs; whnf); (simp [Ty.Ds_all, Ty.D, listAll] <;> (repeat' first | rfl | apply And.intro)); done) | (refine wk.pure ?_; (conv => lhs; whnf); (simp [Ty.Ds_all, Ty.D, listAll] <;> (repeat' first | rfl | apply And.intro)); done) | ((simp [Ty.Ds_all, Ty.D, listAll] <;> (repeat' first | rfl | apply And.intro)); done) | (simp [Ty.Ds_all, Ty.D, listAll]; omega)
  · intro f_slices_CompareFunc_Type_Type_Type_Type__types_Compare_l0 f_types_Compare ih_slices_CompareFunc_Type_Type_Type_Type__types_Compare_l0 ih_types_Compare p r e rest0 k0 a0 a1 hp
    subst hp
    intro hd0
    refine RunsL.len_tmp 0 rfl fun hlenk0 => ?_
    refine RunsL.of_awp (js := []) T_ok ?_; (conv => whnf)
    have hls := Ty.Ds_len a0
    cases rest0 with
    | nil =>
      have hk := drop_nil hd0
      refine ⟨⟨fun h => absurd h (by omega), fun _ => ?_⟩⟩; (conv => whnf)
      refine ⟨⟨fun h15 => ?_, fun h15 => ?_⟩⟩
      · replace e := ifp (by first | exact h15 | omega | simpa [Ty.Ds_all, Ty.D, listAll] using h15) e; (conv => whnf)
        obtain rfl := sm e
        repeat' first | exact rfl | exact trivial | refine ⟨?_, ?_⟩
      · replace e := ifn (by first | exact h15 | omega | simpa [Ty.Ds_all, Ty.D, listAll] using h15) e; (conv => whnf)
        obtain rfl := sm e
        repeat' first | exact rfl | exact trivial | refine ⟨?_, ?_⟩
    | cons v14 rest0 =>
      obtain ⟨hxv14, hd0, hltv14⟩ := drop_head hd0
      refine ⟨⟨fun _ => ?_, fun h => absurd (by omega) h⟩⟩; (conv => whnf)
      refine ⟨k0, _, rfl, Ty.Ds_get hxv14, ?_⟩; (conv => whnf)
      refine ⟨Ty.Ds_fit _ rfl rfl, ?_⟩; (conv => whnf)
      refine ⟨⟨fun h15 => ?_, fun h15 => ?_⟩⟩
      · replace e := ifp (by first | exact h15 | omega | simpa [Ty.Ds_all, Ty.D, listAll] using h15) e; (conv => whnf)
        obtain rfl := sm e
        repeat' first | exact rfl | exact trivial | refine ⟨?_, ?_⟩
      · replace e := ifn (by first | exact h15 | omega | simpa [Ty.Ds_all, Ty.D, listAll] using h15) e; (conv => whnf)
        obtain ⟨v16, qv16, e⟩ := bnd e
        obtain ⟨qv16k, qv16a, qv16b⟩ := geti_some qv16
        refine ⟨qv16k, _, qv16a, Ty.Ds_get qv16b, ?_⟩; (conv => whnf)
        refine ⟨Ty.Ds_fit _ rfl rfl, ?_⟩; (conv => whnf)
        obtain ⟨v17, qv17, e⟩ := bnd e
        refine said_pure (ih_types_Compare _ _ qv17 _ _ rfl) rfl ?_; (conv => whnf)
        refine ⟨⟨fun h18 => ?_, fun h18 => ?_⟩⟩
        · replace e := ifp h18 e; (conv => whnf)
          obtain rfl := sm e
          repeat' first | exact rfl | exact trivial | refine ⟨?_, ?_⟩
        · replace e := ifn h18 e; (conv => whnf)
          refine ⟨((k0 + 1 : Nat) : Int), wrap64e (by omega) (by omega) (by omega), ?_⟩; (conv => whnf)
          refine (RunsL.weak ((ih_slices_CompareFunc_Type_Type_Type_Type__types_Compare_l0 _ _ e _ _ _ _ rfl) hd0) ?_)
          repeat' first | exact wk.of_eq rfl | exact wk.pure rfl | exact wk.un _ | exact wk.hold _ _ _ | exact wk.holdG _ _ _ | exact rfl | exact trivial | refine ⟨?_, ?_⟩ | (refine wk.of_eq ?_; (conv => lhs; whnf); (simp [Ty.Ds_all, Ty.D, listAll] <;> (repeat' first | rfl | apply And.intro)); done) | (refine wk.pure ?_; (conv => lhs; whnf); (simp [Ty.Ds_all, Ty.D, listAll] <;> (repeat' first | rfl | apply And.intro)); done) | ((simp [Ty.Ds_all, Ty.D, listAll] <;> (repeat' first | rfl | apply And.intro)); done) | (simp [Ty.Ds_all, Ty.D, listAll]; omega)
  · intro f_slices_CompareFunc_Type_Type_Type_Type__types_Compare ih_slices_CompareFunc_Type_Type_Type_Type__types_Compare p r e a0 a1 hp
    subst hp
    refine pure_of_awp (js := []) T_ok Try.func143 rfl (by decide +kernel) rfl ?_; (conv => whnf)
    refine draw_rule [] T_ok mixed types_Compare_pl1 (by decide +kernel) ?_; (conv => whnf)
    obtain ⟨v1, qv1, e⟩ := bnd e
    refine said_pure (P_types_rank qv1) rfl ⟨Keeps.refl _ _, ?_⟩; (conv => whnf)
    obtain ⟨v2, qv2, e⟩ := bnd e
    refine said_pure (P_types_rank qv2) rfl ⟨Keeps.refl _ _, ?_⟩; (conv => whnf)
    obtain ⟨v3, qv3, e⟩ := bnd e
    refine said_pure (P_cmp_Compare_int qv3) rfl ⟨Keeps.refl _ _, ?_⟩; (conv => whnf)
    obtain ⟨v4, qv4, e⟩ := bnd e
    refine said_pure (P_strings_Compare qv4) rfl ⟨Keeps.refl _ _, ?_⟩; (conv => whnf)
    obtain ⟨v5, qv5, e⟩ := bnd e
    first | (refine said_pure (P_cmp_Compare_int qv5) rfl ⟨Keeps.refl _ _, ?_⟩) | (refine said_pure2 (P_cmp_Compare_int qv5) rfl (by simp [Ty.Ds_all, intDs_i64_all, Ty.D, listAll] <;> (repeat' first | rfl | apply And.intro)) ⟨Keeps.refl _ _, ?_⟩)
    (conv => whnf)
    refine ⟨⟨⟨rfl, rfl⟩, ⟨⟨rfl, rfl⟩, ⟨⟨rfl, rfl⟩, trivial⟩⟩⟩, ?_⟩; (conv => whnf)
    obtain ⟨v6, qv6, e⟩ := bnd e
    first | (refine said_pure (P_cmp_Or_int qv6) rfl ⟨Keeps.refl _ _, ?_⟩) | (refine said_pure2 (P_cmp_Or_int qv6) rfl (by simp [Ty.Ds_all, intDs_i64_all, Ty.D, listAll] <;> (repeat' first | rfl | apply And.intro)) ⟨Keeps.refl _ _, ?_⟩)
    (conv => whnf)
    refine ⟨⟨fun h7 => ?_, fun h7 => ?_⟩⟩
    · replace e := ifp h7 e; (conv => whnf)
      obtain rfl := sm e
      repeat' first | exact rfl | exact trivial | refine ⟨?_, ?_⟩
    · replace e := ifn h7 e; (conv => whnf)
      obtain ⟨v8, qv8, e⟩ := bnd e
      refine said_pure (ih_slices_CompareFunc_Type_Type_Type_Type__types_Compare _ _ qv8 _ _ rfl) rfl ?_; (conv => whnf)
      obtain rfl := sm e
      repeat' first | exact rfl | exact trivial | refine ⟨?_, ?_⟩
theorem P_types_Compare {a0 : Ty} {a1 : Ty} {r : Int} (e : types_Compare a0 a1 = some r) : M_types_Compare a0 a1 r := G_slices_CompareFunc_Type_Type_Type_Type__types_Compare.2.2 _ _ e _ _ rfl
def M_slices_CompareFunc_Term_Term_Term_Term__terms_Compare (a0 : (List Tm)) (a1 : (List Tm)) (r : Int) : Prop := Pure Try.prog 145 [(.slice 7 (Tm.Ds a0)), (.slice 7 (Tm.Ds a1)), (.func (.func 106) [] [])] (.int .i64 r)
def M_slices_CompareFunc_Term_Term_Term_Term__terms_Compare_l0 (rest0 : (List Tm)) (k0 : Nat) (a0 : (List Tm)) (a1 : (List Tm)) (r : Int) : Prop := ∀ (hd0 : rest0 = a0.drop k0), LoopAt T Try.prog Try.f145 Fx0 [] [1, 0, 1, 0] (EP T Try.f145 (.int .i64 r)) [(0, .d (.slice 7 (Tm.Ds a0))), (1, .d (.slice 7 (Tm.Ds a1))), (2, .d (.func (.func 106) [] [])), (11, .d (.slice 7 (Tm.Ds a0))), (12, .d (.int .i64 ((Tm.Ds a0).length : Int))), (13, .d (.int .i64 (k0 : Int)))] [[]]
def M_terms_Compare (a0 : Tm) (a1 : Tm) (r : Int) : Prop := Pure Try.prog 106 [(Tm.D a0), (Tm.D a1)] (.int .i64 r)
def M_terms_Compare_j0 (a0 : Tm) (a1 : Tm) (r : Int) : Prop := JoinAt T Try.prog Try.f106 Fx0 [7] [1, 1, 1, 0, 0] (EP T Try.f106 (.int .i64 r)) [(2, .ptr 0 0 0), (3, .ptr 0 1 0)] [[.cells [.d (.int .u8 a0.kind), .d (.str a0.name), .d (.bool a0.ty.v), .d (.str a0.ty.name), .d (.slice 3 (Ty.Ds a0.ty.args)), .d (.int .i64 a0.index), .d (.slice 7 (Tm.Ds a0.sub))], .cells [.d (.int .u8 a1.kind), .d (.str a1.name), .d (.bool a1.ty.v), .d (.str a1.ty.name), .d (.slice 3 (Ty.Ds a1.ty.args)), .d (.int .i64 a1.index), .d (.slice 7 (Tm.Ds a1.sub))]]]
theorem G_slices_CompareFunc_Term_Term_Term_Term__terms_Compare : (∀ p r, slices_CompareFunc_Term_Term_Term_Term__terms_Compare' p = some r → ∀ a0 a1, (a0, a1) = p → M_slices_CompareFunc_Term_Term_Term_Term__terms_Compare a0 a1 r) ∧
    (∀ p r, slices_CompareFunc_Term_Term_Term_Term__terms_Compare_l0' p = some r → ∀ rest0 k0 a0 a1, (rest0, k0, a0, a1) = p → M_slices_CompareFunc_Term_Term_Term_Term__terms_Compare_l0 rest0 k0 a0 a1 r) ∧
    (∀ p r, terms_Compare' p = some r → ∀ a0 a1, (a0, a1) = p → M_terms_Compare a0 a1 r) ∧
    (∀ p r, terms_Compare_j0' p = some r → ∀ a0 a1, (a0, a1) = p → M_terms_Compare_j0 a0 a1 r) := by
  refine slices_CompareFunc_Term_Term_Term_Term__terms_Compare'.mutual_partial_correctness (fun (p : ((List Tm) × (List Tm))) (r : Int) => ∀ (a0 : (List Tm)) (a1 : (List Tm)), (a0, a1) = p → M_slices_CompareFunc_Term_Term_Term_Term__terms_Compare a0 a1 r) (fun (p : ((List Tm) × Nat × (List Tm) × (List Tm))) (r : Int) => ∀ (rest0 : (List Tm)) (k0 : Nat) (a0 : (List Tm)) (a1 : (List Tm)), (rest0, k0, a0, a1) = p → M_slices_CompareFunc_Term_Term_Term_Term__terms_Compare_l0 rest0 k0 a0 a1 r) (fun (p : (Tm × Tm)) (r : Int) => ∀ (a0 : Tm) (a1 : Tm), (a0, a1) = p → M_terms_Compare a0 a1 r) (fun (p : (Tm × Tm)) (r : Int) => ∀ (a0 : Tm) (a1 : Tm), (a0, a1) = p → M_terms_Compare_j0 a0 a1 r) ?_ ?_ ?_ ?_
  · intro f_slices_CompareFunc_Term_Term_Term_Term__terms_Compare_l0 ih_slices_CompareFunc_Term_Term_Term_Term__terms_Compare_l0 p r e a0 a1 hp
    subst hp
    refine pure_of_awp (js := []) T_ok Try.func145 rfl (by decide +kernel) rfl ?_; (conv => whnf)
    refine RunsL.runs (RunsL.weak ((ih_slices_CompareFunc_Term_Term_Term_Term__terms_Compare_l0 _ _ e _ _ _ _ rfl) (by simp)) ?_)
    repeat' first | exact wk.of_eq rfl | exact wk.pure rfl | exact wk.un _ | exact wk.hold _ _ _ | exact wk.holdG _ _ _ | exact rfl | exact trivial | refine ⟨?_, ?_⟩ | (refine wk.of_eq ?_; (conv => lhs; whnf); (simp [Tm.Ds_all, Tm.D, listAll] <;> (repeat' first | rfl | apply And.intro)); done) | (refine wk.pure ?_; (conv => lhs; whnf); (simp [Tm.Ds_all, Tm.D, listAll] <;> (repeat' first | rfl | apply And.intro)); done) | ((simp [Tm.Ds_all, Tm.D, listAll] <;> (repeat' first | rfl | apply And.intro)); done) | (simp [Tm.Ds_all, Tm.D, listAll]; omega)
  · intro f_slices_CompareFunc_Term_Term_Term_Term__terms_Compare_l0 f_terms_Compare ih_slices_CompareFunc_Term_Term_Term_Term__terms_Compare_l0 ih_terms_Compare p r e rest0 k0 a0 a1 hp
    subst hp
    intro hd0
    refine RunsL.len_tmp 0 rfl fun hlenk0 => ?_
    refine RunsL.of_awp (js := []) T_ok ?_; (conv => whnf)
    have hls := Tm.Ds_len a0
    cases rest0 with
    | nil =>
      have hk := drop_nil hd0
      refine ⟨⟨fun h => absurd h (by omega), fun _ => ?_⟩⟩; (conv => whnf)
      refine ⟨⟨fun h15 => ?_, fun h15 => ?_⟩⟩
      · replace e := ifp (by first | exact h15 | omega | simpa [Tm.Ds_all, Tm.D, listAll] using h15) e; (conv => whnf)
        obtain rfl := sm e
        repeat' first | exact rfl | exact trivial | refine ⟨?_, ?_⟩
      · replace e := ifn (by first | exact h15 | omega | simpa [Tm.Ds_all, Tm.D, listAll] using h15) e; (conv => whnf)
        obtain rfl := sm e
        repeat' first | exact rfl | exact trivial | refine ⟨?_, ?_⟩
    | cons v14 rest0 =>
      obtain ⟨hxv14, hd0, hltv14⟩ := drop_head hd0
      refine ⟨⟨fun _ => ?_, fun h => absurd (by omega) h⟩⟩; (conv => whnf)
      refine ⟨k0, _, rfl, Tm.Ds_get hxv14, ?_⟩; (conv => whnf)
      refine ⟨Tm.Ds_fit _ rfl rfl, ?_⟩; (conv => whnf)
      refine ⟨⟨fun h15 => ?_, fun h15 => ?_⟩⟩
      · replace e := ifp (by first | exact h15 | omega | simpa [Tm.Ds_all, Tm.D, listAll] using h15) e; (conv => whnf)
        obtain rfl := sm e
        repeat' first | exact rfl | exact trivial | refine ⟨?_, ?_⟩
      · replace e := ifn (by first | exact h15 | omega | simpa [Tm.Ds_all, Tm.D, listAll] using h15) e; (conv => whnf)
        obtain ⟨v16, qv16, e⟩ := bnd e
        obtain ⟨qv16k, qv16a, qv16b⟩ := geti_some qv16
        refine ⟨qv16k, _, qv16a, Tm.Ds_get qv16b, ?_⟩; (conv => whnf)
        refine ⟨Tm.Ds_fit _ rfl rfl, ?_⟩; (conv => whnf)
        obtain ⟨v17, qv17, e⟩ := bnd e
        refine said_pure (ih_terms_Compare _ _ qv17 _ _ rfl) rfl ?_; (conv => whnf)
        refine ⟨⟨fun h18 => ?_, fun h18 => ?_⟩⟩
        · replace e := ifp h18 e; (conv => whnf)
          obtain rfl := sm e
          repeat' first | exact rfl | exact trivial | refine ⟨?_, ?_⟩
        · replace e := ifn h18 e; (conv => whnf)
          refine ⟨((k0 + 1 : Nat) : Int), wrap64e (by omega) (by omega) (by omega), ?_⟩; (conv => whnf)
          refine (RunsL.weak ((ih_slices_CompareFunc_Term_Term_Term_Term__terms_Compare_l0 _ _ e _ _ _ _ rfl) hd0) ?_)
          repeat' first | exact wk.of_eq rfl | exact wk.pure rfl | exact wk.un _ | exact wk.hold _ _ _ | exact wk.holdG _ _ _ | exact rfl | exact trivial | refine ⟨?_, ?_⟩ | (refine wk.of_eq ?_; (conv => lhs; whnf); (simp [Tm.Ds_all, Tm.D, listAll] <;> (repeat' first | rfl | apply And.intro)); done) | (refine wk.pure ?_; (conv => lhs; whnf); (simp [Tm.Ds_all, Tm.D, listAll] <;> (repeat' first | rfl | apply And.intro)); done) | ((simp [Tm.Ds_all, Tm.D, listAll] <;> (repeat' first | rfl | apply And.intro)); done) | (simp [Tm.Ds_all, Tm.D, listAll]; omega)
  · intro f_terms_Compare_j0 ih_terms_Compare_j0 p r e a0 a1 hp
    subst hp
    refine pure_of_awp (js := [7]) T_ok Try.func106 rfl (by decide +kernel) rfl ?_; (conv => whnf)
    obtain ⟨v1, qv1, e⟩ := bnd e
    refine said_pure (P_cmp_Compare_uint8 qv1) rfl ?_; (conv => whnf)
    refine ⟨⟨fun h2 => ?_, fun h2 => ?_⟩⟩
    · replace e := ifp h2 e; (conv => whnf)
      obtain rfl := sm e
      repeat' first | exact rfl | exact trivial | refine ⟨?_, ?_⟩
    · replace e := ifn h2 e; (conv => whnf)
      obtain ⟨v3, qv3, e⟩ := bnd e
      refine said_pure (P_strings_Compare qv3) rfl ?_; (conv => whnf)
      refine ⟨⟨fun h4 => ?_, fun h4 => ?_⟩⟩
      · replace e := ifp h4 e; (conv => whnf)
        refine ⟨⟨fun h5 => ?_, fun h5 => ?_⟩⟩
        · replace e := ifp h5 e; (conv => whnf)
          obtain rfl := sm e
          repeat' first | exact rfl | exact trivial | refine ⟨?_, ?_⟩
        · replace e := ifn h5 e; (conv => whnf)
          refine Runs.weak (ih_terms_Compare_j0 _ _ e _ _ rfl) ?_
          repeat' first | exact wk.of_eq rfl | exact wk.pure rfl | exact wk.un _ | exact wk.hold _ _ _ | exact wk.holdG _ _ _ | exact rfl | exact trivial | refine ⟨?_, ?_⟩
      · replace e := ifn h4 e; (conv => whnf)
        refine Runs.weak (ih_terms_Compare_j0 _ _ e _ _ rfl) ?_
        repeat' first | exact wk.of_eq rfl | exact wk.pure rfl | exact wk.un _ | exact wk.hold _ _ _ | exact wk.holdG _ _ _ | exact rfl | exact trivial | refine ⟨?_, ?_⟩
  · intro f_slices_CompareFunc_Term_Term_Term_Term__terms_Compare ih_slices_CompareFunc_Term_Term_Term_Term__terms_Compare p r e a0 a1 hp
    subst hp
    refine Runs.enter T_ok ?_; (conv => whnf)
    refine draw_rule [] T_ok mixed terms_Compare_pl7 (by decide +kernel) ?_; (conv => whnf)
    obtain ⟨v4, qv4, e⟩ := bnd e
    refine said_pure (P_types_Compare qv4) rfl ⟨Keeps.refl _ _, ?_⟩; (conv => whnf)
    obtain ⟨v5, qv5, e⟩ := bnd e
    refine said_pure (P_cmp_Compare_int qv5) rfl ⟨Keeps.refl _ _, ?_⟩; (conv => whnf)
    obtain ⟨v6, qv6, e⟩ := bnd e
    first | (refine said_pure (P_cmp_Compare_int qv6) rfl ⟨Keeps.refl _ _, ?_⟩) | (refine said_pure2 (P_cmp_Compare_int qv6) rfl (by simp [Tm.Ds_all, Ty.Ds_all, intDs_i64_all, Tm.D, Ty.D, listAll] <;> (repeat' first | rfl | apply And.intro)) ⟨Keeps.refl _ _, ?_⟩)
    (conv => whnf)
    refine ⟨⟨⟨rfl, rfl⟩, ⟨⟨rfl, rfl⟩, ⟨⟨rfl, rfl⟩, trivial⟩⟩⟩, ?_⟩; (conv => whnf)
    obtain ⟨v7, qv7, e⟩ := bnd e
    first | (refine said_pure (P_cmp_Or_int qv7) rfl ⟨Keeps.refl _ _, ?_⟩) | (refine said_pure2 (P_cmp_Or_int qv7) rfl (by simp [Tm.Ds_all, Ty.Ds_all, intDs_i64_all, Tm.D, Ty.D, listAll] <;> (repeat' first | rfl | apply And.intro)) ⟨Keeps.refl _ _, ?_⟩)
    (conv => whnf)
    refine ⟨⟨fun h8 => ?_, fun h8 => ?_⟩⟩
    · replace e := ifp h8 e; (conv => whnf)
      obtain rfl := sm e
      repeat' first | exact rfl | exact trivial | refine ⟨?_, ?_⟩
    · replace e := ifn h8 e; (conv => whnf)
      obtain ⟨v9, qv9, e⟩ := bnd e
      refine said_pure (ih_slices_CompareFunc_Term_Term_Term_Term__terms_Compare _ _ qv9 _ _ rfl) rfl ?_; (conv => whnf)
      obtain rfl := sm e
      repeat' first | exact rfl | exact trivial | refine ⟨?_, ?_⟩
theorem P_terms_Compare {a0 : Tm} {a1 : Tm} {r : Int} (e : terms_Compare a0 a1 = some r) : M_terms_Compare a0 a1 r := G_slices_CompareFunc_Term_Term_Term_Term__terms_Compare.2.2.1 _ _ e _ _ rfl
theorem P_terms_Same {a0 : Tm} {a1 : Tm} {r : Bool} (e : terms_Same a0 a1 = some r) : Pure Try.prog 54 [(Tm.D a0), (Tm.D a1)] (.bool r) := by
  unfold terms_Same at e
  refine pure_of_awp (js := []) T_ok Try.func54 rfl (by decide +kernel) rfl ?_; (conv => whnf)
  obtain ⟨v1, qv1, e⟩ := bnd e
  refine said_pure (P_terms_Compare qv1) rfl ?_; (conv => whnf)
  refine test.dec ?_; (conv => whnf)
  obtain rfl := sm e
  repeat' first | exact rfl | exact trivial | refine ⟨?_, ?_⟩
theorem P_tactic_empty {a0 : Tm} {r : Bool} (e : tactic_empty a0 = some r) : Pure Try.prog 132 [(Tm.D a0)] (.bool r) := by
  unfold tactic_empty at e
  refine pure_of_awp (js := []) T_ok Try.func132 rfl (by decide +kernel) rfl ?_; (conv => whnf)
  obtain ⟨v1, qv1, e⟩ := bnd e
  refine said_pure (P_terms_Same qv1) rfl ?_; (conv => whnf)
  refine brK.split (fun hb2 => ?_) (fun hb2 => ?_)
  · replace e := ifpb hb2 e; (conv => whnf)
    refine brK.tt hb2 ?_; (conv => whnf)
    refine brK.tt hb2 ?_; (conv => whnf)
    refine test.dec ?_; (conv => whnf)
    refine brK.tt hb2 ?_; (conv => whnf)
    obtain rfl := sm e
    repeat' first | exact rfl | exact trivial | refine ⟨?_, ?_⟩
  · replace e := ifnb hb2 e; (conv => whnf)
    refine brK.ff hb2 ?_; (conv => whnf)
    refine brK.ff hb2 ?_; (conv => whnf)
    refine brK.ff hb2 ?_; (conv => whnf)
    obtain rfl := sm e
    repeat' first | exact rfl | exact trivial | refine ⟨?_, ?_⟩
end Go.Proofs.Ytdjmibbgoajcaaa.Fw

