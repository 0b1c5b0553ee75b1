/- The code computes the functions. -/
import Derived.Test.YtemfpemejagndaaGTab
set_option autoImplicit false
set_option linter.unusedVariables false
set_option linter.unusedSimpArgs false
set_option maxHeartbeats 4000000
namespace Go.Proofs.Ytemfpemejagndaa.Fw
open Go Go.Proofs Go.RowKit
theorem P_cmpstr {a b : ByteArray} {r : Int} (e : cmpstr a b = some r) : Pure Try.prog 87 [.str a, .str b] (.int .i64 r) := by
 obtain rfl := sm e
 refine ⟨fun H w vs hm _ hn hr => .inr ⟨.int .i64 (bcmp a b), w, ?_, _, H, rfl, Imm.ext.refl _ _, hm, .int _ _, Below.refl _ _⟩⟩
 obtain ⟨v0, v1, rfl⟩ : ∃ v0 v1, vs = [v0, v1] := by
  match vs, hn with
  | [v0, v1], _ => exact ⟨v0, v1, rfl⟩
 have h0 := hr 0 (by simp)
 have h1 := hr 1 (by simp)
 simp only [List.getD_cons_zero, List.getElem_cons_zero, List.getD_cons_succ, List.getElem_cons_succ] at h0 h1
 cases h0
 cases h1
 rw [run_callFunc_extern Try.func87 (by decide +kernel) (by rfl) (by kernel_rfl) (e := Extern.BytealgCompare.compare) (by kernel_rfl)]
 change (Sem.run Try.prog (do pure (goInt (Extern.BytealgCompare.cmp (← Extern.Bytes.bytesOf (.string a)) (← Extern.Bytes.bytesOf (.string b))))) w).andThen _ = _
 simp [Extern.Bytes.bytesOf, goInt, cmp_bcmp]
theorem P_slices_Clone_int_int_o {a0 : (List Int)} {r : (List Int)} (e : slices_Clone_int_int_o a0 = some r) : Pure Try.prog 46 [(.os 1 (D.ageds (intDs_i64 a0)))] (.slice 1 (intDs_i64 r)) := by
 unfold slices_Clone_int_int_o at e
 refine pure_of_awp (js := []) T_ok Try.func46 rfl (by decide +kernel) rfl ?_; conv => whnf
 refine ⟨fun h1 => ?_, ?_⟩
 ·replace e := agree_a (by simpa [ageds_nil, intDs_i64_map, List.map_eq_nil_iff] using h1) e; conv => whnf
  obtain rfl := sm e
  repeat' first | exact rfl | exact trivial | refine ⟨?_, ?_⟩
 ·replace e := agree_b e; conv => whnf
  refine ⟨trivial, ?_⟩; conv => whnf
  obtain ⟨v4, qv4, e⟩ := bnd e
  rw [intDs_i64_aged]
  obtain ⟨qv4l, qv4e⟩ := app_some qv4
  refine ⟨(by first | exact qv4l | simpa [intDs_i64_all, listAll, ageds_len, ageds_nil] using qv4l), rfl, fun hz => ?_, fun hz => ?_⟩
  ·have hyv4 : a0 = [] := by simpa [intDs_i64_map, List.map_eq_nil_iff, intDs_i64_all, listAll, ageds_len, ageds_nil] using hz
   have hzv4 : v4 = ([] : List Int) := by rw [qv4e, hyv4]; simp
   (conv => whnf)
   obtain rfl := sm e
   repeat' first | exact rfl | exact trivial | refine ⟨_, rfl, ?_, ?_⟩ | refine ⟨?_, ?_⟩ | (simp [intDs_i64_all, listAll, ageds_len, ageds_nil, hzv4] <;> (repeat' first | rfl | apply And.intro))
  ·(conv => whnf)
   obtain rfl := sm e
   repeat' first | exact rfl | exact trivial | refine ⟨_, rfl, ?_, ?_⟩ | refine ⟨?_, ?_⟩ | (simp [intDs_i64_all, listAll, ageds_len, ageds_nil, qv4e] <;> (repeat' first | rfl | apply And.intro))
def M_hash_Twin_o_io_l1 (rest1 : (List XN)) (c2_1_1 : (List XN)) (c2_0_0 : (List YN)) (r : ((List YN) × (List XN))) : Prop := ∀ (a0 : AStore) (k1 : Nat) (hd1 : rest1 = a0.terms.drop k1), LoopAt T Try.prog Try.f34 ⟨[], 0⟩ [8] [1, 1, 1, 0, 1, 0] (ES T Try.f34 0 (.agg [.own 0 0 3 (YN.Ds r.1), .own 0 1 5 (XN.Ds r.2)]) ([.grow 3 (YN.Ds r.1).length, .grow 5 (XN.Ds r.2).length])) [(2, .ptr 0 1 0), (3, .ptr 0 2 0), (27, .d (.os 5 (D.ageds (XN.Ds a0.terms)))), (28, .d (.int .i64 ((XN.Ds a0.terms).length : Int))), (29, .d (.int .i64 (k1 : Int)))] [[.cells [.d (.os 3 (D.ageds (YN.Ds a0.types))), .d (.os 5 (D.ageds (XN.Ds a0.terms)))], .cells [.nil 3, .nil 5], .cells [.own 0 3 3 (YN.Ds c2_0_0), .own 0 4 5 (XN.Ds c2_1_1)], .grow 3 (YN.Ds c2_0_0).length, .grow 5 (XN.Ds c2_1_1).length]]
theorem G_hash_Twin_o_io_l1 : (∀ p r, hash_Twin_o_io_l1' p = some r → ∀ rest1 c2_1_1 c2_0_0, (rest1, c2_1_1, c2_0_0) = p → M_hash_Twin_o_io_l1 rest1 c2_1_1 c2_0_0 r) := by
 refine hash_Twin_o_io_l1'.partial_correctness (fun (p : ((List XN) × (List XN) × (List YN))) (r : ((List YN) × (List XN))) => ∀ (rest1 : (List XN)) (c2_1_1 : (List XN)) (c2_0_0 : (List YN)), (rest1, c2_1_1, c2_0_0) = p → M_hash_Twin_o_io_l1 rest1 c2_1_1 c2_0_0 r) ?_
 ·intro f_hash_Twin_o_io_l1 ih_hash_Twin_o_io_l1 p r e rest1 c2_1_1 c2_0_0 hp
  subst hp
  intro a0 k1 hd1
  refine RunsL.len_tmp 27 rfl fun hlenk1 => ?_
  rw [ageds_len] at hlenk1
  refine RunsL.of_awp (js := [8]) T_ok ?_; conv => whnf
  have hls := XN.Ds_len a0.terms
  cases rest1 with
  | nil =>
   have hk := drop_nil hd1
   refine ⟨⟨fun h => absurd h (by omega), fun _ => ?_⟩⟩; conv => whnf
   obtain rfl := sm e
   refine ⟨[3, 4], ⟨rfl, rfl, rfl⟩, ?_, ⟨⟨_, rfl, ?_⟩, ⟨_, rfl, ?_⟩, trivial⟩⟩
   repeat' first | exact rfl | exact trivial | refine ⟨?_, ?_⟩ | (simp [XN.Ds_all, YN.Ds_all, intDs_i64_all, AStore.D, XN.D, YN.D, listAll, ageds_len, ageds_nil] <;> (repeat' first | rfl | apply And.intro); done)
  | cons v30 rest1 =>
   obtain ⟨hxv30, hd1, hltv30⟩ := drop_head hd1
   refine ⟨⟨fun _ => ?_, fun h => absurd (by omega) h⟩⟩; conv => whnf
   refine ⟨k1, _, rfl, ageds_get (XN.Ds_get hxv30), ?_⟩; conv => whnf
   refine ⟨ageds_fit (XN.Ds_fit _ rfl rfl), ?_⟩; conv => whnf
   obtain ⟨v31, qv31, e⟩ := bnd e
   refine said_pure (P_slices_Clone_int_int_o qv31) rfl ?_; conv => whnf
   refine ⟨⟨⟨rfl, rfl⟩, trivial⟩, ?_⟩; conv => whnf
   obtain ⟨v32, qv32, e⟩ := bnd e
   obtain ⟨qv32l, qv32e⟩ := app_some qv32
   refine ⟨(by first | exact qv32l | simpa [XN.Ds_all, YN.Ds_all, intDs_i64_all, AStore.D, XN.D, YN.D, listAll, ageds_len, ageds_nil] using qv32l), rfl, (by first | rfl | simp [XN.Ds_all, YN.Ds_all, intDs_i64_all, AStore.D, XN.D, YN.D, listAll, ageds_len, ageds_nil]), ?_⟩; conv => whnf
   refine ⟨((k1 + 1 : Nat) : Int), wrap64e (by omega) (by omega) (by omega), ?_⟩; conv => whnf
   refine (RunsL.weak ((ih_hash_Twin_o_io_l1 _ _ e _ _ _ rfl) a0 (k1 + 1) hd1) ?_)
   repeat' first | exact wk.of_eq rfl | exact wk.pure rfl | exact wk.un _ | exact wk.hold _ _ _ | exact wk.holdG _ _ _ | exact rfl | exact trivial | refine ⟨?_, ?_⟩ | (refine wk.of_eq ?_; (conv => lhs; whnf); (simp [XN.Ds_all, YN.Ds_all, intDs_i64_all, AStore.D, XN.D, YN.D, listAll, ageds_len, ageds_nil, qv32e] <;> (repeat' first | rfl | apply And.intro)); done) | (refine wk.pure ?_; (conv => lhs; whnf); (simp [XN.Ds_all, YN.Ds_all, intDs_i64_all, AStore.D, XN.D, YN.D, listAll, ageds_len, ageds_nil, qv32e] <;> (repeat' first | rfl | apply And.intro)); done) | ((simp [XN.Ds_all, YN.Ds_all, intDs_i64_all, AStore.D, XN.D, YN.D, listAll, ageds_len, ageds_nil, qv32e] <;> (repeat' first | rfl | apply And.intro)); done) | (simp [XN.Ds_all, YN.Ds_all, intDs_i64_all, AStore.D, XN.D, YN.D, listAll, ageds_len, ageds_nil, qv32e]; omega)
theorem P_hash_Twin_o_io_l1 {rest1 : (List XN)} {c2_1_1 : (List XN)} {c2_0_0 : (List YN)} {r : ((List YN) × (List XN))} (e : hash_Twin_o_io_l1 rest1 c2_1_1 c2_0_0 = some r) : M_hash_Twin_o_io_l1 rest1 c2_1_1 c2_0_0 r := G_hash_Twin_o_io_l1 _ _ e _ _ _ rfl
theorem P_hash_Twin_o_io_j0 {a0 : AStore} {c2_0_0 : (List YN)} {r : ((List YN) × (List XN))} (e : hash_Twin_o_io_j0 a0 c2_0_0 = some r) : JoinAt T Try.prog Try.f34 ⟨[], 0⟩ [8] [1, 1, 1, 0, 0] (ES T Try.f34 0 (.agg [.own 0 0 3 (YN.Ds r.1), .own 0 1 5 (XN.Ds r.2)]) ([.grow 3 (YN.Ds r.1).length, .grow 5 (XN.Ds r.2).length])) [(1, .ptr 0 0 0), (2, .ptr 0 1 0), (3, .ptr 0 2 0)] [[.cells [.d (.os 3 (D.ageds (YN.Ds a0.types))), .d (.os 5 (D.ageds (XN.Ds a0.terms)))], .cells [.nil 3, .nil 5], .cells [.own 0 3 3 (YN.Ds c2_0_0), .nil 5], .grow 3 (YN.Ds c2_0_0).length]] := by
 unfold hash_Twin_o_io_j0 at e
 refine Runs.enter T_ok ?_; conv => whnf
 try simp only [ageds_len]
 refine Runs.hold 5 ?_
 refine RunsL.runs (RunsL.weak ((P_hash_Twin_o_io_l1 e) a0 0 (by simp)) ?_)
 repeat' first | exact wk.of_eq rfl | exact wk.pure rfl | exact wk.un _ | exact wk.hold _ _ _ | exact wk.holdG _ _ _ | exact rfl | exact trivial | refine ⟨?_, ?_⟩ | (refine wk.of_eq ?_; (conv => lhs; whnf); (simp [XN.Ds_all, YN.Ds_all, intDs_i64_all, AStore.D, XN.D, YN.D, listAll, ageds_len, ageds_nil] <;> (repeat' first | rfl | apply And.intro)); done) | (refine wk.pure ?_; (conv => lhs; whnf); (simp [XN.Ds_all, YN.Ds_all, intDs_i64_all, AStore.D, XN.D, YN.D, listAll, ageds_len, ageds_nil] <;> (repeat' first | rfl | apply And.intro)); done) | ((simp [XN.Ds_all, YN.Ds_all, intDs_i64_all, AStore.D, XN.D, YN.D, listAll, ageds_len, ageds_nil] <;> (repeat' first | rfl | apply And.intro)); done) | (simp [XN.Ds_all, YN.Ds_all, intDs_i64_all, AStore.D, XN.D, YN.D, listAll, ageds_len, ageds_nil]; omega)
def M_hash_Twin_o_io_l0 (rest0 : (List YN)) (c2_0_0 : (List YN)) (a0 : AStore) (r : ((List YN) × (List XN))) : Prop := ∀ (k0 : Nat) (hd0 : rest0 = a0.types.drop k0), LoopAt T Try.prog Try.f34 ⟨[], 0⟩ [8] [1, 1, 0, 1, 0] (ES T Try.f34 0 (.agg [.own 0 0 3 (YN.Ds r.1), .own 0 1 5 (XN.Ds r.2)]) ([.grow 3 (YN.Ds r.1).length, .grow 5 (XN.Ds r.2).length])) [(1, .ptr 0 0 0), (2, .ptr 0 1 0), (3, .ptr 0 2 0), (9, .d (.os 3 (D.ageds (YN.Ds a0.types)))), (10, .d (.int .i64 ((YN.Ds a0.types).length : Int))), (11, .d (.int .i64 (k0 : Int)))] [[.cells [.d (.os 3 (D.ageds (YN.Ds a0.types))), .d (.os 5 (D.ageds (XN.Ds a0.terms)))], .cells [.nil 3, .nil 5], .cells [.own 0 3 3 (YN.Ds c2_0_0), .nil 5], .grow 3 (YN.Ds c2_0_0).length]]
theorem G_hash_Twin_o_io_l0 : (∀ p r, hash_Twin_o_io_l0' p = some r → ∀ rest0 c2_0_0 a0, (rest0, c2_0_0, a0) = p → M_hash_Twin_o_io_l0 rest0 c2_0_0 a0 r) := by
 refine hash_Twin_o_io_l0'.partial_correctness (fun (p : ((List YN) × (List YN) × AStore)) (r : ((List YN) × (List XN))) => ∀ (rest0 : (List YN)) (c2_0_0 : (List YN)) (a0 : AStore), (rest0, c2_0_0, a0) = p → M_hash_Twin_o_io_l0 rest0 c2_0_0 a0 r) ?_
 ·intro f_hash_Twin_o_io_l0 ih_hash_Twin_o_io_l0 p r e rest0 c2_0_0 a0 hp
  subst hp
  intro k0 hd0
  refine RunsL.len_tmp 9 rfl fun hlenk0 => ?_
  rw [ageds_len] at hlenk0
  refine RunsL.of_awp (js := [8]) T_ok ?_; conv => whnf
  have hls := YN.Ds_len a0.types
  cases rest0 with
  | nil =>
   have hk := drop_nil hd0
   refine ⟨⟨fun h => absurd h (by omega), fun _ => ?_⟩⟩; conv => whnf
   refine Runs.weak (P_hash_Twin_o_io_j0 e) ?_
   repeat' first | exact wk.of_eq rfl | exact wk.pure rfl | exact wk.un _ | exact wk.hold _ _ _ | exact wk.holdG _ _ _ | exact rfl | exact trivial | refine ⟨?_, ?_⟩ | (refine wk.of_eq ?_; (conv => lhs; whnf); (simp [XN.Ds_all, YN.Ds_all, intDs_i64_all, AStore.D, XN.D, YN.D, listAll, ageds_len, ageds_nil] <;> (repeat' first | rfl | apply And.intro)); done) | (refine wk.pure ?_; (conv => lhs; whnf); (simp [XN.Ds_all, YN.Ds_all, intDs_i64_all, AStore.D, XN.D, YN.D, listAll, ageds_len, ageds_nil] <;> (repeat' first | rfl | apply And.intro)); done) | ((simp [XN.Ds_all, YN.Ds_all, intDs_i64_all, AStore.D, XN.D, YN.D, listAll, ageds_len, ageds_nil] <;> (repeat' first | rfl | apply And.intro)); done) | (simp [XN.Ds_all, YN.Ds_all, intDs_i64_all, AStore.D, XN.D, YN.D, listAll, ageds_len, ageds_nil]; omega)
  | cons v12 rest0 =>
   obtain ⟨hxv12, hd0, hltv12⟩ := drop_head hd0
   refine ⟨⟨fun _ => ?_, fun h => absurd (by omega) h⟩⟩; conv => whnf
   refine ⟨k0, _, rfl, ageds_get (YN.Ds_get hxv12), ?_⟩; conv => whnf
   refine ⟨ageds_fit (YN.Ds_fit _ rfl rfl), ?_⟩; conv => whnf
   obtain ⟨v13, qv13, e⟩ := bnd e
   refine said_pure (P_slices_Clone_int_int_o qv13) rfl ?_; conv => whnf
   refine ⟨⟨⟨rfl, rfl⟩, trivial⟩, ?_⟩; conv => whnf
   obtain ⟨v14, qv14, e⟩ := bnd e
   obtain ⟨qv14l, qv14e⟩ := app_some qv14
   refine ⟨(by first | exact qv14l | simpa [XN.Ds_all, YN.Ds_all, intDs_i64_all, AStore.D, XN.D, YN.D, listAll, ageds_len, ageds_nil] using qv14l), rfl, (by first | rfl | simp [XN.Ds_all, YN.Ds_all, intDs_i64_all, AStore.D, XN.D, YN.D, listAll, ageds_len, ageds_nil]), ?_⟩; conv => whnf
   refine ⟨((k0 + 1 : Nat) : Int), wrap64e (by omega) (by omega) (by omega), ?_⟩; conv => whnf
   refine (RunsL.weak ((ih_hash_Twin_o_io_l0 _ _ e _ _ _ rfl) (k0 + 1) hd0) ?_)
   repeat' first | exact wk.of_eq rfl | exact wk.pure rfl | exact wk.un _ | exact wk.hold _ _ _ | exact wk.holdG _ _ _ | exact rfl | exact trivial | refine ⟨?_, ?_⟩ | (refine wk.of_eq ?_; (conv => lhs; whnf); (simp [XN.Ds_all, YN.Ds_all, intDs_i64_all, AStore.D, XN.D, YN.D, listAll, ageds_len, ageds_nil, qv14e] <;> (repeat' first | rfl | apply And.intro)); done) | (refine wk.pure ?_; (conv => lhs; whnf); (simp [XN.Ds_all, YN.Ds_all, intDs_i64_all, AStore.D, XN.D, YN.D, listAll, ageds_len, ageds_nil, qv14e] <;> (repeat' first | rfl | apply And.intro)); done) | ((simp [XN.Ds_all, YN.Ds_all, intDs_i64_all, AStore.D, XN.D, YN.D, listAll, ageds_len, ageds_nil, qv14e] <;> (repeat' first | rfl | apply And.intro)); done) | (simp [XN.Ds_all, YN.Ds_all, intDs_i64_all, AStore.D, XN.D, YN.D, listAll, ageds_len, ageds_nil, qv14e]; omega)
theorem P_hash_Twin_o_io_l0 {rest0 : (List YN)} {c2_0_0 : (List YN)} {a0 : AStore} {r : ((List YN) × (List XN))} (e : hash_Twin_o_io_l0 rest0 c2_0_0 a0 = some r) : M_hash_Twin_o_io_l0 rest0 c2_0_0 a0 r := G_hash_Twin_o_io_l0 _ _ e _ _ _ rfl
theorem P_hash_Twin_o_io {a0 : AStore} {r : ((List YN) × (List XN))} (e : hash_Twin_o_io a0 = some r) : IoR Try.prog 34 [.d (D.aged (AStore.D a0))] [] (.agg [.own 0 0 3 (YN.Ds r.1), .own 0 1 5 (XN.Ds r.2)]) ([.grow 3 (YN.Ds r.1).length, .grow 5 (XN.Ds r.2).length]) := by
 unfold hash_Twin_o_io at e
 refine io_of_awp2 (js := [8]) T_ok Try.func34 rfl (by decide +kernel) rfl ?_; conv => whnf
 try simp only [ageds_len]
 refine Runs.hold 3 ?_
 refine RunsL.runs (RunsL.weak ((P_hash_Twin_o_io_l0 e) 0 (by simp)) ?_)
 repeat' first | exact wk.of_eq rfl | exact wk.pure rfl | exact wk.un _ | exact wk.hold _ _ _ | exact wk.holdG _ _ _ | exact rfl | exact trivial | refine ⟨?_, ?_⟩ | (refine wk.of_eq ?_; (conv => lhs; whnf); (simp [XN.Ds_all, YN.Ds_all, intDs_i64_all, AStore.D, XN.D, YN.D, listAll, ageds_len, ageds_nil] <;> (repeat' first | rfl | apply And.intro)); done) | (refine wk.pure ?_; (conv => lhs; whnf); (simp [XN.Ds_all, YN.Ds_all, intDs_i64_all, AStore.D, XN.D, YN.D, listAll, ageds_len, ageds_nil] <;> (repeat' first | rfl | apply And.intro)); done) | ((simp [XN.Ds_all, YN.Ds_all, intDs_i64_all, AStore.D, XN.D, YN.D, listAll, ageds_len, ageds_nil] <;> (repeat' first | rfl | apply And.intro)); done) | (simp [XN.Ds_all, YN.Ds_all, intDs_i64_all, AStore.D, XN.D, YN.D, listAll, ageds_len, ageds_nil]; omega)
def M_types_name_l0 (t7_0 : Int) (a0 : ByteArray) (r : Bool) : Prop := LoopAt T Try.prog Try.f52 Fx0 [] [1, 0, 1, 0] (EP T Try.f52 (.bool r)) [(0, .d (.str a0)), (6, .d (.int .i64 (a0.size : Int))), (7, .d (.int .i64 t7_0))] [[]]
theorem G_types_name_l0 : (∀ p r, types_name_l0' p = some r → ∀ t7_0 a0, (t7_0, a0) = p → M_types_name_l0 t7_0 a0 r) := by
 refine types_name_l0'.partial_correctness (fun (p : (Int × ByteArray)) (r : Bool) => ∀ (t7_0 : Int) (a0 : ByteArray), (t7_0, a0) = p → M_types_name_l0 t7_0 a0 r) ?_
 ·intro f_types_name_l0 ih_types_name_l0 p r e t7_0 a0 hp
  subst hp
  refine RunsL.of_awp (js := []) T_ok ?_; conv => whnf
  refine ⟨⟨fun h8 => ?_, fun h8 => ?_⟩⟩
  ·replace e := ifp h8 e; conv => whnf
   obtain ⟨v9, qv9, e⟩ := bnd e
   obtain ⟨qv9k, qv9q, qv9a, qv9b, qv9c⟩ := getb_some qv9
   refine ⟨qv9k, qv9q, qv9a, qv9b, ?_⟩; rw [qv9c]; conv => whnf
   refine ⟨⟨fun h10 => ?_, fun h10 => ?_⟩⟩
   ·replace e := ifp h10 e; conv => whnf
    obtain rfl := sm e
    repeat' first | exact rfl | exact trivial | refine ⟨?_, ?_⟩
   ·replace e := ifn h10 e; conv => whnf
    refine ⟨⟨fun h11 => ?_, fun h11 => ?_⟩⟩
    ·replace e := ifp h11 e; conv => whnf
     obtain rfl := sm e
     repeat' first | exact rfl | exact trivial | refine ⟨?_, ?_⟩
    ·replace e := ifn h11 e; conv => whnf
     refine ⟨⟨fun h12 => ?_, fun h12 => ?_⟩⟩
     ·replace e := ifp h12 e; conv => whnf
      obtain rfl := sm e
      repeat' first | exact rfl | exact trivial | refine ⟨?_, ?_⟩
     ·replace e := ifn h12 e; conv => whnf
      refine ⟨⟨fun h13 => ?_, fun h13 => ?_⟩⟩
      ·replace e := ifp h13 e; conv => whnf
       obtain rfl := sm e
       repeat' first | exact rfl | exact trivial | refine ⟨?_, ?_⟩
      ·replace e := ifn h13 e; conv => whnf
       refine ⟨⟨fun h14 => ?_, fun h14 => ?_⟩⟩
       ·replace e := ifp h14 e; conv => whnf
        obtain rfl := sm e
        repeat' first | exact rfl | exact trivial | refine ⟨?_, ?_⟩
       ·replace e := ifn h14 e; conv => whnf
        refine ⟨⟨fun h15 => ?_, fun h15 => ?_⟩⟩
        ·replace e := ifp h15 e; conv => whnf
         obtain rfl := sm e
         repeat' first | exact rfl | exact trivial | refine ⟨?_, ?_⟩
        ·replace e := ifn h15 e; conv => whnf
         refine ⟨⟨fun h16 => ?_, fun h16 => ?_⟩⟩
         ·replace e := ifp h16 e; conv => whnf
          obtain rfl := sm e
          repeat' first | exact rfl | exact trivial | refine ⟨?_, ?_⟩
         ·replace e := ifn h16 e; conv => whnf
          refine ⟨⟨fun h17 => ?_, fun h17 => ?_⟩⟩
          ·replace e := ifp h17 e; conv => whnf
           obtain rfl := sm e
           repeat' first | exact rfl | exact trivial | refine ⟨?_, ?_⟩
          ·replace e := ifn h17 e; conv => whnf
           refine ⟨⟨fun h18 => ?_, fun h18 => ?_⟩⟩
           ·replace e := ifp h18 e; conv => whnf
            obtain rfl := sm e
            repeat' first | exact rfl | exact trivial | refine ⟨?_, ?_⟩
           ·replace e := ifn h18 e; conv => whnf
            obtain ⟨v19, qv19, e⟩ := bnd e
            refine ⟨v19, sm qv19, ?_⟩; conv => whnf
            refine (RunsL.weak (ih_types_name_l0 _ _ e _ _ rfl) ?_)
            repeat' first | exact wk.of_eq rfl | exact wk.pure rfl | exact wk.un _ | exact wk.hold _ _ _ | exact wk.holdG _ _ _ | exact rfl | exact trivial | refine ⟨?_, ?_⟩
  ·replace e := ifn h8 e; conv => whnf
   refine ⟨⟨fun h9 => ?_, fun h9 => ?_⟩⟩
   ·replace e := ifp h9 e; conv => whnf
    refine test.dec ?_; conv => whnf
    obtain rfl := sm e
    repeat' first | exact rfl | exact trivial | refine ⟨?_, ?_⟩
   ·replace e := ifn h9 e; conv => whnf
    obtain rfl := sm e
    repeat' first | exact rfl | exact trivial | refine ⟨?_, ?_⟩
theorem P_types_name_l0 {t7_0 : Int} {a0 : ByteArray} {r : Bool} (e : types_name_l0 t7_0 a0 = some r) : M_types_name_l0 t7_0 a0 r := G_types_name_l0 _ _ e _ _ rfl
theorem P_types_name {a0 : ByteArray} {r : Bool} (e : types_name a0 = some r) : Pure Try.prog 52 [(.str a0)] (.bool r) := by
 unfold types_name at e
 refine pure_of_awp (js := []) T_ok Try.func52 rfl (by decide +kernel) rfl ?_; conv => whnf
 refine RunsL.runs (RunsL.weak (P_types_name_l0 e) ?_)
 repeat' first | exact wk.of_eq rfl | exact wk.pure rfl | exact wk.un _ | exact wk.hold _ _ _ | exact wk.holdG _ _ _ | exact rfl | exact trivial | refine ⟨?_, ?_⟩
theorem P_types_variable {a0 : ByteArray} {r : Bool} (e : types_variable a0 = some r) : Pure Try.prog 51 [(.str a0)] (.bool r) := by
 unfold types_variable at e
 refine pure_of_awp (js := []) T_ok Try.func51 rfl (by decide +kernel) rfl ?_; conv => whnf
 obtain ⟨v1, qv1, e⟩ := bnd e
 refine said_pure (P_types_name qv1) rfl ?_; conv => whnf
 refine brK.split (fun hb2 => ?_) (fun hb2 => ?_)
 ·replace e := ifpb hb2 e; conv => whnf
  refine brK.tt hb2 ?_; conv => whnf
  obtain ⟨v3, qv3, e⟩ := bnd e
  obtain ⟨qv3k, qv3q, qv3a, qv3b, qv3c⟩ := getb_some qv3
  refine ⟨qv3k, qv3q, qv3a, qv3b, ?_⟩; rw [qv3c]; conv => whnf
  refine brK.tt hb2 ?_; conv => whnf
  refine test.dec ?_; conv => whnf
  refine brK.tt hb2 ?_; conv => whnf
  obtain rfl := sm e
  repeat' first | exact rfl | exact trivial | refine ⟨?_, ?_⟩
 ·replace e := ifnb hb2 e; conv => whnf
  refine brK.ff hb2 ?_; conv => whnf
  refine brK.ff hb2 ?_; conv => whnf
  refine brK.ff hb2 ?_; conv => whnf
  obtain rfl := sm e
  repeat' first | exact rfl | exact trivial | refine ⟨?_, ?_⟩
end Go.Proofs.Ytemfpemejagndaa.Fw


set_option maxHeartbeats 4000000
namespace Go.Proofs.Ytemfpemejagndaa.Fw
open Go Go.Proofs Go.RowKit
def M_types_measure (a0 : Ty) (r : (Int × Int × Bool)) : Prop := Pure Try.prog 38 [(Ty.D a0)] (.tuple [(.int .i64 r.1), (.int .i64 r.2.1), (.bool r.2.2)])
def M_types_measure_j0 (t4_1 : Bool) (a0 : Ty) (r : (Int × Int × Bool)) : Prop := JoinAt T Try.prog Try.f38 Fx0 [5] [1, 1, 1, 0, 0] (EP T Try.f38 (.tuple [(.int .i64 r.1), (.int .i64 r.2.1), (.bool r.2.2)])) [(1, .ptr 0 0 0), (2, .d (.int .i64 1)), (3, .d (.int .i64 0)), (4, .d (.bool t4_1))] [[.cells [.d (.bool a0.v), .d (.str a0.name), .d (.slice 3 (Ty.Ds a0.args))]]]
def M_types_measure_l0 (rest0 : (List Ty)) (t2_0 : Int) (t3_0 : Int) (t4_0 : Bool) (r : (Int × Int × Bool)) : Prop := ∀ (a0 : Ty) (k0 : Nat) (hd0 : rest0 = a0.args.drop k0), LoopAt T Try.prog Try.f38 Fx0 [5] [1, 1, 1, 0, 1, 0] (EP T Try.f38 (.tuple [(.int .i64 r.1), (.int .i64 r.2.1), (.bool r.2.2)])) [(2, .d (.int .i64 t2_0)), (3, .d (.int .i64 t3_0)), (4, .d (.bool t4_0)), (37, .d (.slice 3 (Ty.Ds a0.args))), (38, .d (.int .i64 ((Ty.Ds a0.args).length : Int))), (39, .d (.int .i64 (k0 : Int)))] [[]]
theorem G_types_measure : (∀ p r, types_measure' p = some r → ∀ a0, a0 = p → M_types_measure a0 r) ∧
  (∀ p r, types_measure_j0' p = some r → ∀ t4_1 a0, (t4_1, a0) = p → M_types_measure_j0 t4_1 a0 r) ∧
  (∀ p r, types_measure_l0' p = some r → ∀ rest0 t2_0 t3_0 t4_0, (rest0, t2_0, t3_0, t4_0) = p → M_types_measure_l0 rest0 t2_0 t3_0 t4_0 r) := by
 refine types_measure'.mutual_partial_correctness (fun (p : Ty) (r : (Int × Int × Bool)) => ∀ (a0 : Ty), a0 = p → M_types_measure a0 r) (fun (p : (Bool × Ty)) (r : (Int × Int × Bool)) => ∀ (t4_1 : Bool) (a0 : Ty), (t4_1, a0) = p → M_types_measure_j0 t4_1 a0 r) (fun (p : ((List Ty) × Int × Int × Bool)) (r : (Int × Int × Bool)) => ∀ (rest0 : (List Ty)) (t2_0 : Int) (t3_0 : Int) (t4_0 : Bool), (rest0, t2_0, t3_0, t4_0) = p → M_types_measure_l0 rest0 t2_0 t3_0 t4_0 r) ?_ ?_ ?_
 ·intro f_types_measure_j0 ih_types_measure_j0 p r e a0 hp
  subst hp
  refine pure_of_awp (js := [5]) T_ok Try.func38 rfl (by decide +kernel) rfl ?_; conv => whnf
  refine brK.split (fun hb1 => ?_) (fun hb1 => ?_)
  ·replace e := ifpb hb1 e; conv => whnf
   obtain ⟨v2, qv2, e⟩ := bnd e
   refine said_pure (P_types_variable qv2) rfl ?_; conv => whnf
   refine brK.split (fun hb3 => ?_) (fun hb3 => ?_)
   ·replace e := ifpb hb3 e; conv => whnf
    refine brK.tt hb3 ?_; conv => whnf
    refine brK.tt hb3 ?_; conv => whnf
    refine brK.tt hb3 ?_; conv => whnf
    refine ⟨⟨fun h4 => ?_, fun h4 => ?_⟩⟩
    ·replace e := ifp (by first | exact h4 | omega | simpa [Ty.Ds_all, Ty.D, listAll] using h4) e; conv => whnf
     refine brK.tt hb3 ?_; conv => whnf
     refine Runs.weak (ih_types_measure_j0 _ _ e _ _ rfl) ?_
     repeat' first | exact wk.of_eq rfl | exact wk.pure rfl | exact wk.un _ | exact wk.hold _ _ _ | exact wk.holdG _ _ _ | exact rfl | exact trivial | refine ⟨?_, ?_⟩
    ·replace e := ifn (by first | exact h4 | omega | simpa [Ty.Ds_all, Ty.D, listAll] using h4) e; conv => whnf
     refine brK.tt hb3 ?_; conv => whnf
     refine Runs.weak (ih_types_measure_j0 _ _ e _ _ rfl) ?_
     repeat' first | exact wk.of_eq rfl | exact wk.pure rfl | exact wk.un _ | exact wk.hold _ _ _ | exact wk.holdG _ _ _ | exact rfl | exact trivial | refine ⟨?_, ?_⟩
   ·replace e := ifnb hb3 e; conv => whnf
    refine brK.ff hb3 ?_; conv => whnf
    refine brK.ff hb3 ?_; conv => whnf
    refine brK.ff hb3 ?_; conv => whnf
    refine brK.ff hb3 ?_; conv => whnf
    refine Runs.weak (ih_types_measure_j0 _ _ e _ _ rfl) ?_
    repeat' first | exact wk.of_eq rfl | exact wk.pure rfl | exact wk.un _ | exact wk.hold _ _ _ | exact wk.holdG _ _ _ | exact rfl | exact trivial | refine ⟨?_, ?_⟩
  ·replace e := ifnb hb1 e; conv => whnf
   obtain ⟨v2, qv2, e⟩ := bnd e
   refine said_pure (P_types_name qv2) rfl ?_; conv => whnf
   refine brK.split (fun hb3 => ?_) (fun hb3 => ?_)
   ·replace e := ifpb hb3 e; conv => whnf
    refine brK.tt hb3 ?_; conv => whnf
    refine brK.tt hb3 ?_; conv => whnf
    obtain ⟨v4, qv4, e⟩ := bnd e
    obtain ⟨qv4k, qv4q, qv4a, qv4b, qv4c⟩ := getb_some qv4
    refine ⟨qv4k, qv4q, qv4a, qv4b, ?_⟩; rw [qv4c]; conv => whnf
    refine brK.tt hb3 ?_; conv => whnf
    refine ⟨⟨fun h5 => ?_, fun h5 => ?_⟩⟩
    ·replace e := ifp h5 e; conv => whnf
     refine brK.tt hb3 ?_; conv => whnf
     refine ⟨⟨fun h6 => ?_, fun h6 => ?_⟩⟩
     ·replace e := ifp (by first | exact h6 | omega | simpa [Ty.Ds_all, Ty.D, listAll] using h6) e; conv => whnf
      refine Runs.weak (ih_types_measure_j0 _ _ e _ _ rfl) ?_
      repeat' first | exact wk.of_eq rfl | exact wk.pure rfl | exact wk.un _ | exact wk.hold _ _ _ | exact wk.holdG _ _ _ | exact rfl | exact trivial | refine ⟨?_, ?_⟩
     ·replace e := ifn (by first | exact h6 | omega | simpa [Ty.Ds_all, Ty.D, listAll] using h6) e; conv => whnf
      refine Runs.weak (ih_types_measure_j0 _ _ e _ _ rfl) ?_
      repeat' first | exact wk.of_eq rfl | exact wk.pure rfl | exact wk.un _ | exact wk.hold _ _ _ | exact wk.holdG _ _ _ | exact rfl | exact trivial | refine ⟨?_, ?_⟩
    ·replace e := ifn h5 e; conv => whnf
     refine brK.tt hb3 ?_; conv => whnf
     refine Runs.weak (ih_types_measure_j0 _ _ e _ _ rfl) ?_
     repeat' first | exact wk.of_eq rfl | exact wk.pure rfl | exact wk.un _ | exact wk.hold _ _ _ | exact wk.holdG _ _ _ | exact rfl | exact trivial | refine ⟨?_, ?_⟩
   ·replace e := ifnb hb3 e; conv => whnf
    refine brK.ff hb3 ?_; conv => whnf
    refine brK.ff hb3 ?_; conv => whnf
    refine brK.ff hb3 ?_; conv => whnf
    refine brK.ff hb3 ?_; conv => whnf
    refine Runs.weak (ih_types_measure_j0 _ _ e _ _ rfl) ?_
    repeat' first | exact wk.of_eq rfl | exact wk.pure rfl | exact wk.un _ | exact wk.hold _ _ _ | exact wk.holdG _ _ _ | exact rfl | exact trivial | refine ⟨?_, ?_⟩
 ·intro f_types_measure_l0 ih_types_measure_l0 p r e t4_1 a0 hp
  subst hp
  refine Runs.enter T_ok ?_; conv => whnf
  refine RunsL.runs (RunsL.weak ((ih_types_measure_l0 _ _ e _ _ _ _ rfl) a0 0 (by simp)) ?_)
  repeat' first | exact wk.of_eq rfl | exact wk.pure rfl | exact wk.un _ | exact wk.hold _ _ _ | exact wk.holdG _ _ _ | exact rfl | exact trivial | refine ⟨?_, ?_⟩ | (refine wk.of_eq ?_; (conv => lhs; whnf); (simp [Ty.Ds_all, Ty.D, listAll] <;> (repeat' first | rfl | apply And.intro)); done) | (refine wk.pure ?_; (conv => lhs; whnf); (simp [Ty.Ds_all, Ty.D, listAll] <;> (repeat' first | rfl | apply And.intro)); done) | ((simp [Ty.Ds_all, Ty.D, listAll] <;> (repeat' first | rfl | apply And.intro)); done) | (simp [Ty.Ds_all, Ty.D, listAll]; omega)
 ·intro f_types_measure f_types_measure_l0 ih_types_measure ih_types_measure_l0 p r e rest0 t2_0 t3_0 t4_0 hp
  subst hp
  intro a0 k0 hd0
  refine RunsL.len_tmp 37 rfl fun hlenk0 => ?_
  refine RunsL.of_awp (js := [5]) T_ok ?_; conv => whnf
  have hls := Ty.Ds_len a0.args
  cases rest0 with
  | nil =>
   have hk := drop_nil hd0
   refine ⟨⟨fun h => absurd h (by omega), fun _ => ?_⟩⟩; conv => whnf
   obtain ⟨v41, qv41, e⟩ := bnd e
   refine ⟨v41, sm qv41, ?_⟩; conv => whnf
   obtain rfl := sm e
   repeat' first | exact rfl | exact trivial | refine ⟨?_, ?_⟩
  | cons v40 rest0 =>
   obtain ⟨hxv40, hd0, hltv40⟩ := drop_head hd0
   refine ⟨⟨fun _ => ?_, fun h => absurd (by omega) h⟩⟩; conv => whnf
   refine ⟨k0, _, rfl, Ty.Ds_get hxv40, ?_⟩; conv => whnf
   refine ⟨Ty.Ds_fit _ rfl rfl, ?_⟩; conv => whnf
   obtain ⟨v41, qv41, e⟩ := bnd e
   refine said_pure (ih_types_measure _ _ qv41 _ rfl) rfl ?_; conv => whnf
   obtain ⟨v42, qv42, e⟩ := bnd e
   refine ⟨v42, sm qv42, ?_⟩; conv => whnf
   refine brK.split (fun hb43 => ?_) (fun hb43 => ?_)
   ·replace e := ifpb hb43 e; conv => whnf
    refine brK.tt hb43 ?_; conv => whnf
    refine ⟨((k0 + 1 : Nat) : Int), wrap64e (by omega) (by omega) (by omega), ?_⟩; conv => whnf
    refine (RunsL.weak ((ih_types_measure_l0 _ _ e _ _ _ _ rfl) a0 (k0 + 1) hd0) ?_)
    repeat' first | exact wk.of_eq rfl | exact wk.pure rfl | exact wk.un _ | exact wk.hold _ _ _ | exact wk.holdG _ _ _ | exact rfl | exact trivial | refine ⟨?_, ?_⟩ | (refine wk.of_eq ?_; (conv => lhs; whnf); (simp [Ty.Ds_all, Ty.D, listAll] <;> (repeat' first | rfl | apply And.intro)); done) | (refine wk.pure ?_; (conv => lhs; whnf); (simp [Ty.Ds_all, Ty.D, listAll] <;> (repeat' first | rfl | apply And.intro)); done) | ((simp [Ty.Ds_all, Ty.D, listAll] <;> (repeat' first | rfl | apply And.intro)); done) | (simp [Ty.Ds_all, Ty.D, listAll]; omega)
   ·replace e := ifnb hb43 e; conv => whnf
    refine brK.ff hb43 ?_; conv => whnf
    refine ⟨((k0 + 1 : Nat) : Int), wrap64e (by omega) (by omega) (by omega), ?_⟩; conv => whnf
    refine (RunsL.weak ((ih_types_measure_l0 _ _ e _ _ _ _ rfl) a0 (k0 + 1) hd0) ?_)
    repeat' first | exact wk.of_eq rfl | exact wk.pure rfl | exact wk.un _ | exact wk.hold _ _ _ | exact wk.holdG _ _ _ | exact rfl | exact trivial | refine ⟨?_, ?_⟩ | (refine wk.of_eq ?_; (conv => lhs; whnf); (simp [Ty.Ds_all, Ty.D, listAll] <;> (repeat' first | rfl | apply And.intro)); done) | (refine wk.pure ?_; (conv => lhs; whnf); (simp [Ty.Ds_all, Ty.D, listAll] <;> (repeat' first | rfl | apply And.intro)); done) | ((simp [Ty.Ds_all, Ty.D, listAll] <;> (repeat' first | rfl | apply And.intro)); done) | (simp [Ty.Ds_all, Ty.D, listAll]; omega)
theorem P_types_measure {a0 : Ty} {r : (Int × Int × Bool)} (e : types_measure a0 = some r) : M_types_measure a0 r := G_types_measure.1 _ _ e _ rfl
theorem P_types_Check {a0 : Ty} {r : Int} (e : types_Check a0 = some r) : Pure Try.prog 19 [(Ty.D a0)] (.int .i64 r) := by
 unfold types_Check at e
 refine pure_of_awp (js := []) T_ok Try.func19 rfl (by decide +kernel) rfl ?_; conv => whnf
 obtain ⟨v1, qv1, e⟩ := bnd e
 refine said_pure (P_types_measure qv1) rfl ?_; conv => whnf
 refine brK.nsplit (fun hb2 => ?_) (fun hb2 => ?_)
 ·replace e := ifpb hb2 e; conv => whnf
  refine brK.ntt hb2 ?_; conv => whnf
  refine ⟨⟨fun h3 => ?_, fun h3 => ?_⟩⟩
  ·replace e := ifp h3 e; conv => whnf
   refine brK.ntt hb2 ?_; conv => whnf
   obtain rfl := sm e
   repeat' first | exact rfl | exact trivial | refine ⟨?_, ?_⟩
  ·replace e := ifn h3 e; conv => whnf
   refine brK.ntt hb2 ?_; conv => whnf
   refine ⟨⟨fun h4 => ?_, fun h4 => ?_⟩⟩
   ·replace e := ifp h4 e; conv => whnf
    obtain rfl := sm e
    repeat' first | exact rfl | exact trivial | refine ⟨?_, ?_⟩
   ·replace e := ifn h4 e; conv => whnf
    obtain rfl := sm e
    repeat' first | exact rfl | exact trivial | refine ⟨?_, ?_⟩
 ·replace e := ifnb hb2 e; conv => whnf
  refine brK.nff hb2 ?_; conv => whnf
  refine brK.nff hb2 ?_; conv => whnf
  obtain rfl := sm e
  repeat' first | exact rfl | exact trivial | refine ⟨?_, ?_⟩
theorem P_hash_below_1 {a0 : Int} {a1 : Int} {r : Bool} (e : hash_below_1 a0 a1 = some r) : Pure Try.prog 64 [(.int .i64 a0), (.ptr (.int .i64 a1))] (.bool r) := by
 unfold hash_below_1 at e
 refine pure_of_awp (js := []) T_ok Try.func64 rfl (by decide +kernel) rfl ?_; conv => whnf
 refine ⟨⟨fun h1 => ?_, fun h1 => ?_⟩⟩
 ·replace e := ifp h1 e; conv => whnf
  obtain rfl := sm e
  repeat' first | exact rfl | exact trivial | refine ⟨?_, ?_⟩
 ·replace e := ifn h1 e; conv => whnf
  refine ⟨intDs_i64_fit _ rfl rfl, ?_⟩; conv => whnf
  refine test.dec ?_; conv => whnf
  obtain rfl := sm e
  repeat' first | exact rfl | exact trivial | refine ⟨?_, ?_⟩
def M_slIF_l0 (rest0 : (List Int)) (k0 : Nat) (a1 : Int) (r : Int) : Prop := ∀ (a0 : (List Int)) (hd0 : rest0 = a0.drop k0), LoopAt T Try.prog Try.f77 Fx0 [] [1, 0, 1, 0] (EP T Try.f77 (.int .i64 r)) [(0, .d (.slice 1 (intDs_i64 a0))), (1, .d (.func (.func 64) [] [(.ptr (.int .i64 a1))])), (7, .d (.int .i64 ((intDs_i64 a0).length : Int))), (8, .d (.int .i64 (k0 : Int)))] [[]]
theorem G_slIF_l0 : (∀ p r, slIF_l0' p = some r → ∀ rest0 k0 a1, (rest0, k0, a1) = p → M_slIF_l0 rest0 k0 a1 r) := by
 refine slIF_l0'.partial_correctness (fun (p : ((List Int) × Nat × Int)) (r : Int) => ∀ (rest0 : (List Int)) (k0 : Nat) (a1 : Int), (rest0, k0, a1) = p → M_slIF_l0 rest0 k0 a1 r) ?_
 ·intro f_slIF_l0 ih_slIF_l0 p r e rest0 k0 a1 hp
  subst hp
  intro a0 hd0
  refine RunsL.len_tmp 0 rfl fun hlenk0 => ?_
  refine RunsL.of_awp (js := []) T_ok ?_; conv => whnf
  have hls := intDs_i64_len a0
  cases rest0 with
  | nil =>
   have hk := drop_nil hd0
   refine ⟨⟨fun h => absurd h (by omega), fun _ => ?_⟩⟩; conv => whnf
   obtain rfl := sm e
   repeat' first | exact rfl | exact trivial | refine ⟨?_, ?_⟩
  | cons v9 rest0 =>
   obtain ⟨hxv9, hd0, hltv9⟩ := drop_head hd0
   refine ⟨⟨fun _ => ?_, fun h => absurd (by omega) h⟩⟩; conv => whnf
   refine ⟨k0, _, rfl, intDs_i64_get hxv9, ?_⟩; conv => whnf
   refine ⟨intDs_i64_fit _ rfl rfl, ?_⟩; conv => whnf
   obtain ⟨v10, qv10, e⟩ := bnd e
   refine said_pure (P_hash_below_1 qv10) rfl ?_; conv => whnf
   refine brK.split (fun hb11 => ?_) (fun hb11 => ?_)
   ·replace e := ifpb hb11 e; conv => whnf
    obtain rfl := sm e
    repeat' first | exact rfl | exact trivial | refine ⟨?_, ?_⟩
   ·replace e := ifnb hb11 e; conv => whnf
    refine ⟨((k0 + 1 : Nat) : Int), wrap64e (by omega) (by omega) (by omega), ?_⟩; conv => whnf
    refine (RunsL.weak ((ih_slIF_l0 _ _ e _ _ _ rfl) a0 hd0) ?_)
    repeat' first | exact wk.of_eq rfl | exact wk.pure rfl | exact wk.un _ | exact wk.hold _ _ _ | exact wk.holdG _ _ _ | exact rfl | exact trivial | refine ⟨?_, ?_⟩ | (refine wk.of_eq ?_; (conv => lhs; whnf); (simp [intDs_i64_all, listAll] <;> (repeat' first | rfl | apply And.intro)); done) | (refine wk.pure ?_; (conv => lhs; whnf); (simp [intDs_i64_all, listAll] <;> (repeat' first | rfl | apply And.intro)); done) | ((simp [intDs_i64_all, listAll] <;> (repeat' first | rfl | apply And.intro)); done) | (simp [intDs_i64_all, listAll]; omega)
theorem P_slIF_l0 {rest0 : (List Int)} {k0 : Nat} {a1 : Int} {r : Int} (e : slIF_l0 rest0 k0 a1 = some r) : M_slIF_l0 rest0 k0 a1 r := G_slIF_l0 _ _ e _ _ _ rfl
theorem P_slIF {a0 : (List Int)} {a1 : Int} {r : Int} (e : slIF a0 a1 = some r) : Pure Try.prog 77 [(.slice 1 (intDs_i64 a0)), (.func (.func 64) [] [(.ptr (.int .i64 a1))])] (.int .i64 r) := by
 unfold slIF at e
 refine pure_of_awp (js := []) T_ok Try.func77 rfl (by decide +kernel) rfl ?_; conv => whnf
 refine RunsL.runs (RunsL.weak ((P_slIF_l0 e) a0 (by simp)) ?_)
 repeat' first | exact wk.of_eq rfl | exact wk.pure rfl | exact wk.un _ | exact wk.hold _ _ _ | exact wk.holdG _ _ _ | exact rfl | exact trivial | refine ⟨?_, ?_⟩ | (refine wk.of_eq ?_; (conv => lhs; whnf); (simp [intDs_i64_all, listAll] <;> (repeat' first | rfl | apply And.intro)); done) | (refine wk.pure ?_; (conv => lhs; whnf); (simp [intDs_i64_all, listAll] <;> (repeat' first | rfl | apply And.intro)); done) | ((simp [intDs_i64_all, listAll] <;> (repeat' first | rfl | apply And.intro)); done) | (simp [intDs_i64_all, listAll]; omega)
theorem P_slices_ContainsFunc_int_int__hash_below_1 {a0 : (List Int)} {a1 : Int} {r : Bool} (e : slices_ContainsFunc_int_int__hash_below_1 a0 a1 = some r) : Pure Try.prog 63 [(.slice 1 (intDs_i64 a0)), (.func (.func 64) [] [(.ptr (.int .i64 a1))])] (.bool r) := by
 unfold slices_ContainsFunc_int_int__hash_below_1 at e
 refine pure_of_awp (js := []) T_ok Try.func63 rfl (by decide +kernel) rfl ?_; conv => whnf
 obtain ⟨v1, qv1, e⟩ := bnd e
 refine said_pure (P_slIF qv1) rfl ?_; conv => whnf
 refine test.dec ?_; conv => whnf
 obtain rfl := sm e
 repeat' first | exact rfl | exact trivial | refine ⟨?_, ?_⟩
theorem P_hash_below {a0 : (List Int)} {a1 : Int} {r : Bool} (e : hash_below a0 a1 = some r) : Pure Try.prog 47 [(.slice 1 (intDs_i64 a0)), (.int .i64 a1)] (.bool r) := by
 unfold hash_below at e
 refine pure_of_awp (js := []) T_ok Try.func47 rfl (by decide +kernel) rfl ?_; conv => whnf
 obtain ⟨v1, qv1, e⟩ := bnd e
 refine said_freeze 0 (.int .i64 a1) ?_ rfl rfl
 refine said_pureF (P_slices_ContainsFunc_int_int__hash_below_1 qv1) rfl ?_; conv => whnf
 obtain rfl := sm e
 repeat' first | exact rfl | exact trivial | refine ⟨?_, ?_⟩
def M_hash_measure_l0 (rest0 : (List Int)) (t6_0 : Int) (t7_0 : Int) (a0 : (List Int)) (a1 : (List Int)) (r : (Int × Int)) : Prop := ∀ (a2 : (List Int)) (k0 : Nat) (hd0 : rest0 = a2.drop k0), LoopAt T Try.prog Try.f48 Fx0 [] [1, 0, 1, 0] (EP T Try.f48 (.tuple [(.int .i64 r.1), (.int .i64 r.2)])) [(0, .d (.slice 1 (intDs_i64 a0))), (1, .d (.slice 1 (intDs_i64 a1))), (6, .d (.int .i64 t6_0)), (7, .d (.int .i64 t7_0)), (10, .d (.slice 1 (intDs_i64 a2))), (11, .d (.int .i64 ((intDs_i64 a2).length : Int))), (12, .d (.int .i64 (k0 : Int)))] [[]]
theorem G_hash_measure_l0 : (∀ p r, hash_measure_l0' p = some r → ∀ rest0 t6_0 t7_0 a0 a1, (rest0, t6_0, t7_0, a0, a1) = p → M_hash_measure_l0 rest0 t6_0 t7_0 a0 a1 r) := by
 refine hash_measure_l0'.partial_correctness (fun (p : ((List Int) × Int × Int × (List Int) × (List Int))) (r : (Int × Int)) => ∀ (rest0 : (List Int)) (t6_0 : Int) (t7_0 : Int) (a0 : (List Int)) (a1 : (List Int)), (rest0, t6_0, t7_0, a0, a1) = p → M_hash_measure_l0 rest0 t6_0 t7_0 a0 a1 r) ?_
 ·intro f_hash_measure_l0 ih_hash_measure_l0 p r e rest0 t6_0 t7_0 a0 a1 hp
  subst hp
  intro a2 k0 hd0
  refine RunsL.len_tmp 10 rfl fun hlenk0 => ?_
  refine RunsL.of_awp (js := []) T_ok ?_; conv => whnf
  have hls := intDs_i64_len a2
  cases rest0 with
  | nil =>
   have hk := drop_nil hd0
   refine ⟨⟨fun h => absurd h (by omega), fun _ => ?_⟩⟩; conv => whnf
   obtain ⟨v14, qv14, e⟩ := bnd e
   refine ⟨v14, sm qv14, ?_⟩; conv => whnf
   obtain ⟨v15, qv15, e⟩ := bnd e
   refine ⟨v15, sm qv15, ?_⟩; conv => whnf
   obtain rfl := sm e
   repeat' first | exact rfl | exact trivial | refine ⟨?_, ?_⟩
  | cons v13 rest0 =>
   obtain ⟨hxv13, hd0, hltv13⟩ := drop_head hd0
   refine ⟨⟨fun _ => ?_, fun h => absurd (by omega) h⟩⟩; conv => whnf
   refine ⟨k0, _, rfl, intDs_i64_get hxv13, ?_⟩; conv => whnf
   refine ⟨intDs_i64_fit _ rfl rfl, ?_⟩; conv => whnf
   obtain ⟨v14, qv14, e⟩ := bnd e
   obtain ⟨qv14k, qv14a, qv14b⟩ := geti_some qv14
   refine ⟨qv14k, _, qv14a, intDs_i64_get qv14b, ?_⟩; conv => whnf
   refine ⟨intDs_i64_fit _ rfl rfl, ?_⟩; conv => whnf
   obtain ⟨v15, qv15, e⟩ := bnd e
   refine ⟨v15, sm qv15, ?_⟩; conv => whnf
   obtain ⟨v16, qv16, e⟩ := bnd e
   obtain ⟨qv16k, qv16a, qv16b⟩ := geti_some qv16
   refine ⟨qv16k, _, qv16a, intDs_i64_get qv16b, ?_⟩; conv => whnf
   refine ⟨intDs_i64_fit _ rfl rfl, ?_⟩; conv => whnf
   refine ⟨((k0 + 1 : Nat) : Int), wrap64e (by omega) (by omega) (by omega), ?_⟩; conv => whnf
   refine (RunsL.weak ((ih_hash_measure_l0 _ _ e _ _ _ _ _ rfl) a2 (k0 + 1) hd0) ?_)
   repeat' first | exact wk.of_eq rfl | exact wk.pure rfl | exact wk.un _ | exact wk.hold _ _ _ | exact wk.holdG _ _ _ | exact rfl | exact trivial | refine ⟨?_, ?_⟩ | (refine wk.of_eq ?_; (conv => lhs; whnf); (simp [intDs_i64_all, listAll] <;> (repeat' first | rfl | apply And.intro)); done) | (refine wk.pure ?_; (conv => lhs; whnf); (simp [intDs_i64_all, listAll] <;> (repeat' first | rfl | apply And.intro)); done) | ((simp [intDs_i64_all, listAll] <;> (repeat' first | rfl | apply And.intro)); done) | (simp [intDs_i64_all, listAll]; omega)
theorem P_hash_measure_l0 {rest0 : (List Int)} {t6_0 : Int} {t7_0 : Int} {a0 : (List Int)} {a1 : (List Int)} {r : (Int × Int)} (e : hash_measure_l0 rest0 t6_0 t7_0 a0 a1 = some r) : M_hash_measure_l0 rest0 t6_0 t7_0 a0 a1 r := G_hash_measure_l0 _ _ e _ _ _ _ _ rfl
theorem P_hash_measure {a0 : (List Int)} {a1 : (List Int)} {a2 : (List Int)} {r : (Int × Int)} (e : hash_measure a0 a1 a2 = some r) : Pure Try.prog 48 [(.slice 1 (intDs_i64 a0)), (.slice 1 (intDs_i64 a1)), (.slice 1 (intDs_i64 a2))] (.tuple [(.int .i64 r.1), (.int .i64 r.2)]) := by
 unfold hash_measure at e
 refine pure_of_awp (js := []) T_ok Try.func48 rfl (by decide +kernel) rfl ?_; conv => whnf
 refine RunsL.runs (RunsL.weak ((P_hash_measure_l0 e) a2 0 (by simp)) ?_)
 repeat' first | exact wk.of_eq rfl | exact wk.pure rfl | exact wk.un _ | exact wk.hold _ _ _ | exact wk.holdG _ _ _ | exact rfl | exact trivial | refine ⟨?_, ?_⟩ | (refine wk.of_eq ?_; (conv => lhs; whnf); (simp [intDs_i64_all, listAll] <;> (repeat' first | rfl | apply And.intro)); done) | (refine wk.pure ?_; (conv => lhs; whnf); (simp [intDs_i64_all, listAll] <;> (repeat' first | rfl | apply And.intro)); done) | ((simp [intDs_i64_all, listAll] <;> (repeat' first | rfl | apply And.intro)); done) | (simp [intDs_i64_all, listAll]; omega)
theorem P_hash_keyType {a0 : YN} {r : HTK} (e : hash_keyType a0 = some r) : Pure Try.prog 39 [(YN.D a0)] (HTK.D r) := by
 unfold hash_keyType at e
 refine pure_of_awp (js := []) T_ok Try.func39 rfl (by decide +kernel) rfl ?_; conv => whnf
 refine draw_rule [] T_ok mixed hash_keyType_pl2 (by decide +kernel) ?_; conv => whnf
 refine ⟨⟨rfl, intDs_i64_agg _⟩, setBlkK_cs (cs' := [.d (.bool a0.var), .d (.str a0.name), .d (.int .i64 ((intDs_i64 a0.args).length : Int)), .d (.int .i64 (a0.args.getD 0 0)), .d (.int .i64 (a0.args.getD 1 0)), .d (.int .i64 (a0.args.getD 2 0)), .d (.int .i64 (a0.args.getD 3 0)), .d (.int .i64 (a0.args.getD 4 0)), .d (.int .i64 (a0.args.getD 5 0)), .d (.int .i64 (a0.args.getD 6 0)), .d (.int .i64 (a0.args.getD 7 0))]) (by simp only [intDs_i64_getD]) ?_⟩; conv => whnf
 obtain rfl := sm e
 repeat' first | exact rfl | exact trivial | refine ⟨_, rfl, ?_, ?_⟩ | refine ⟨?_, ?_⟩ | (simp [intDs_i64_all, YN.D, Arr8_i64.D, HTK.D, listAll] <;> (repeat' first | rfl | apply And.intro))
end Go.Proofs.Ytemfpemejagndaa.Fw


set_option maxHeartbeats 4000000
namespace Go.Proofs.Ytemfpemejagndaa.Fw
open Go Go.Proofs Go.RowKit
def M_hx_addTypes_o_io_l0 (rest0 : (List YN)) (k0 : Nat) (t5_0 : (List Int)) (t6_0 : (List Int)) (m3_0 : (List (HTK × Int))) (b0_0 : (List YN)) (b0_1 : (List XN)) (b4 : (List (HMK × Int))) (r : (Bool × (List YN) × (List XN) × (List (HTK × Int)) × (List (HMK × Int)))) : Prop := ∀ (a1 : (List YN)) (hd0 : rest0 = a1.drop k0), LoopAt T Try.prog Try.f35 ⟨[], 5⟩ [8] [1, 1, 0, 1, 0] (ES T Try.f35 5 (.d (.bool r.1)) ([.cells [.own 0 1 3 (YN.Ds r.2.1), .own 0 2 5 (XN.Ds r.2.2.1), .map 0 3, .map 0 4], .grow 3 (YN.Ds r.2.1).length, .grow 5 (XN.Ds r.2.2.1).length, .map (mapD HTK.D (D.int .i64) r.2.2.2.1), .map (mapD HMK.D (D.int .i64) r.2.2.2.2)])) [(0, .ptr 0 0 0), (5, .own 0 5 1 (intDs_i64 t5_0)), (6, .own 0 6 1 (intDs_i64 t6_0)), (14, .d (.os 3 (D.ageds (YN.Ds a1)))), (15, .d (.int .i64 ((YN.Ds a1).length : Int))), (16, .d (.int .i64 (k0 : Int)))] [[.cells [.own 0 1 3 (YN.Ds b0_0), .own 0 2 5 (XN.Ds b0_1), .map 0 3, .map 0 4], .grow 3 (YN.Ds b0_0).length, .grow 5 (XN.Ds b0_1).length, .map (mapD HTK.D (D.int .i64) m3_0), .map (mapD HMK.D (D.int .i64) b4), .grow 1 (intDs_i64 t5_0).length, .grow 1 (intDs_i64 t6_0).length]]
def M_hx_addTypes_o_io_j0 (b0_0 : (List YN)) (b0_1 : (List XN)) (b4 : (List (HMK × Int))) (k0 : Nat) (m3_0 : (List (HTK × Int))) (rest0 : (List YN)) (t5_0 : (List Int)) (t6_0 : (List Int)) (v24 : YN) (r : (Bool × (List YN) × (List XN) × (List (HTK × Int)) × (List (HMK × Int)))) : Prop := ∀ (a1 : (List YN)) (hxv24 : a1[k0]? = some v24) (hd0 : rest0 = a1.drop (k0 + 1)) (hltv24 : k0 < a1.length) (hlenk0 : (YN.Ds a1).length ≤ 9223372036854775807), JoinAt T Try.prog Try.f35 ⟨[], 5⟩ [8] [1, 1, 0, 1, 0, 0, 1, 1, 0, 0, 1, 1, 1, 0] (ES T Try.f35 5 (.d (.bool r.1)) ([.cells [.own 0 1 3 (YN.Ds r.2.1), .own 0 2 5 (XN.Ds r.2.2.1), .map 0 3, .map 0 4], .grow 3 (YN.Ds r.2.1).length, .grow 5 (XN.Ds r.2.2.1).length, .map (mapD HTK.D (D.int .i64) r.2.2.2.1), .map (mapD HMK.D (D.int .i64) r.2.2.2.2)])) [(0, .ptr 0 0 0), (5, .own 0 5 1 (intDs_i64 t5_0)), (6, .own 0 6 1 (intDs_i64 t6_0)), (7, .d (.int .i64 (k0 : Int))), (8, .ptr 0 7 0), (14, .d (.os 3 (D.ageds (YN.Ds a1)))), (15, .d (.int .i64 ((YN.Ds a1).length : Int))), (16, .d (.int .i64 (k0 : Int)))] [[.cells [.own 0 1 3 (YN.Ds b0_0), .own 0 2 5 (XN.Ds b0_1), .map 0 3, .map 0 4], .grow 3 (YN.Ds b0_0).length, .grow 5 (XN.Ds b0_1).length, .map (mapD HTK.D (D.int .i64) m3_0), .map (mapD HMK.D (D.int .i64) b4), .grow 1 (intDs_i64 t5_0).length, .grow 1 (intDs_i64 t6_0).length, .cells [.d (.bool v24.var), .d (.str v24.name), .d (.os 1 (D.ageds (intDs_i64 v24.args)))]]]
theorem G_hx_addTypes_o_io_l0 : (∀ p r, hx_addTypes_o_io_l0' p = some r → ∀ rest0 k0 t5_0 t6_0 m3_0 b0_0 b0_1 b4, (rest0, k0, t5_0, t6_0, m3_0, b0_0, b0_1, b4) = p → M_hx_addTypes_o_io_l0 rest0 k0 t5_0 t6_0 m3_0 b0_0 b0_1 b4 r) ∧
  (∀ p r, hx_addTypes_o_io_j0' p = some r → ∀ b0_0 b0_1 b4 k0 m3_0 rest0 t5_0 t6_0 v24, (b0_0, b0_1, b4, k0, m3_0, rest0, t5_0, t6_0, v24) = p → M_hx_addTypes_o_io_j0 b0_0 b0_1 b4 k0 m3_0 rest0 t5_0 t6_0 v24 r) := by
 refine hx_addTypes_o_io_l0'.mutual_partial_correctness (fun (p : ((List YN) × Nat × (List Int) × (List Int) × (List (HTK × Int)) × (List YN) × (List XN) × (List (HMK × Int)))) (r : (Bool × (List YN) × (List XN) × (List (HTK × Int)) × (List (HMK × Int)))) => ∀ (rest0 : (List YN)) (k0 : Nat) (t5_0 : (List Int)) (t6_0 : (List Int)) (m3_0 : (List (HTK × Int))) (b0_0 : (List YN)) (b0_1 : (List XN)) (b4 : (List (HMK × Int))), (rest0, k0, t5_0, t6_0, m3_0, b0_0, b0_1, b4) = p → M_hx_addTypes_o_io_l0 rest0 k0 t5_0 t6_0 m3_0 b0_0 b0_1 b4 r) (fun (p : ((List YN) × (List XN) × (List (HMK × Int)) × Nat × (List (HTK × Int)) × (List YN) × (List Int) × (List Int) × YN)) (r : (Bool × (List YN) × (List XN) × (List (HTK × Int)) × (List (HMK × Int)))) => ∀ (b0_0 : (List YN)) (b0_1 : (List XN)) (b4 : (List (HMK × Int))) (k0 : Nat) (m3_0 : (List (HTK × Int))) (rest0 : (List YN)) (t5_0 : (List Int)) (t6_0 : (List Int)) (v24 : YN), (b0_0, b0_1, b4, k0, m3_0, rest0, t5_0, t6_0, v24) = p → M_hx_addTypes_o_io_j0 b0_0 b0_1 b4 k0 m3_0 rest0 t5_0 t6_0 v24 r) ?_ ?_
 ·intro f_hx_addTypes_o_io_j0 ih_hx_addTypes_o_io_j0 p r e rest0 k0 t5_0 t6_0 m3_0 b0_0 b0_1 b4 hp
  subst hp
  intro a1 hd0
  refine RunsL.len_tmp 14 rfl fun hlenk0 => ?_
  rw [ageds_len] at hlenk0
  refine RunsL.of_awp (js := [8]) T_ok ?_; conv => whnf
  have hls := YN.Ds_len a1
  cases rest0 with
  | nil =>
   have hk := drop_nil hd0
   refine ⟨⟨fun h => absurd h (by omega), fun _ => ?_⟩⟩; conv => whnf
   obtain rfl := sm e
   refine ⟨[0, 1, 2, 3, 4], ⟨rfl, rfl, rfl⟩, rfl, ⟨⟨_, rfl, ⟨⟨?_, ?_, rfl, rfl, trivial⟩, rfl⟩⟩, ⟨_, rfl, ?_⟩, ⟨_, rfl, ?_⟩, ⟨_, rfl, rfl⟩, ⟨_, rfl, rfl⟩, trivial⟩⟩
   repeat' first | exact rfl | exact trivial | refine ⟨?_, ?_⟩ | (simp [YN.Ds_all, intDs_i64_all, YN.D, Arr8_i64.D, HTK.D, listAll, ageds_len, ageds_nil] <;> (repeat' first | rfl | apply And.intro); done)
  | cons v24 rest0 =>
   obtain ⟨hxv24, hd0, hltv24⟩ := drop_head hd0
   refine ⟨⟨fun _ => ?_, fun h => absurd (by omega) h⟩⟩; conv => whnf
   refine ⟨k0, _, rfl, ageds_get (YN.Ds_get hxv24), ?_⟩; conv => whnf
   refine ⟨ageds_fit (YN.Ds_fit _ rfl rfl), ?_⟩; conv => whnf
   try simp only [ageds_len]
   refine ⟨⟨fun h25 => ?_, fun h25 => ?_⟩⟩
   ·replace e := ifp (by first | exact h25 | omega | simpa [YN.Ds_all, intDs_i64_all, YN.D, Arr8_i64.D, HTK.D, listAll, ageds_len, ageds_nil] using h25) e; conv => whnf
    obtain rfl := sm e
    refine ⟨[0, 1, 2, 3, 4], ⟨rfl, rfl, rfl⟩, rfl, ⟨⟨_, rfl, ⟨⟨?_, ?_, rfl, rfl, trivial⟩, rfl⟩⟩, ⟨_, rfl, ?_⟩, ⟨_, rfl, ?_⟩, ⟨_, rfl, rfl⟩, ⟨_, rfl, rfl⟩, trivial⟩⟩
    repeat' first | exact rfl | exact trivial | refine ⟨?_, ?_⟩ | (simp [YN.Ds_all, intDs_i64_all, YN.D, Arr8_i64.D, HTK.D, listAll, ageds_len, ageds_nil] <;> (repeat' first | rfl | apply And.intro); done)
   ·replace e := ifn (by first | exact h25 | omega | simpa [YN.Ds_all, intDs_i64_all, YN.D, Arr8_i64.D, HTK.D, listAll, ageds_len, ageds_nil] using h25) e; conv => whnf
    refine brK.split (fun hb26 => ?_) (fun hb26 => ?_)
    ·replace e := ifpb hb26 e; conv => whnf
     refine brK.tt hb26 ?_; conv => whnf
     refine brK.tt hb26 ?_; conv => whnf
     try simp only [ageds_len]
     refine brK.tt hb26 ?_; conv => whnf
     refine ⟨⟨fun h27 => ?_, fun h27 => ?_⟩⟩
     ·replace e := ifp (by first | exact h27 | omega | simpa [YN.Ds_all, intDs_i64_all, YN.D, Arr8_i64.D, HTK.D, listAll, ageds_len, ageds_nil] using h27) e; conv => whnf
      refine brK.tt hb26 ?_; conv => whnf
      obtain rfl := sm e
      refine ⟨[0, 1, 2, 3, 4], ⟨rfl, rfl, rfl⟩, rfl, ⟨⟨_, rfl, ⟨⟨?_, ?_, rfl, rfl, trivial⟩, rfl⟩⟩, ⟨_, rfl, ?_⟩, ⟨_, rfl, ?_⟩, ⟨_, rfl, rfl⟩, ⟨_, rfl, rfl⟩, trivial⟩⟩
      repeat' first | exact rfl | exact trivial | refine ⟨?_, ?_⟩ | (simp [YN.Ds_all, intDs_i64_all, YN.D, Arr8_i64.D, HTK.D, listAll, ageds_len, ageds_nil] <;> (repeat' first | rfl | apply And.intro); done)
     ·replace e := ifn (by first | exact h27 | omega | simpa [YN.Ds_all, intDs_i64_all, YN.D, Arr8_i64.D, HTK.D, listAll, ageds_len, ageds_nil] using h27) e; conv => whnf
      refine brK.tt hb26 ?_; conv => whnf
      obtain ⟨v28, qv28, e⟩ := bnd e
      refine said_pure (P_types_Check qv28) rfl ?_; conv => whnf
      refine ⟨⟨fun h29 => ?_, fun h29 => ?_⟩⟩
      ·replace e := ifp h29 e; conv => whnf
       obtain rfl := sm e
       refine ⟨[0, 1, 2, 3, 4], ⟨rfl, rfl, rfl⟩, rfl, ⟨⟨_, rfl, ⟨⟨?_, ?_, rfl, rfl, trivial⟩, rfl⟩⟩, ⟨_, rfl, ?_⟩, ⟨_, rfl, ?_⟩, ⟨_, rfl, rfl⟩, ⟨_, rfl, rfl⟩, trivial⟩⟩
       repeat' first | exact rfl | exact trivial | refine ⟨?_, ?_⟩ | (simp [YN.Ds_all, intDs_i64_all, YN.D, Arr8_i64.D, HTK.D, listAll, ageds_len, ageds_nil] <;> (repeat' first | rfl | apply And.intro); done)
      ·replace e := ifn h29 e; conv => whnf
       obtain ⟨v30, qv30, e⟩ := bnd e
       refine said_aged (P_hash_below qv30) rfl ⟨.inr rfl, .inl rfl, trivial⟩ rfl ?_; conv => whnf
       refine brK.nsplit (fun hb31 => ?_) (fun hb31 => ?_)
       ·replace e := ifpb hb31 e; conv => whnf
        refine Runs.weak ((ih_hx_addTypes_o_io_j0 _ _ e _ _ _ _ _ _ _ _ _ rfl) a1 hxv24 hd0 hltv24 hlenk0) ?_
        repeat' first | exact wk.of_eq rfl | exact wk.pure rfl | exact wk.un _ | exact wk.hold _ _ _ | exact wk.holdG _ _ _ | exact rfl | exact trivial | refine ⟨?_, ?_⟩ | (refine wk.of_eq ?_; (conv => lhs; whnf); (simp [YN.Ds_all, intDs_i64_all, YN.D, Arr8_i64.D, HTK.D, listAll, ageds_len, ageds_nil] <;> (repeat' first | rfl | apply And.intro)); done) | (refine wk.pure ?_; (conv => lhs; whnf); (simp [YN.Ds_all, intDs_i64_all, YN.D, Arr8_i64.D, HTK.D, listAll, ageds_len, ageds_nil] <;> (repeat' first | rfl | apply And.intro)); done) | ((simp [YN.Ds_all, intDs_i64_all, YN.D, Arr8_i64.D, HTK.D, listAll, ageds_len, ageds_nil] <;> (repeat' first | rfl | apply And.intro)); done) | (simp [YN.Ds_all, intDs_i64_all, YN.D, Arr8_i64.D, HTK.D, listAll, ageds_len, ageds_nil]; omega)
       ·replace e := ifnb hb31 e; conv => whnf
        obtain rfl := sm e
        refine ⟨[0, 1, 2, 3, 4], ⟨rfl, rfl, rfl⟩, rfl, ⟨⟨_, rfl, ⟨⟨?_, ?_, rfl, rfl, trivial⟩, rfl⟩⟩, ⟨_, rfl, ?_⟩, ⟨_, rfl, ?_⟩, ⟨_, rfl, rfl⟩, ⟨_, rfl, rfl⟩, trivial⟩⟩
        repeat' first | exact rfl | exact trivial | refine ⟨?_, ?_⟩ | (simp [YN.Ds_all, intDs_i64_all, YN.D, Arr8_i64.D, HTK.D, listAll, ageds_len, ageds_nil] <;> (repeat' first | rfl | apply And.intro); done)
    ·replace e := ifnb hb26 e; conv => whnf
     refine brK.ff hb26 ?_; conv => whnf
     refine brK.ff hb26 ?_; conv => whnf
     refine brK.ff hb26 ?_; conv => whnf
     refine brK.ff hb26 ?_; conv => whnf
     obtain ⟨v27, qv27, e⟩ := bnd e
     refine said_pure (P_types_Check qv27) rfl ?_; conv => whnf
     refine ⟨⟨fun h28 => ?_, fun h28 => ?_⟩⟩
     ·replace e := ifp h28 e; conv => whnf
      obtain rfl := sm e
      refine ⟨[0, 1, 2, 3, 4], ⟨rfl, rfl, rfl⟩, rfl, ⟨⟨_, rfl, ⟨⟨?_, ?_, rfl, rfl, trivial⟩, rfl⟩⟩, ⟨_, rfl, ?_⟩, ⟨_, rfl, ?_⟩, ⟨_, rfl, rfl⟩, ⟨_, rfl, rfl⟩, trivial⟩⟩
      repeat' first | exact rfl | exact trivial | refine ⟨?_, ?_⟩ | (simp [YN.Ds_all, intDs_i64_all, YN.D, Arr8_i64.D, HTK.D, listAll, ageds_len, ageds_nil] <;> (repeat' first | rfl | apply And.intro); done)
     ·replace e := ifn h28 e; conv => whnf
      obtain ⟨v29, qv29, e⟩ := bnd e
      refine said_aged (P_hash_below qv29) rfl ⟨.inr rfl, .inl rfl, trivial⟩ rfl ?_; conv => whnf
      refine brK.nsplit (fun hb30 => ?_) (fun hb30 => ?_)
      ·replace e := ifpb hb30 e; conv => whnf
       refine Runs.weak ((ih_hx_addTypes_o_io_j0 _ _ e _ _ _ _ _ _ _ _ _ rfl) a1 hxv24 hd0 hltv24 hlenk0) ?_
       repeat' first | exact wk.of_eq rfl | exact wk.pure rfl | exact wk.un _ | exact wk.hold _ _ _ | exact wk.holdG _ _ _ | exact rfl | exact trivial | refine ⟨?_, ?_⟩ | (refine wk.of_eq ?_; (conv => lhs; whnf); (simp [YN.Ds_all, intDs_i64_all, YN.D, Arr8_i64.D, HTK.D, listAll, ageds_len, ageds_nil] <;> (repeat' first | rfl | apply And.intro)); done) | (refine wk.pure ?_; (conv => lhs; whnf); (simp [YN.Ds_all, intDs_i64_all, YN.D, Arr8_i64.D, HTK.D, listAll, ageds_len, ageds_nil] <;> (repeat' first | rfl | apply And.intro)); done) | ((simp [YN.Ds_all, intDs_i64_all, YN.D, Arr8_i64.D, HTK.D, listAll, ageds_len, ageds_nil] <;> (repeat' first | rfl | apply And.intro)); done) | (simp [YN.Ds_all, intDs_i64_all, YN.D, Arr8_i64.D, HTK.D, listAll, ageds_len, ageds_nil]; omega)
      ·replace e := ifnb hb30 e; conv => whnf
       obtain rfl := sm e
       refine ⟨[0, 1, 2, 3, 4], ⟨rfl, rfl, rfl⟩, rfl, ⟨⟨_, rfl, ⟨⟨?_, ?_, rfl, rfl, trivial⟩, rfl⟩⟩, ⟨_, rfl, ?_⟩, ⟨_, rfl, ?_⟩, ⟨_, rfl, rfl⟩, ⟨_, rfl, rfl⟩, trivial⟩⟩
       repeat' first | exact rfl | exact trivial | refine ⟨?_, ?_⟩ | (simp [YN.Ds_all, intDs_i64_all, YN.D, Arr8_i64.D, HTK.D, listAll, ageds_len, ageds_nil] <;> (repeat' first | rfl | apply And.intro); done)
 ·intro f_hx_addTypes_o_io_l0 ih_hx_addTypes_o_io_l0 p r e b0_0 b0_1 b4 k0 m3_0 rest0 t5_0 t6_0 v24 hp
  subst hp
  intro a1 hxv24 hd0 hltv24 hlenk0
  have hlsv24 := YN.Ds_len a1
  refine Runs.enter T_ok ?_; conv => whnf
  obtain ⟨v32, qv32, e⟩ := bnd e
  refine said_aged (P_hash_measure qv32) rfl ⟨.inl (by first | rfl | (simp [YN.Ds_all, intDs_i64_all, YN.D, Arr8_i64.D, HTK.D, listAll, ageds_len, ageds_nil] <;> (repeat' first | rfl | apply And.intro))), .inl (by first | rfl | (simp [YN.Ds_all, intDs_i64_all, YN.D, Arr8_i64.D, HTK.D, listAll, ageds_len, ageds_nil] <;> (repeat' first | rfl | apply And.intro))), .inr rfl, trivial⟩ rfl ?_; conv => whnf
  refine ⟨⟨fun h33 => ?_, fun h33 => ?_⟩⟩
  ·replace e := ifp h33 e; conv => whnf
   obtain rfl := sm e
   refine ⟨[0, 1, 2, 3, 4], ⟨rfl, rfl, rfl⟩, rfl, ⟨⟨_, rfl, ⟨⟨?_, ?_, rfl, rfl, trivial⟩, rfl⟩⟩, ⟨_, rfl, ?_⟩, ⟨_, rfl, ?_⟩, ⟨_, rfl, rfl⟩, ⟨_, rfl, rfl⟩, trivial⟩⟩
   repeat' first | exact rfl | exact trivial | refine ⟨?_, ?_⟩ | (simp [YN.Ds_all, intDs_i64_all, YN.D, Arr8_i64.D, HTK.D, listAll, ageds_len, ageds_nil] <;> (repeat' first | rfl | apply And.intro); done)
  ·replace e := ifn h33 e; conv => whnf
   refine ⟨⟨fun h34 => ?_, fun h34 => ?_⟩⟩
   ·replace e := ifp h34 e; conv => whnf
    obtain rfl := sm e
    refine ⟨[0, 1, 2, 3, 4], ⟨rfl, rfl, rfl⟩, rfl, ⟨⟨_, rfl, ⟨⟨?_, ?_, rfl, rfl, trivial⟩, rfl⟩⟩, ⟨_, rfl, ?_⟩, ⟨_, rfl, ?_⟩, ⟨_, rfl, rfl⟩, ⟨_, rfl, rfl⟩, trivial⟩⟩
    repeat' first | exact rfl | exact trivial | refine ⟨?_, ?_⟩ | (simp [YN.Ds_all, intDs_i64_all, YN.D, Arr8_i64.D, HTK.D, listAll, ageds_len, ageds_nil] <;> (repeat' first | rfl | apply And.intro); done)
   ·replace e := ifn h34 e; conv => whnf
    refine ⟨⟨⟨rfl, rfl⟩, trivial⟩, ?_⟩; conv => whnf
    obtain ⟨v35, qv35, e⟩ := bnd e
    obtain ⟨qv35l, qv35e⟩ := app_some qv35
    refine ⟨(by first | exact qv35l | simpa [YN.Ds_all, intDs_i64_all, YN.D, Arr8_i64.D, HTK.D, listAll, ageds_len, ageds_nil] using qv35l), rfl, (by first | rfl | simp [YN.Ds_all, intDs_i64_all, YN.D, Arr8_i64.D, HTK.D, listAll, ageds_len, ageds_nil]), ?_⟩; conv => whnf
    refine ⟨⟨⟨rfl, rfl⟩, trivial⟩, ?_⟩; conv => whnf
    obtain ⟨v36, qv36, e⟩ := bnd e
    obtain ⟨qv36l, qv36e⟩ := app_some qv36
    refine ⟨(by first | exact qv36l | simpa [YN.Ds_all, intDs_i64_all, YN.D, Arr8_i64.D, HTK.D, listAll, ageds_len, ageds_nil] using qv36l | simpa [YN.Ds_all, intDs_i64_all, YN.D, Arr8_i64.D, HTK.D, listAll, ageds_len, ageds_nil, qv35e] using qv36l), rfl, (by first | rfl | simp [YN.Ds_all, intDs_i64_all, YN.D, Arr8_i64.D, HTK.D, listAll, ageds_len, ageds_nil]), ?_⟩; conv => whnf
    refine draw_rule [] T_ok mixed hx_addTypes_o_io_pl12 (by decide +kernel) ?_; conv => whnf
    obtain ⟨v37, qv37, e⟩ := bnd e
    refine said_aged (P_hash_keyType qv37) rfl ⟨.inr rfl, trivial⟩ rfl ⟨Keeps.refl _ _, ?_⟩; conv => whnf
    refine mlook_of KF_85 (fun v38 hv38 => ?_) (fun hv38 => ?_)
    ·rw [hv38] at e; conv => whnf
     obtain rfl := sm e
     refine ⟨[0, 1, 2, 3, 4], ⟨rfl, rfl, rfl⟩, rfl, ⟨⟨_, rfl, ⟨⟨?_, ?_, rfl, rfl, trivial⟩, rfl⟩⟩, ⟨_, rfl, ?_⟩, ⟨_, rfl, ?_⟩, ⟨_, rfl, rfl⟩, ⟨_, rfl, rfl⟩, trivial⟩⟩
     repeat' first | exact rfl | exact trivial | refine ⟨?_, ?_⟩ | (simp [YN.Ds_all, intDs_i64_all, YN.D, Arr8_i64.D, HTK.D, listAll, ageds_len, ageds_nil, qv35e, qv36e] <;> (repeat' first | rfl | apply And.intro); done)
    ·rw [hv38] at e; conv => whnf
     refine draw_rule [] T_ok mixed hx_addTypes_o_io_pl15 (by decide +kernel) ?_; conv => whnf
     obtain ⟨v39, qv39, e⟩ := bnd e
     refine said_aged (P_hash_keyType qv39) rfl ⟨.inr rfl, trivial⟩ rfl ⟨Keeps.refl _ _, ?_⟩; conv => whnf
     obtain ⟨v40, qv40, e⟩ := bnd e
     refine mupd_of KF_85 (sm qv40) ?_; conv => whnf
     refine ⟨((k0 + 1 : Nat) : Int), wrap64e (by omega) (by omega) (by omega), ?_⟩; conv => whnf
     refine (RunsL.weak ((ih_hx_addTypes_o_io_l0 _ _ e _ _ _ _ _ _ _ _ rfl) a1 hd0) ?_)
     repeat' first | exact wk.of_eq rfl | exact wk.pure rfl | exact wk.un _ | exact wk.hold _ _ _ | exact wk.holdG _ _ _ | exact rfl | exact trivial | refine ⟨?_, ?_⟩ | (refine wk.of_eq ?_; (conv => lhs; whnf); (simp [YN.Ds_all, intDs_i64_all, YN.D, Arr8_i64.D, HTK.D, listAll, ageds_len, ageds_nil, qv35e, qv36e] <;> (repeat' first | rfl | apply And.intro)); done) | (refine wk.pure ?_; (conv => lhs; whnf); (simp [YN.Ds_all, intDs_i64_all, YN.D, Arr8_i64.D, HTK.D, listAll, ageds_len, ageds_nil, qv35e, qv36e] <;> (repeat' first | rfl | apply And.intro)); done) | ((simp [YN.Ds_all, intDs_i64_all, YN.D, Arr8_i64.D, HTK.D, listAll, ageds_len, ageds_nil, qv35e, qv36e] <;> (repeat' first | rfl | apply And.intro)); done) | (simp [YN.Ds_all, intDs_i64_all, YN.D, Arr8_i64.D, HTK.D, listAll, ageds_len, ageds_nil, qv35e, qv36e]; omega)
theorem P_hx_addTypes_o_io_l0 {rest0 : (List YN)} {k0 : Nat} {t5_0 : (List Int)} {t6_0 : (List Int)} {m3_0 : (List (HTK × Int))} {b0_0 : (List YN)} {b0_1 : (List XN)} {b4 : (List (HMK × Int))} {r : (Bool × (List YN) × (List XN) × (List (HTK × Int)) × (List (HMK × Int)))} (e : hx_addTypes_o_io_l0 rest0 k0 t5_0 t6_0 m3_0 b0_0 b0_1 b4 = some r) : M_hx_addTypes_o_io_l0 rest0 k0 t5_0 t6_0 m3_0 b0_0 b0_1 b4 r := G_hx_addTypes_o_io_l0.1 _ _ e _ _ _ _ _ _ _ _ rfl
theorem P_hx_addTypes_o_io {a1 : (List YN)} {b0_0 : (List YN)} {b0_1 : (List XN)} {b3 : (List (HTK × Int))} {b4 : (List (HMK × Int))} {r : (Bool × (List YN) × (List XN) × (List (HTK × Int)) × (List (HMK × Int)))} (e : hx_addTypes_o_io a1 b0_0 b0_1 b3 b4 = some r) : IoR Try.prog 35 [.ptr 0 0 0, .d (.os 3 (D.ageds (YN.Ds a1)))] [.cells [.own 0 1 3 (YN.Ds b0_0), .own 0 2 5 (XN.Ds b0_1), .map 0 3, .map 0 4], .grow 3 (YN.Ds b0_0).length, .grow 5 (XN.Ds b0_1).length, .map (mapD HTK.D (D.int .i64) b3), .map (mapD HMK.D (D.int .i64) b4)] (.d (.bool r.1)) ([.cells [.own 0 1 3 (YN.Ds r.2.1), .own 0 2 5 (XN.Ds r.2.2.1), .map 0 3, .map 0 4], .grow 3 (YN.Ds r.2.1).length, .grow 5 (XN.Ds r.2.2.1).length, .map (mapD HTK.D (D.int .i64) r.2.2.2.1), .map (mapD HMK.D (D.int .i64) r.2.2.2.2)]) := by
 unfold hx_addTypes_o_io at e
 refine io_of_awp2 (js := [8]) T_ok Try.func35 rfl (by decide +kernel) rfl ?_; conv => whnf
 try simp only [ageds_len]
 refine Runs.hold 1 ?_
 refine Runs.hold 1 ?_
 refine RunsL.runs (RunsL.weak ((P_hx_addTypes_o_io_l0 e) a1 (by simp)) ?_)
 repeat' first | exact wk.of_eq rfl | exact wk.pure rfl | exact wk.un _ | exact wk.hold _ _ _ | exact wk.holdG _ _ _ | exact rfl | exact trivial | refine ⟨?_, ?_⟩ | (refine wk.of_eq ?_; (conv => lhs; whnf); (simp [YN.Ds_all, intDs_i64_all, YN.D, Arr8_i64.D, HTK.D, listAll, ageds_len, ageds_nil] <;> (repeat' first | rfl | apply And.intro)); done) | (refine wk.pure ?_; (conv => lhs; whnf); (simp [YN.Ds_all, intDs_i64_all, YN.D, Arr8_i64.D, HTK.D, listAll, ageds_len, ageds_nil] <;> (repeat' first | rfl | apply And.intro)); done) | ((simp [YN.Ds_all, intDs_i64_all, YN.D, Arr8_i64.D, HTK.D, listAll, ageds_len, ageds_nil] <;> (repeat' first | rfl | apply And.intro)); done) | (simp [YN.Ds_all, intDs_i64_all, YN.D, Arr8_i64.D, HTK.D, listAll, ageds_len, ageds_nil]; omega)
theorem P_types_Bool {r : Ty} (e : types_Bool = some r) : Pure Try.prog 50 [] (Ty.D r) := by
 unfold types_Bool at e
 refine pure_of_awp (js := []) T_ok Try.func50 rfl (by decide +kernel) rfl ?_; conv => whnf
 obtain rfl := sm e
 repeat' first | exact rfl | exact trivial | refine ⟨?_, ?_⟩
theorem P_terms_named {a0 : ByteArray} {r : Bool} (e : terms_named a0 = some r) : Pure Try.prog 73 [(.str a0)] (.bool r) := by
 unfold terms_named at e
 refine pure_of_awp (js := []) T_ok Try.func73 rfl (by decide +kernel) rfl ?_; conv => whnf
 obtain ⟨v1, qv1, e⟩ := bnd e
 refine said_pure (P_types_Check qv1) rfl ?_; conv => whnf
 refine test.dec ?_; conv => whnf
 obtain rfl := sm e
 repeat' first | exact rfl | exact trivial | refine ⟨?_, ?_⟩
end Go.Proofs.Ytemfpemejagndaa.Fw


set_option maxHeartbeats 4000000
namespace Go.Proofs.Ytemfpemejagndaa.Fw
open Go Go.Proofs Go.RowKit
def M_types_Twin (a0 : Ty) (r : Ty) : Prop := Pure Try.prog 78 [(Ty.D a0)] (Ty.D r)
def M_types_Twin_j0 (a0 : Ty) (v2 : (List Ty)) (r : Ty) : Prop := ∀ (nv2 : Nat) (hlv2 : v2.length = nv2), JoinAt T Try.prog Try.f78 Fx0 [5] [1, 1, 1, 1, 0, 0] (EP T Try.f78 (Ty.D r)) [(1, .ptr 0 0 0), (2, .ptr 0 1 0), (3, .d (.slice 3 (Ty.Ds a0.args)))] [[.cells [.d (.bool a0.v), .d (.str a0.name), .arr 0 2 0 nv2 3], .cells [.d (.bool false), .d (.str ByteArray.empty), .nil 3], .arr 3 (Ty.Ds v2)]]
def M_types_Twin_l0 (t18_0 : Int) (a2_0 : (List Ty)) (a0 : Ty) (r : Ty) : Prop := ∀ (nv2 : Nat) (hla2_0 : a2_0.length = nv2), LoopAt T Try.prog Try.f78 Fx0 [5] [1, 1, 1, 1, 0, 1, 0] (EP T Try.f78 (Ty.D r)) [(1, .ptr 0 0 0), (2, .ptr 0 1 0), (16, .d (.slice 3 (Ty.Ds a0.args))), (17, .d (.int .i64 ((Ty.Ds a0.args).length : Int))), (18, .d (.int .i64 t18_0))] [[.cells [.d (.bool a0.v), .d (.str a0.name), .arr 0 2 0 nv2 3], .cells [.d (.bool false), .d (.str ByteArray.empty), .nil 3], .arr 3 (Ty.Ds a2_0)]]
def M_types_Twin_j0b (a0 : Ty) (r : Ty) : Prop := JoinAt T Try.prog Try.f78 Fx0 [5] [1, 1, 1, 1, 0, 0] (EP T Try.f78 (Ty.D r)) [(1, .ptr 0 0 0), (2, .ptr 0 1 0), (3, .d (.slice 3 (Ty.Ds a0.args)))] [[.cells [.d (.bool a0.v), .d (.str a0.name), .nil 3], .cells [.d (.bool false), .d (.str ByteArray.empty), .nil 3]]]
def M_types_Twin_l0b (a0 : Ty) (r : Ty) : Prop := LoopAt T Try.prog Try.f78 Fx0 [5] [1, 1, 1, 1, 0, 1, 0] (EP T Try.f78 (Ty.D r)) [(1, .ptr 0 0 0), (2, .ptr 0 1 0), (16, .d (.slice 3 (Ty.Ds a0.args))), (17, .d (.int .i64 ((Ty.Ds a0.args).length : Int))), (18, .d (.int .i64 0))] [[.cells [.d (.bool a0.v), .d (.str a0.name), .nil 3], .cells [.d (.bool false), .d (.str ByteArray.empty), .nil 3]]]
theorem G_types_Twin : (∀ p r, types_Twin' p = some r → ∀ a0, a0 = p → M_types_Twin a0 r) ∧
  (∀ p r, types_Twin_j0b' p = some r → ∀ a0, a0 = p → M_types_Twin_j0b a0 r) ∧
  (∀ p r, types_Twin_l0b' p = some r → ∀ a0, a0 = p → M_types_Twin_l0b a0 r) ∧
  (∀ p r, types_Twin_j0' p = some r → ∀ a0 v2, (a0, v2) = p → M_types_Twin_j0 a0 v2 r) ∧
  (∀ p r, types_Twin_l0' p = some r → ∀ t18_0 a2_0 a0, (t18_0, a2_0, a0) = p → M_types_Twin_l0 t18_0 a2_0 a0 r) := by
 refine types_Twin'.mutual_partial_correctness (fun (p : Ty) (r : Ty) => ∀ (a0 : Ty), a0 = p → M_types_Twin a0 r) (fun (p : Ty) (r : Ty) => ∀ (a0 : Ty), a0 = p → M_types_Twin_j0b a0 r) (fun (p : Ty) (r : Ty) => ∀ (a0 : Ty), a0 = p → M_types_Twin_l0b a0 r) (fun (p : (Ty × (List Ty))) (r : Ty) => ∀ (a0 : Ty) (v2 : (List Ty)), (a0, v2) = p → M_types_Twin_j0 a0 v2 r) (fun (p : (Int × (List Ty) × Ty)) (r : Ty) => ∀ (t18_0 : Int) (a2_0 : (List Ty)) (a0 : Ty), (t18_0, a2_0, a0) = p → M_types_Twin_l0 t18_0 a2_0 a0 r) ?_ ?_ ?_ ?_ ?_
 ·intro f_types_Twin_j0b f_types_Twin_j0 ih_types_Twin_j0b ih_types_Twin_j0 p r e a0 hp
  subst hp
  refine pure_of_awp (js := [5]) T_ok Try.func78 rfl (by decide +kernel) rfl ?_; conv => whnf
  refine ⟨⟨fun h1 => ?_, fun h1 => ?_⟩⟩
  ·replace e := ifp (by first | exact h1 | omega | simpa [Ty.Ds_all, Ty.D, listAll] using h1) e; conv => whnf
   obtain ⟨v2, qv2, e⟩ := bnd e
   obtain ⟨nv2, qv2a, qv2b, qv2c⟩ := mkn_some qv2
   have hlv2 : v2.length = nv2 := by rw [qv2c]; simp
   refine ⟨nv2, nv2, congrArg (fun z => AV.d (D.int .i64 z)) qv2a, congrArg (fun z => AV.d (D.int .i64 z)) qv2a, Nat.le_refl _, qv2b, .inr (.inl ⟨rfl, ?_⟩)⟩; conv => whnf
   refine Runs.weak ((ih_types_Twin_j0 _ _ e _ _ rfl) nv2 hlv2) ?_
   repeat' first | exact wk.of_eq rfl | exact wk.pure rfl | exact wk.un _ | exact wk.hold _ _ _ | exact wk.holdG _ _ _ | exact rfl | exact trivial | refine ⟨?_, ?_⟩ | (refine wk.of_eq ?_; (conv => lhs; whnf); (simp [Ty.Ds_all, Ty.D, listAll, qv2c, hlv2] <;> (repeat' first | rfl | apply And.intro)); done) | (refine wk.pure ?_; (conv => lhs; whnf); (simp [Ty.Ds_all, Ty.D, listAll, qv2c, hlv2] <;> (repeat' first | rfl | apply And.intro)); done) | ((simp [Ty.Ds_all, Ty.D, listAll, qv2c, hlv2] <;> (repeat' first | rfl | apply And.intro)); done) | (simp [Ty.Ds_all, Ty.D, listAll, qv2c, hlv2]; omega)
  ·replace e := ifn (by first | exact h1 | omega | simpa [Ty.Ds_all, Ty.D, listAll] using h1) e; conv => whnf
   refine Runs.weak (ih_types_Twin_j0b _ _ e _ rfl) ?_
   repeat' first | exact wk.of_eq rfl | exact wk.pure rfl | exact wk.un _ | exact wk.hold _ _ _ | exact wk.holdG _ _ _ | exact rfl | exact trivial | refine ⟨?_, ?_⟩
 ·intro f_types_Twin_l0b ih_types_Twin_l0b p r e a0 hp
  subst hp
  refine Runs.enter T_ok ?_; conv => whnf
  refine RunsL.runs (RunsL.weak (ih_types_Twin_l0b _ _ e _ rfl) ?_)
  repeat' first | exact wk.of_eq rfl | exact wk.pure rfl | exact wk.un _ | exact wk.hold _ _ _ | exact wk.holdG _ _ _ | exact rfl | exact trivial | refine ⟨?_, ?_⟩ | (refine wk.of_eq ?_; (conv => lhs; whnf); (simp [Ty.Ds_all, Ty.D, listAll] <;> (repeat' first | rfl | apply And.intro)); done) | (refine wk.pure ?_; (conv => lhs; whnf); (simp [Ty.Ds_all, Ty.D, listAll] <;> (repeat' first | rfl | apply And.intro)); done) | ((simp [Ty.Ds_all, Ty.D, listAll] <;> (repeat' first | rfl | apply And.intro)); done) | (simp [Ty.Ds_all, Ty.D, listAll]; omega)
 ·intro f_types_Twin ih_types_Twin p r e a0 hp
  subst hp
  refine RunsL.of_awp (js := [5]) T_ok ?_; conv => whnf
  refine ⟨⟨fun h19 => ?_, fun h19 => ?_⟩⟩
  ·replace e := ifp (by first | exact h19 | omega | simpa [Ty.Ds_all, Ty.D, listAll] using h19) e; conv => whnf
   obtain ⟨v20, qv20, e⟩ := bnd e
   obtain ⟨qv20k, qv20a, qv20b⟩ := geti_some qv20
   refine ⟨qv20k, _, qv20a, Ty.Ds_get qv20b, ?_⟩; conv => whnf
   refine ⟨Ty.Ds_fit _ rfl rfl, ?_⟩; conv => whnf
   refine draw_rule [] T_ok mixed types_Twin_pl8 (by decide +kernel) ?_; conv => whnf
   obtain ⟨v21, qv21, e⟩ := bnd e
   refine said_pure (ih_types_Twin _ _ qv21 _ rfl) rfl ⟨Keeps.refl _ _, ?_⟩; conv => whnf
   cases e
  ·replace e := ifn (by first | exact h19 | omega | simpa [Ty.Ds_all, Ty.D, listAll] using h19) e; conv => whnf
   obtain rfl := sm e
   repeat' first | exact rfl | exact trivial | refine ⟨?_, ?_⟩
 ·intro f_types_Twin_l0 ih_types_Twin_l0 p r e a0 v2 hp
  subst hp
  intro nv2 hlv2
  refine Runs.enter T_ok ?_; conv => whnf
  refine RunsL.runs (RunsL.weak ((ih_types_Twin_l0 _ _ e _ _ _ rfl) nv2 hlv2) ?_)
  repeat' first | exact wk.of_eq rfl | exact wk.pure rfl | exact wk.un _ | exact wk.hold _ _ _ | exact wk.holdG _ _ _ | exact rfl | exact trivial | refine ⟨?_, ?_⟩ | (refine wk.of_eq ?_; (conv => lhs; whnf); (simp [Ty.Ds_all, Ty.D, listAll, hlv2] <;> (repeat' first | rfl | apply And.intro)); done) | (refine wk.pure ?_; (conv => lhs; whnf); (simp [Ty.Ds_all, Ty.D, listAll, hlv2] <;> (repeat' first | rfl | apply And.intro)); done) | ((simp [Ty.Ds_all, Ty.D, listAll, hlv2] <;> (repeat' first | rfl | apply And.intro)); done) | (simp [Ty.Ds_all, Ty.D, listAll, hlv2]; omega)
 ·intro f_types_Twin f_types_Twin_l0 ih_types_Twin ih_types_Twin_l0 p r e t18_0 a2_0 a0 hp
  subst hp
  intro nv2 hla2_0
  refine RunsL.of_awp (js := [5]) T_ok ?_; conv => whnf
  refine ⟨⟨fun h19 => ?_, fun h19 => ?_⟩⟩
  ·replace e := ifp (by first | exact h19 | omega | simpa [Ty.Ds_all, Ty.D, listAll] using h19) e; conv => whnf
   obtain ⟨v20, qv20, e⟩ := bnd e
   obtain ⟨qv20k, qv20a, qv20b⟩ := geti_some qv20
   refine ⟨qv20k, _, qv20a, Ty.Ds_get qv20b, ?_⟩; conv => whnf
   refine ⟨Ty.Ds_fit _ rfl rfl, ?_⟩; conv => whnf
   refine draw_rule [] T_ok mixed types_Twin_pl8 (by decide +kernel) ?_; conv => whnf
   obtain ⟨v21, qv21, e⟩ := bnd e
   refine said_pure (ih_types_Twin _ _ qv21 _ rfl) rfl ⟨Keeps.refl _ _, ?_⟩; conv => whnf
   obtain ⟨g23, qg23, e⟩ := bnd e
   obtain ⟨k22, k22a⟩ : ∃ k22 : Nat, t18_0 = k22 := ⟨(t18_0).toNat, by have := wantb_some qg23; omega⟩
   refine ⟨k22, k22a, by have := wantb_some qg23; omega, ?_⟩; simp only [Nat.zero_add]; conv => whnf
   obtain ⟨v24, qv24, e⟩ := bnd e
   obtain ⟨qv24k, qv24a, qv24b, qv24c⟩ := seti_some qv24
   obtain rfl : k22 = qv24k := by omega
   have hlv24 : v24.length = nv2 := by rw [qv24c]; simp [hla2_0]
   refine .inl ⟨rfl, (by first | exact qv24b | simpa [Ty.Ds_all, Ty.D, listAll, hla2_0] using qv24b), Ty.Ds_fit _ rfl rfl, rfl, ?_⟩
   (conv => whnf)
   obtain ⟨v25, qv25, e⟩ := bnd e
   refine ⟨v25, sm qv25, ?_⟩; conv => whnf
   refine (RunsL.weak ((ih_types_Twin_l0 _ _ e _ _ _ rfl) nv2 hlv24) ?_)
   repeat' first | exact wk.of_eq rfl | exact wk.pure rfl | exact wk.un _ | exact wk.hold _ _ _ | exact wk.holdG _ _ _ | exact rfl | exact trivial | refine ⟨?_, ?_⟩ | (refine wk.of_eq ?_; (conv => lhs; whnf); (simp [Ty.Ds_all, Ty.D, listAll, qv24c, hlv24] <;> (repeat' first | rfl | apply And.intro)); done) | (refine wk.pure ?_; (conv => lhs; whnf); (simp [Ty.Ds_all, Ty.D, listAll, qv24c, hlv24] <;> (repeat' first | rfl | apply And.intro)); done) | ((simp [Ty.Ds_all, Ty.D, listAll, qv24c, hlv24] <;> (repeat' first | rfl | apply And.intro)); done) | (simp [Ty.Ds_all, Ty.D, listAll, qv24c, hlv24]; omega)
  ·replace e := ifn (by first | exact h19 | omega | simpa [Ty.Ds_all, Ty.D, listAll] using h19) e; conv => whnf
   obtain rfl := sm e
   repeat' first | exact rfl | exact trivial | refine ⟨_, rfl, ?_, ?_⟩ | refine ⟨?_, ?_⟩ | (simp [Ty.Ds_all, Ty.D, listAll, hla2_0] <;> (repeat' first | rfl | apply And.intro))
theorem P_types_Twin {a0 : Ty} {r : Ty} (e : types_Twin a0 = some r) : M_types_Twin a0 r := G_types_Twin.1 _ _ e _ rfl
theorem P_terms_leaf {a0 : Int} {a1 : ByteArray} {a2 : Ty} {r : (Tm × Int)} (e : terms_leaf a0 a1 a2 = some r) : Pure Try.prog 65 [(.int .u8 a0), (.str a1), (Ty.D a2)] (.tuple [(Tm.D r.1), (.int .i64 r.2)]) := by
 unfold terms_leaf at e
 refine pure_of_awp (js := []) T_ok Try.func65 rfl (by decide +kernel) rfl ?_; conv => whnf
 obtain ⟨v1, qv1, e⟩ := bnd e
 refine said_pure (P_types_Check qv1) rfl ?_; conv => whnf
 refine ⟨⟨fun h2 => ?_, fun h2 => ?_⟩⟩
 ·replace e := ifp h2 e; conv => whnf
  obtain rfl := sm e
  repeat' first | exact rfl | exact trivial | refine ⟨?_, ?_⟩
 ·replace e := ifn h2 e; conv => whnf
  obtain ⟨v3, qv3, e⟩ := bnd e
  refine said_pure (P_terms_named qv3) rfl ?_; conv => whnf
  refine brK.nsplit (fun hb4 => ?_) (fun hb4 => ?_)
  ·replace e := ifpb hb4 e; conv => whnf
   obtain ⟨v5, qv5, e⟩ := bnd e
   refine said_pure (P_types_Twin qv5) rfl ?_; conv => whnf
   obtain rfl := sm e
   repeat' first | exact rfl | exact trivial | refine ⟨?_, ?_⟩
  ·replace e := ifnb hb4 e; conv => whnf
   obtain rfl := sm e
   repeat' first | exact rfl | exact trivial | refine ⟨?_, ?_⟩
theorem P_terms_Var {a0 : ByteArray} {a1 : Ty} {r : (Tm × Int)} (e : terms_Var a0 a1 = some r) : Pure Try.prog 49 [(.str a0), (Ty.D a1)] (.tuple [(Tm.D r.1), (.int .i64 r.2)]) := by
 unfold terms_Var at e
 refine pure_of_awp (js := []) T_ok Try.func49 rfl (by decide +kernel) rfl ?_; conv => whnf
 obtain ⟨v1, qv1, e⟩ := bnd e
 refine said_pure (P_terms_leaf qv1) rfl ?_; conv => whnf
 obtain rfl := sm e
 repeat' first | exact rfl | exact trivial | refine ⟨?_, ?_⟩
theorem P_hash_fine_j2 {a0 : XN} {a2 : Int} {v21 : (Tm × Int)} {r : Bool} (e : hash_fine_j2 a0 a2 v21 = some r) : JoinAt T Try.prog Try.f36 Fx0 [2, 4, 11] [1, 1, 1, 1, 1, 1, 1, 1, 0] (EP T Try.f36 (.bool r)) [(2, .d (.int .i64 a2)), (3, .ptr 0 0 0), (12, .d (.int .i64 v21.2))] [[.cells [.d (.int .u8 a0.kind), .d (.str a0.name), .d (.int .i64 a0.type_), .d (.int .i64 a0.index), .d (.slice 1 (intDs_i64 a0.sub))]]] := by
 unfold hash_fine_j2 at e
 refine Runs.enter T_ok ?_; conv => whnf
 refine ⟨⟨fun h22 => ?_, fun h22 => ?_⟩⟩
 ·replace e := ifp h22 e; conv => whnf
  refine ⟨⟨fun h23 => ?_, fun h23 => ?_⟩⟩
  ·replace e := ifp h23 e; conv => whnf
   refine ⟨⟨fun h24 => ?_, fun h24 => ?_⟩⟩
   ·replace e := ifp h24 e; conv => whnf
    refine test.dec ?_; conv => whnf
    obtain rfl := sm e
    repeat' first | exact rfl | exact trivial | refine ⟨?_, ?_⟩
   ·replace e := ifn h24 e; conv => whnf
    obtain rfl := sm e
    repeat' first | exact rfl | exact trivial | refine ⟨?_, ?_⟩
  ·replace e := ifn h23 e; conv => whnf
   obtain rfl := sm e
   repeat' first | exact rfl | exact trivial | refine ⟨?_, ?_⟩
 ·replace e := ifn h22 e; conv => whnf
  obtain rfl := sm e
  repeat' first | exact rfl | exact trivial | refine ⟨?_, ?_⟩
theorem P_hash_fine_j1 {t9_1 : Int} {t10_1 : Bool} {a0 : XN} {a1 : Int} {a2 : Int} {t7_0 : Bool} {r : Bool} (e : hash_fine_j1 t9_1 t10_1 a0 a1 a2 t7_0 = some r) : JoinAt T Try.prog Try.f36 Fx0 [2, 4, 11] [1, 1, 1, 1, 0, 0] (EP T Try.f36 (.bool r)) [(1, .d (.int .i64 a1)), (2, .d (.int .i64 a2)), (3, .ptr 0 0 0), (7, .d (.bool t7_0)), (9, .d (.int .i64 t9_1)), (10, .d (.bool t10_1))] [[.cells [.d (.int .u8 a0.kind), .d (.str a0.name), .d (.int .i64 a0.type_), .d (.int .i64 a0.index), .d (.slice 1 (intDs_i64 a0.sub))]]] := by
 unfold hash_fine_j1 at e
 refine Runs.enter T_ok ?_; conv => whnf
 refine brK.nsplit (fun hb14 => ?_) (fun hb14 => ?_)
 ·replace e := ifpb hb14 e; conv => whnf
  refine brK.ntt hb14 ?_; conv => whnf
  refine brK.ntt hb14 ?_; conv => whnf
  refine brK.ntt hb14 ?_; conv => whnf
  refine brK.ntt hb14 ?_; conv => whnf
  refine ⟨⟨fun h15 => ?_, fun h15 => ?_⟩⟩
  ·replace e := ifp (by first | exact h15 | omega | simpa [Tm.Ds_all, Ty.Ds_all, intDs_i64_all, XN.D, Tm.D, Ty.D, listAll] using h15) e; conv => whnf
   refine brK.ntt hb14 ?_; conv => whnf
   obtain rfl := sm e
   repeat' first | exact rfl | exact trivial | refine ⟨?_, ?_⟩
  ·replace e := ifn (by first | exact h15 | omega | simpa [Tm.Ds_all, Ty.Ds_all, intDs_i64_all, XN.D, Tm.D, Ty.D, listAll] using h15) e; conv => whnf
   refine brK.ntt hb14 ?_; conv => whnf
   obtain ⟨v16, qv16, e⟩ := bnd e
   refine said_pure (P_hash_below qv16) rfl ?_; conv => whnf
   refine brK.nsplit (fun hb17 => ?_) (fun hb17 => ?_)
   ·replace e := ifpb hb17 e; conv => whnf
    refine ⟨⟨fun h18 => ?_, fun h18 => ?_⟩⟩
    ·replace e := ifp h18 e; conv => whnf
     refine ⟨⟨fun h19 => ?_, fun h19 => ?_⟩⟩
     ·replace e := ifp h19 e; conv => whnf
      refine ⟨⟨fun h20 => ?_, fun h20 => ?_⟩⟩
      ·replace e := ifp h20 e; conv => whnf
       refine ⟨⟨fun h21 => ?_, fun h21 => ?_⟩⟩
       ·replace e := ifp h21 e; conv => whnf
        refine test.dec ?_; conv => whnf
        obtain rfl := sm e
        repeat' first | exact rfl | exact trivial | refine ⟨?_, ?_⟩
       ·replace e := ifn h21 e; conv => whnf
        obtain rfl := sm e
        repeat' first | exact rfl | exact trivial | refine ⟨?_, ?_⟩
      ·replace e := ifn h20 e; conv => whnf
       obtain rfl := sm e
       repeat' first | exact rfl | exact trivial | refine ⟨?_, ?_⟩
     ·replace e := ifn h19 e; conv => whnf
      obtain rfl := sm e
      repeat' first | exact rfl | exact trivial | refine ⟨?_, ?_⟩
    ·replace e := ifn h18 e; conv => whnf
     refine brK.nsplit (fun hb19 => ?_) (fun hb19 => ?_)
     ·replace e := ifpb hb19 e; conv => whnf
      refine draw_rule [] T_ok mixed hash_fine_pl10 (by decide +kernel) ?_; conv => whnf
      obtain ⟨v20, qv20, e⟩ := bnd e
      obtain ⟨v21, qv21, e⟩ := bnd e
      refine ⟨?_, ?_⟩
      ·(conv => whnf)
       refine said_pure (P_types_Bool qv20) rfl ⟨Keeps.refl _ _, ?_⟩; conv => whnf
       refine ⟨?_, ?_⟩
       ·(conv => whnf)
        refine said_pure (P_terms_Var qv21) rfl ⟨Keeps.refl _ _, ?_⟩; conv => whnf
        refine Runs.weak (P_hash_fine_j2 e) ?_
        repeat' first | exact wk.of_eq rfl | exact wk.pure rfl | exact wk.un _ | exact wk.hold _ _ _ | exact wk.holdG _ _ _ | exact rfl | exact trivial | refine ⟨?_, ?_⟩
       ·(conv => whnf)
        refine said_pure (P_terms_Var qv21) rfl ⟨Keeps.refl _ _, ?_⟩; conv => whnf
        refine Runs.weak (P_hash_fine_j2 e) ?_
        repeat' first | exact wk.of_eq rfl | exact wk.pure rfl | exact wk.un _ | exact wk.hold _ _ _ | exact wk.holdG _ _ _ | exact rfl | exact trivial | refine ⟨?_, ?_⟩
      ·(conv => whnf)
       refine said_pure (P_types_Bool qv20) rfl ⟨Keeps.refl _ _, ?_⟩; conv => whnf
       refine said_pure (P_terms_Var qv21) rfl ⟨Keeps.refl _ _, ?_⟩; conv => whnf
       refine Runs.weak (P_hash_fine_j2 e) ?_
       repeat' first | exact wk.of_eq rfl | exact wk.pure rfl | exact wk.un _ | exact wk.hold _ _ _ | exact wk.holdG _ _ _ | exact rfl | exact trivial | refine ⟨?_, ?_⟩
     ·replace e := ifnb hb19 e; conv => whnf
      refine ⟨⟨fun h20 => ?_, fun h20 => ?_⟩⟩
      ·replace e := ifp h20 e; conv => whnf
       refine ⟨⟨fun h21 => ?_, fun h21 => ?_⟩⟩
       ·replace e := ifp h21 e; conv => whnf
        refine test.dec ?_; conv => whnf
        obtain rfl := sm e
        repeat' first | exact rfl | exact trivial | refine ⟨?_, ?_⟩
       ·replace e := ifn h21 e; conv => whnf
        obtain rfl := sm e
        repeat' first | exact rfl | exact trivial | refine ⟨?_, ?_⟩
      ·replace e := ifn h20 e; conv => whnf
       obtain rfl := sm e
       repeat' first | exact rfl | exact trivial | refine ⟨?_, ?_⟩
   ·replace e := ifnb hb17 e; conv => whnf
    obtain rfl := sm e
    repeat' first | exact rfl | exact trivial | refine ⟨?_, ?_⟩
 ·replace e := ifnb hb14 e; conv => whnf
  refine brK.nff hb14 ?_; conv => whnf
  refine brK.nff hb14 ?_; conv => whnf
  refine brK.nff hb14 ?_; conv => whnf
  refine brK.nff hb14 ?_; conv => whnf
  refine brK.nff hb14 ?_; conv => whnf
  obtain rfl := sm e
  repeat' first | exact rfl | exact trivial | refine ⟨?_, ?_⟩
theorem P_hash_fine_j0 {t7_0 : Bool} {a0 : XN} {a1 : Int} {a2 : Int} {r : Bool} (e : hash_fine_j0 t7_0 a0 a1 a2 = some r) : JoinAt T Try.prog Try.f36 Fx0 [2, 4, 11] [1, 1, 0] (EP T Try.f36 (.bool r)) [(1, .d (.int .i64 a1)), (2, .d (.int .i64 a2)), (3, .ptr 0 0 0), (7, .d (.bool t7_0))] [[.cells [.d (.int .u8 a0.kind), .d (.str a0.name), .d (.int .i64 a0.type_), .d (.int .i64 a0.index), .d (.slice 1 (intDs_i64 a0.sub))]]] := by
 unfold hash_fine_j0 at e
 refine Runs.enter T_ok ?_; conv => whnf
 obtain ⟨v8, qv8, e⟩ := bnd e
 refine mupd_of KF_5 (sm qv8) ?_; conv => whnf
 obtain ⟨v9, qv9, e⟩ := bnd e
 refine mupd_of KF_5 (sm qv9) ?_; conv => whnf
 obtain ⟨v10, qv10, e⟩ := bnd e
 refine mupd_of KF_5 (sm qv10) ?_; conv => whnf
 obtain ⟨v11, qv11, e⟩ := bnd e
 refine mupd_of KF_5 (sm qv11) ?_; conv => whnf
 obtain ⟨v12, qv12, e⟩ := bnd e
 refine mupd_of KF_5 (sm qv12) ?_; conv => whnf
 refine mlook_of KF_5 (fun v13 hv13 => ?_) (fun hv13 => ?_)
 ·rw [hv13] at e; conv => whnf
  refine Runs.weak (P_hash_fine_j1 e) ?_
  repeat' first | exact wk.of_eq rfl | exact wk.pure rfl | exact wk.un _ | exact wk.hold _ _ _ | exact wk.holdG _ _ _ | exact rfl | exact trivial | refine ⟨?_, ?_⟩
 ·rw [hv13] at e; conv => whnf
  refine Runs.weak (P_hash_fine_j1 e) ?_
  repeat' first | exact wk.of_eq rfl | exact wk.pure rfl | exact wk.un _ | exact wk.hold _ _ _ | exact wk.holdG _ _ _ | exact rfl | exact trivial | refine ⟨?_, ?_⟩
theorem P_hash_fine {a0 : XN} {a1 : Int} {a2 : Int} {r : Bool} (e : hash_fine a0 a1 a2 = some r) : Pure Try.prog 36 [(XN.D a0), (.int .i64 a1), (.int .i64 a2)] (.bool r) := by
 unfold hash_fine at e
 refine pure_of_awp (js := [2, 4, 11]) T_ok Try.func36 rfl (by decide +kernel) rfl ?_; conv => whnf
 refine ⟨⟨fun h1 => ?_, fun h1 => ?_⟩⟩
 ·replace e := ifp h1 e; conv => whnf
  refine ⟨⟨fun h2 => ?_, fun h2 => ?_⟩⟩
  ·replace e := ifp h2 e; conv => whnf
   refine Runs.weak (P_hash_fine_j0 e) ?_
   repeat' first | exact wk.of_eq rfl | exact wk.pure rfl | exact wk.un _ | exact wk.hold _ _ _ | exact wk.holdG _ _ _ | exact rfl | exact trivial | refine ⟨?_, ?_⟩
  ·replace e := ifn h2 e; conv => whnf
   refine Runs.weak (P_hash_fine_j0 e) ?_
   repeat' first | exact wk.of_eq rfl | exact wk.pure rfl | exact wk.un _ | exact wk.hold _ _ _ | exact wk.holdG _ _ _ | exact rfl | exact trivial | refine ⟨?_, ?_⟩
 ·replace e := ifn h1 e; conv => whnf
  refine Runs.weak (P_hash_fine_j0 e) ?_
  repeat' first | exact wk.of_eq rfl | exact wk.pure rfl | exact wk.un _ | exact wk.hold _ _ _ | exact wk.holdG _ _ _ | exact rfl | exact trivial | refine ⟨?_, ?_⟩
theorem P_hash_keyTerm_j1 {c2_5_1 : Int} {a0 : XN} {c2_1_0 : ByteArray} {r : HMK} (e : hash_keyTerm_j1 c2_5_1 a0 c2_1_0 = some r) : JoinAt T Try.prog Try.f37 Fx0 [4, 6] [1, 1, 1, 1, 0, 0] (EP T Try.f37 (HMK.D r)) [(1, .ptr 0 0 0), (2, .ptr 0 1 0), (3, .ptr 0 2 0)] [[.cells [.d (.int .u8 a0.kind), .d (.str a0.name), .d (.int .i64 a0.type_), .d (.int .i64 a0.index), .d (.slice 1 (intDs_i64 a0.sub))], .cells [.d (.int .u8 0), .d (.str ByteArray.empty), .d (.int .i64 0), .d (.int .i64 0), .d (.int .i64 0), .d (.int .i64 0), .d (.int .i64 0)], .cells [.d (.int .u8 a0.kind), .d (.str c2_1_0), .d (.int .i64 a0.type_), .d (.int .i64 a0.index), .d (.int .i64 ((intDs_i64 a0.sub).length : Int)), .d (.int .i64 c2_5_1), .d (.int .i64 0)]]] := by
 unfold hash_keyTerm_j1 at e
 refine Runs.enter T_ok ?_; conv => whnf
 refine ⟨⟨fun h6 => ?_, fun h6 => ?_⟩⟩
 ·replace e := ifp (by first | exact h6 | omega | simpa [intDs_i64_all, XN.D, HMK.D, listAll] using h6) e; conv => whnf
  obtain ⟨v7, qv7, e⟩ := bnd e
  obtain ⟨qv7k, qv7a, qv7b⟩ := geti_some qv7
  refine ⟨qv7k, _, qv7a, intDs_i64_get qv7b, ?_⟩; conv => whnf
  refine ⟨intDs_i64_fit _ rfl rfl, ?_⟩; conv => whnf
  obtain rfl := sm e
  repeat' first | exact rfl | exact trivial | refine ⟨_, rfl, ?_, ?_⟩ | refine ⟨?_, ?_⟩ | (simp [intDs_i64_all, XN.D, HMK.D, listAll] <;> (repeat' first | rfl | apply And.intro))
 ·replace e := ifn (by first | exact h6 | omega | simpa [intDs_i64_all, XN.D, HMK.D, listAll] using h6) e; conv => whnf
  obtain rfl := sm e
  repeat' first | exact rfl | exact trivial | refine ⟨_, rfl, ?_, ?_⟩ | refine ⟨?_, ?_⟩ | (simp [intDs_i64_all, XN.D, HMK.D, listAll] <;> (repeat' first | rfl | apply And.intro))
theorem P_hash_keyTerm_j0 {c2_1_0 : ByteArray} {a0 : XN} {r : HMK} (e : hash_keyTerm_j0 c2_1_0 a0 = some r) : JoinAt T Try.prog Try.f37 Fx0 [4, 6] [1, 1, 1, 0, 0] (EP T Try.f37 (HMK.D r)) [(1, .ptr 0 0 0), (2, .ptr 0 1 0), (3, .ptr 0 2 0)] [[.cells [.d (.int .u8 a0.kind), .d (.str a0.name), .d (.int .i64 a0.type_), .d (.int .i64 a0.index), .d (.slice 1 (intDs_i64 a0.sub))], .cells [.d (.int .u8 0), .d (.str ByteArray.empty), .d (.int .i64 0), .d (.int .i64 0), .d (.int .i64 0), .d (.int .i64 0), .d (.int .i64 0)], .cells [.d (.int .u8 a0.kind), .d (.str c2_1_0), .d (.int .i64 a0.type_), .d (.int .i64 a0.index), .d (.int .i64 ((intDs_i64 a0.sub).length : Int)), .d (.int .i64 0), .d (.int .i64 0)]]] := by
 unfold hash_keyTerm_j0 at e
 refine Runs.enter T_ok ?_; conv => whnf
 refine ⟨⟨fun h3 => ?_, fun h3 => ?_⟩⟩
 ·replace e := ifp (by first | exact h3 | omega | simpa [intDs_i64_all, XN.D, HMK.D, listAll] using h3) e; conv => whnf
  obtain ⟨v4, qv4, e⟩ := bnd e
  obtain ⟨qv4k, qv4a, qv4b⟩ := geti_some qv4
  refine ⟨qv4k, _, qv4a, intDs_i64_get qv4b, ?_⟩; conv => whnf
  refine ⟨intDs_i64_fit _ rfl rfl, ?_⟩; conv => whnf
  refine Runs.weak (P_hash_keyTerm_j1 e) ?_
  repeat' first | exact wk.of_eq rfl | exact wk.pure rfl | exact wk.un _ | exact wk.hold _ _ _ | exact wk.holdG _ _ _ | exact rfl | exact trivial | refine ⟨?_, ?_⟩ | (refine wk.of_eq ?_; (conv => lhs; whnf); (simp [intDs_i64_all, XN.D, HMK.D, listAll] <;> (repeat' first | rfl | apply And.intro)); done) | (refine wk.pure ?_; (conv => lhs; whnf); (simp [intDs_i64_all, XN.D, HMK.D, listAll] <;> (repeat' first | rfl | apply And.intro)); done) | ((simp [intDs_i64_all, XN.D, HMK.D, listAll] <;> (repeat' first | rfl | apply And.intro)); done) | (simp [intDs_i64_all, XN.D, HMK.D, listAll]; omega)
 ·replace e := ifn (by first | exact h3 | omega | simpa [intDs_i64_all, XN.D, HMK.D, listAll] using h3) e; conv => whnf
  refine Runs.weak (P_hash_keyTerm_j1 e) ?_
  repeat' first | exact wk.of_eq rfl | exact wk.pure rfl | exact wk.un _ | exact wk.hold _ _ _ | exact wk.holdG _ _ _ | exact rfl | exact trivial | refine ⟨?_, ?_⟩ | (refine wk.of_eq ?_; (conv => lhs; whnf); (simp [intDs_i64_all, XN.D, HMK.D, listAll] <;> (repeat' first | rfl | apply And.intro)); done) | (refine wk.pure ?_; (conv => lhs; whnf); (simp [intDs_i64_all, XN.D, HMK.D, listAll] <;> (repeat' first | rfl | apply And.intro)); done) | ((simp [intDs_i64_all, XN.D, HMK.D, listAll] <;> (repeat' first | rfl | apply And.intro)); done) | (simp [intDs_i64_all, XN.D, HMK.D, listAll]; omega)
theorem P_hash_keyTerm {a0 : XN} {r : HMK} (e : hash_keyTerm a0 = some r) : Pure Try.prog 37 [(XN.D a0)] (HMK.D r) := by
 unfold hash_keyTerm at e
 refine pure_of_awp (js := [4, 6]) T_ok Try.func37 rfl (by decide +kernel) rfl ?_; conv => whnf
 refine ⟨⟨fun h1 => ?_, fun h1 => ?_⟩⟩
 ·replace e := ifp h1 e; conv => whnf
  refine Runs.weak (P_hash_keyTerm_j0 e) ?_
  repeat' first | exact wk.of_eq rfl | exact wk.pure rfl | exact wk.un _ | exact wk.hold _ _ _ | exact wk.holdG _ _ _ | exact rfl | exact trivial | refine ⟨?_, ?_⟩ | (refine wk.of_eq ?_; (conv => lhs; whnf); (simp [intDs_i64_all, XN.D, HMK.D, listAll] <;> (repeat' first | rfl | apply And.intro)); done) | (refine wk.pure ?_; (conv => lhs; whnf); (simp [intDs_i64_all, XN.D, HMK.D, listAll] <;> (repeat' first | rfl | apply And.intro)); done) | ((simp [intDs_i64_all, XN.D, HMK.D, listAll] <;> (repeat' first | rfl | apply And.intro)); done) | (simp [intDs_i64_all, XN.D, HMK.D, listAll]; omega)
 ·replace e := ifn h1 e; conv => whnf
  refine Runs.weak (P_hash_keyTerm_j0 e) ?_
  repeat' first | exact wk.of_eq rfl | exact wk.pure rfl | exact wk.un _ | exact wk.hold _ _ _ | exact wk.holdG _ _ _ | exact rfl | exact trivial | refine ⟨?_, ?_⟩ | (refine wk.of_eq ?_; (conv => lhs; whnf); (simp [intDs_i64_all, XN.D, HMK.D, listAll] <;> (repeat' first | rfl | apply And.intro)); done) | (refine wk.pure ?_; (conv => lhs; whnf); (simp [intDs_i64_all, XN.D, HMK.D, listAll] <;> (repeat' first | rfl | apply And.intro)); done) | ((simp [intDs_i64_all, XN.D, HMK.D, listAll] <;> (repeat' first | rfl | apply And.intro)); done) | (simp [intDs_i64_all, XN.D, HMK.D, listAll]; omega)
end Go.Proofs.Ytemfpemejagndaa.Fw

