/- The code computes the functions. -/
import Derived.Test.YtemfpemejagndaaG1
set_option autoImplicit false
set_option linter.unusedVariables false
set_option linter.unusedSimpArgs false
set_option maxHeartbeats 4000000
namespace Go.Proofs.Ytemfpemejagndaa.Fw
open Go Go.Proofs Go.RowKit
def M_hx_add_o_io (a1 : Tm) (b0_0 : (List YN)) (b0_1 : (List XN)) (b3 : (List (HTK × Int))) (b4 : (List (HMK × Int))) (r : (Int × (List YN) × (List XN) × (List (HTK × Int)) × (List (HMK × Int)))) : Prop := IoR Try.prog 29 [.ptr 0 0 0, .d (D.aged (Tm.D a1))] [.cells [.own 0 1 3 (YN.Ds b0_0), .own 0 2 5 (XN.Ds b0_1), .map 0 3, .map 0 4], .grow 3 (YN.Ds b0_0).length, .grow 5 (XN.Ds b0_1).length, .map (mapD HTK.D (D.int .i64) b3), .map (mapD HMK.D (D.int .i64) b4)] (.d (.int .i64 r.1)) ([.cells [.own 0 1 3 (YN.Ds r.2.1), .own 0 2 5 (XN.Ds r.2.2.1), .map 0 3, .map 0 4], .grow 3 (YN.Ds r.2.1).length, .grow 5 (XN.Ds r.2.2.1).length, .map (mapD HTK.D (D.int .i64) r.2.2.2.1), .map (mapD HMK.D (D.int .i64) r.2.2.2.2)])
def M_hx_add_o_io_j0 (c0_0_1 : (List YN)) (c0_1_1 : (List XN)) (m3_1 : (List (HTK × Int))) (m4_1 : (List (HMK × Int))) (c6_2_1 : Int) (a1 : Tm) (r : (Int × (List YN) × (List XN) × (List (HTK × Int)) × (List (HMK × Int)))) : Prop := JoinAt T Try.prog Try.f29 ⟨[], 5⟩ [4, 9, 11] [1, 1, 1, 0, 0] (ES T Try.f29 5 (.d (.int .i64 r.1)) ([.cells [.own 0 1 3 (YN.Ds r.2.1), .own 0 2 5 (XN.Ds r.2.2.1), .map 0 3, .map 0 4], .grow 3 (YN.Ds r.2.1).length, .grow 5 (XN.Ds r.2.2.1).length, .map (mapD HTK.D (D.int .i64) r.2.2.2.1), .map (mapD HMK.D (D.int .i64) r.2.2.2.2)])) [(0, .ptr 0 0 0), (3, .ptr 0 5 0), (5, .ptr 0 6 0)] [[.cells [.own 0 1 3 (YN.Ds c0_0_1), .own 0 2 5 (XN.Ds c0_1_1), .map 0 3, .map 0 4], .grow 3 (YN.Ds c0_0_1).length, .grow 5 (XN.Ds c0_1_1).length, .map (mapD HTK.D (D.int .i64) m3_1), .map (mapD HMK.D (D.int .i64) m4_1), .cells [.d (.int .u8 a1.kind), .d (.str a1.name), .d (.bool a1.ty.v), .d (.str a1.ty.name), .d (.os 3 (D.ageds (Ty.Ds a1.ty.args))), .d (.int .i64 a1.index), .d (.os 7 (D.ageds (Tm.Ds a1.sub)))], .cells [.d (.int .u8 a1.kind), .d (.str a1.name), .d (.int .i64 c6_2_1), .d (.int .i64 a1.index), .nil 1]]]
def M_hx_add_o_io_l0 (rest0 : (List Tm)) (c0_0_0 : (List YN)) (c0_1_0 : (List XN)) (m3_0 : (List (HTK × Int))) (m4_0 : (List (HMK × Int))) (c6_4_0 : (List Int)) (a1 : Tm) (c6_2_1 : Int) (r : (Int × (List YN) × (List XN) × (List (HTK × Int)) × (List (HMK × Int)))) : Prop := ∀ (k0 : Nat) (hd0 : rest0 = a1.sub.drop k0), LoopAt T Try.prog Try.f29 ⟨[], 5⟩ [4, 9, 11] [1, 1, 1, 0, 1, 0] (ES T Try.f29 5 (.d (.int .i64 r.1)) ([.cells [.own 0 1 3 (YN.Ds r.2.1), .own 0 2 5 (XN.Ds r.2.2.1), .map 0 3, .map 0 4], .grow 3 (YN.Ds r.2.1).length, .grow 5 (XN.Ds r.2.2.1).length, .map (mapD HTK.D (D.int .i64) r.2.2.2.1), .map (mapD HMK.D (D.int .i64) r.2.2.2.2)])) [(0, .ptr 0 0 0), (5, .ptr 0 6 0), (32, .d (.os 7 (D.ageds (Tm.Ds a1.sub)))), (33, .d (.int .i64 ((Tm.Ds a1.sub).length : Int))), (34, .d (.int .i64 (k0 : Int)))] [[.cells [.own 0 1 3 (YN.Ds c0_0_0), .own 0 2 5 (XN.Ds c0_1_0), .map 0 3, .map 0 4], .grow 3 (YN.Ds c0_0_0).length, .grow 5 (XN.Ds c0_1_0).length, .map (mapD HTK.D (D.int .i64) m3_0), .map (mapD HMK.D (D.int .i64) m4_0), .cells [.d (.int .u8 a1.kind), .d (.str a1.name), .d (.bool a1.ty.v), .d (.str a1.ty.name), .d (.os 3 (D.ageds (Ty.Ds a1.ty.args))), .d (.int .i64 a1.index), .d (.os 7 (D.ageds (Tm.Ds a1.sub)))], .cells [.d (.int .u8 a1.kind), .d (.str a1.name), .d (.int .i64 c6_2_1), .d (.int .i64 a1.index), .own 0 7 1 (intDs_i64 c6_4_0)], .grow 1 (intDs_i64 c6_4_0).length]]
theorem G_hx_add_o_io : (∀ p r, hx_add_o_io' p = some r → ∀ a1 b0_0 b0_1 b3 b4, (a1, b0_0, b0_1, b3, b4) = p → M_hx_add_o_io a1 b0_0 b0_1 b3 b4 r) ∧
  (∀ p r, hx_add_o_io_j0' p = some r → ∀ c0_0_1 c0_1_1 m3_1 m4_1 c6_2_1 a1, (c0_0_1, c0_1_1, m3_1, m4_1, c6_2_1, a1) = p → M_hx_add_o_io_j0 c0_0_1 c0_1_1 m3_1 m4_1 c6_2_1 a1 r) ∧
  (∀ p r, hx_add_o_io_l0' p = some r → ∀ rest0 c0_0_0 c0_1_0 m3_0 m4_0 c6_4_0 a1 c6_2_1, (rest0, c0_0_0, c0_1_0, m3_0, m4_0, c6_4_0, a1, c6_2_1) = p → M_hx_add_o_io_l0 rest0 c0_0_0 c0_1_0 m3_0 m4_0 c6_4_0 a1 c6_2_1 r) := by
 refine hx_add_o_io'.mutual_partial_correctness (fun (p : (Tm × (List YN) × (List XN) × (List (HTK × Int)) × (List (HMK × Int)))) (r : (Int × (List YN) × (List XN) × (List (HTK × Int)) × (List (HMK × Int)))) => ∀ (a1 : Tm) (b0_0 : (List YN)) (b0_1 : (List XN)) (b3 : (List (HTK × Int))) (b4 : (List (HMK × Int))), (a1, b0_0, b0_1, b3, b4) = p → M_hx_add_o_io a1 b0_0 b0_1 b3 b4 r) (fun (p : ((List YN) × (List XN) × (List (HTK × Int)) × (List (HMK × Int)) × Int × Tm)) (r : (Int × (List YN) × (List XN) × (List (HTK × Int)) × (List (HMK × Int)))) => ∀ (c0_0_1 : (List YN)) (c0_1_1 : (List XN)) (m3_1 : (List (HTK × Int))) (m4_1 : (List (HMK × Int))) (c6_2_1 : Int) (a1 : Tm), (c0_0_1, c0_1_1, m3_1, m4_1, c6_2_1, a1) = p → M_hx_add_o_io_j0 c0_0_1 c0_1_1 m3_1 m4_1 c6_2_1 a1 r) (fun (p : ((List Tm) × (List YN) × (List XN) × (List (HTK × Int)) × (List (HMK × Int)) × (List Int) × Tm × Int)) (r : (Int × (List YN) × (List XN) × (List (HTK × Int)) × (List (HMK × Int)))) => ∀ (rest0 : (List Tm)) (c0_0_0 : (List YN)) (c0_1_0 : (List XN)) (m3_0 : (List (HTK × Int))) (m4_0 : (List (HMK × Int))) (c6_4_0 : (List Int)) (a1 : Tm) (c6_2_1 : Int), (rest0, c0_0_0, c0_1_0, m3_0, m4_0, c6_4_0, a1, c6_2_1) = p → M_hx_add_o_io_l0 rest0 c0_0_0 c0_1_0 m3_0 m4_0 c6_4_0 a1 c6_2_1 r) ?_ ?_ ?_
 ·intro f_hx_add_o_io_j0 ih_hx_add_o_io_j0 p r e a1 b0_0 b0_1 b3 b4 hp
  subst hp
  refine io_of_awp2 (js := [4, 9, 11]) T_ok Try.func29 rfl (by decide +kernel) rfl ?_; conv => whnf
  refine ⟨⟨fun h1 => ?_, fun h1 => ?_⟩⟩
  ·replace e := ifp h1 e; conv => whnf
   refine ⟨⟨fun h2 => ?_, fun h2 => ?_⟩⟩
   ·replace e := ifp h2 e; conv => whnf
    obtain ⟨v3, qv3, e⟩ := bnd e
    first | (refine said_iorF (P_hx_addType_o_io qv3) [0, 1, 2, 3, 4] [.ptr 0 0 0, .d (D.aged (Ty.D a1.ty))] rfl ⟨wk.refl _, wk.pure rfl, trivial⟩ rfl rfl ?_) | (refine said_iorF2 (P_hx_addType_o_io qv3) [0, 1, 2, 3, 4] [.ptr 0 0 0, .d (D.aged (Ty.D a1.ty))] rfl ⟨wk.refl _, wk.pure rfl, trivial⟩ rfl rfl (by simp [XN.Ds_all, Tm.Ds_all, Ty.Ds_all, intDs_i64_all, XN.D, HMK.D, Tm.D, Ty.D, listAll, ageds_len, ageds_nil] <;> (repeat' first | rfl | apply And.intro)) ?_)
    (conv => whnf)
    refine Runs.weak (ih_hx_add_o_io_j0 _ _ e _ _ _ _ _ _ rfl) ?_
    repeat' first | exact wk.of_eq rfl | exact wk.pure rfl | exact wk.un _ | exact wk.hold _ _ _ | exact wk.holdG _ _ _ | exact rfl | exact trivial | refine ⟨?_, ?_⟩ | (refine wk.of_eq ?_; (conv => lhs; whnf); (simp [XN.Ds_all, Tm.Ds_all, Ty.Ds_all, intDs_i64_all, XN.D, HMK.D, Tm.D, Ty.D, listAll, ageds_len, ageds_nil] <;> (repeat' first | rfl | apply And.intro)); done) | (refine wk.pure ?_; (conv => lhs; whnf); (simp [XN.Ds_all, Tm.Ds_all, Ty.Ds_all, intDs_i64_all, XN.D, HMK.D, Tm.D, Ty.D, listAll, ageds_len, ageds_nil] <;> (repeat' first | rfl | apply And.intro)); done) | ((simp [XN.Ds_all, Tm.Ds_all, Ty.Ds_all, intDs_i64_all, XN.D, HMK.D, Tm.D, Ty.D, listAll, ageds_len, ageds_nil] <;> (repeat' first | rfl | apply And.intro)); done) | (simp [XN.Ds_all, Tm.Ds_all, Ty.Ds_all, intDs_i64_all, XN.D, HMK.D, Tm.D, Ty.D, listAll, ageds_len, ageds_nil]; omega)
   ·replace e := ifn h2 e; conv => whnf
    refine Runs.weak (ih_hx_add_o_io_j0 _ _ e _ _ _ _ _ _ rfl) ?_
    repeat' first | exact wk.of_eq rfl | exact wk.pure rfl | exact wk.un _ | exact wk.hold _ _ _ | exact wk.holdG _ _ _ | exact rfl | exact trivial | refine ⟨?_, ?_⟩ | (refine wk.of_eq ?_; (conv => lhs; whnf); (simp [XN.Ds_all, Tm.Ds_all, Ty.Ds_all, intDs_i64_all, XN.D, HMK.D, Tm.D, Ty.D, listAll, ageds_len, ageds_nil] <;> (repeat' first | rfl | apply And.intro)); done) | (refine wk.pure ?_; (conv => lhs; whnf); (simp [XN.Ds_all, Tm.Ds_all, Ty.Ds_all, intDs_i64_all, XN.D, HMK.D, Tm.D, Ty.D, listAll, ageds_len, ageds_nil] <;> (repeat' first | rfl | apply And.intro)); done) | ((simp [XN.Ds_all, Tm.Ds_all, Ty.Ds_all, intDs_i64_all, XN.D, HMK.D, Tm.D, Ty.D, listAll, ageds_len, ageds_nil] <;> (repeat' first | rfl | apply And.intro)); done) | (simp [XN.Ds_all, Tm.Ds_all, Ty.Ds_all, intDs_i64_all, XN.D, HMK.D, Tm.D, Ty.D, listAll, ageds_len, ageds_nil]; omega)
  ·replace e := ifn h1 e; conv => whnf
   refine Runs.weak (ih_hx_add_o_io_j0 _ _ e _ _ _ _ _ _ rfl) ?_
   repeat' first | exact wk.of_eq rfl | exact wk.pure rfl | exact wk.un _ | exact wk.hold _ _ _ | exact wk.holdG _ _ _ | exact rfl | exact trivial | refine ⟨?_, ?_⟩ | (refine wk.of_eq ?_; (conv => lhs; whnf); (simp [XN.Ds_all, Tm.Ds_all, Ty.Ds_all, intDs_i64_all, XN.D, HMK.D, Tm.D, Ty.D, listAll, ageds_len, ageds_nil] <;> (repeat' first | rfl | apply And.intro)); done) | (refine wk.pure ?_; (conv => lhs; whnf); (simp [XN.Ds_all, Tm.Ds_all, Ty.Ds_all, intDs_i64_all, XN.D, HMK.D, Tm.D, Ty.D, listAll, ageds_len, ageds_nil] <;> (repeat' first | rfl | apply And.intro)); done) | ((simp [XN.Ds_all, Tm.Ds_all, Ty.Ds_all, intDs_i64_all, XN.D, HMK.D, Tm.D, Ty.D, listAll, ageds_len, ageds_nil] <;> (repeat' first | rfl | apply And.intro)); done) | (simp [XN.Ds_all, Tm.Ds_all, Ty.Ds_all, intDs_i64_all, XN.D, HMK.D, Tm.D, Ty.D, listAll, ageds_len, ageds_nil]; omega)
 ·intro f_hx_add_o_io_l0 ih_hx_add_o_io_l0 p r e c0_0_1 c0_1_1 m3_1 m4_1 c6_2_1 a1 hp
  subst hp
  refine Runs.enter T_ok ?_; conv => whnf
  try simp only [ageds_len]
  refine Runs.hold 1 ?_
  refine RunsL.runs (RunsL.weak ((ih_hx_add_o_io_l0 _ _ e _ _ _ _ _ _ _ _ rfl) 0 (by simp)) ?_)
  repeat' first | exact wk.of_eq rfl | exact wk.pure rfl | exact wk.un _ | exact wk.hold _ _ _ | exact wk.holdG _ _ _ | exact rfl | exact trivial | refine ⟨?_, ?_⟩ | (refine wk.of_eq ?_; (conv => lhs; whnf); (simp [XN.Ds_all, Tm.Ds_all, Ty.Ds_all, intDs_i64_all, XN.D, HMK.D, Tm.D, Ty.D, listAll, ageds_len, ageds_nil] <;> (repeat' first | rfl | apply And.intro)); done) | (refine wk.pure ?_; (conv => lhs; whnf); (simp [XN.Ds_all, Tm.Ds_all, Ty.Ds_all, intDs_i64_all, XN.D, HMK.D, Tm.D, Ty.D, listAll, ageds_len, ageds_nil] <;> (repeat' first | rfl | apply And.intro)); done) | ((simp [XN.Ds_all, Tm.Ds_all, Ty.Ds_all, intDs_i64_all, XN.D, HMK.D, Tm.D, Ty.D, listAll, ageds_len, ageds_nil] <;> (repeat' first | rfl | apply And.intro)); done) | (simp [XN.Ds_all, Tm.Ds_all, Ty.Ds_all, intDs_i64_all, XN.D, HMK.D, Tm.D, Ty.D, listAll, ageds_len, ageds_nil]; omega)
 ·intro f_hx_add_o_io f_hx_add_o_io_l0 ih_hx_add_o_io ih_hx_add_o_io_l0 p r e rest0 c0_0_0 c0_1_0 m3_0 m4_0 c6_4_0 a1 c6_2_1 hp
  subst hp
  intro k0 hd0
  refine RunsL.len_tmp 32 rfl fun hlenk0 => ?_
  rw [ageds_len] at hlenk0
  refine RunsL.of_awp (js := [4, 9, 11]) T_ok ?_; conv => whnf
  have hls := Tm.Ds_len a1.sub
  cases rest0 with
  | nil =>
   have hk := drop_nil hd0
   refine ⟨⟨fun h => absurd h (by omega), fun _ => ?_⟩⟩; conv => whnf
   refine Runs.weak (P_hx_add_o_io_j1 e) ?_
   repeat' first | exact wk.of_eq rfl | exact wk.pure rfl | exact wk.un _ | exact wk.hold _ _ _ | exact wk.holdG _ _ _ | exact rfl | exact trivial | refine ⟨?_, ?_⟩ | (refine wk.of_eq ?_; (conv => lhs; whnf); (simp [XN.Ds_all, Tm.Ds_all, Ty.Ds_all, intDs_i64_all, XN.D, HMK.D, Tm.D, Ty.D, listAll, ageds_len, ageds_nil] <;> (repeat' first | rfl | apply And.intro)); done) | (refine wk.pure ?_; (conv => lhs; whnf); (simp [XN.Ds_all, Tm.Ds_all, Ty.Ds_all, intDs_i64_all, XN.D, HMK.D, Tm.D, Ty.D, listAll, ageds_len, ageds_nil] <;> (repeat' first | rfl | apply And.intro)); done) | ((simp [XN.Ds_all, Tm.Ds_all, Ty.Ds_all, intDs_i64_all, XN.D, HMK.D, Tm.D, Ty.D, listAll, ageds_len, ageds_nil] <;> (repeat' first | rfl | apply And.intro)); done) | (simp [XN.Ds_all, Tm.Ds_all, Ty.Ds_all, intDs_i64_all, XN.D, HMK.D, Tm.D, Ty.D, listAll, ageds_len, ageds_nil]; omega)
  | cons v35 rest0 =>
   obtain ⟨hxv35, hd0, hltv35⟩ := drop_head hd0
   refine ⟨⟨fun _ => ?_, fun h => absurd (by omega) h⟩⟩; conv => whnf
   refine ⟨k0, _, rfl, ageds_get (Tm.Ds_get hxv35), ?_⟩; conv => whnf
   refine ⟨ageds_fit (Tm.Ds_fit _ rfl rfl), ?_⟩; conv => whnf
   refine draw_rule [0, 1, 2, 3, 4] T_ok mixed hx_add_o_io_pl7 (by decide +kernel) ?_; conv => whnf
   obtain ⟨v36, qv36, e⟩ := bnd e
   first | (refine said_iorF (ih_hx_add_o_io _ _ qv36 _ _ _ _ _ rfl) [0, 1, 2, 3, 4] [.ptr 0 0 0, .d (D.aged (Tm.D v35))] rfl ⟨wk.refl _, wk.pure rfl, trivial⟩ rfl rfl ⟨(keeps_back rfl), ?_⟩) | (refine said_iorF2 (ih_hx_add_o_io _ _ qv36 _ _ _ _ _ rfl) [0, 1, 2, 3, 4] [.ptr 0 0 0, .d (D.aged (Tm.D v35))] rfl ⟨wk.refl _, wk.pure rfl, trivial⟩ rfl rfl (by simp [XN.Ds_all, Tm.Ds_all, Ty.Ds_all, intDs_i64_all, XN.D, HMK.D, Tm.D, Ty.D, listAll, ageds_len, ageds_nil] <;> (repeat' first | rfl | apply And.intro)) ⟨(keeps_back rfl), ?_⟩)
   (conv => whnf)
   refine ⟨⟨⟨rfl, rfl⟩, trivial⟩, ?_⟩; conv => whnf
   obtain ⟨v37, qv37, e⟩ := bnd e
   obtain ⟨qv37l, qv37e⟩ := app_some qv37
   refine ⟨(by first | exact qv37l | simpa [XN.Ds_all, Tm.Ds_all, Ty.Ds_all, intDs_i64_all, XN.D, HMK.D, Tm.D, Ty.D, listAll, ageds_len, ageds_nil] using qv37l), rfl, (by first | rfl | simp [XN.Ds_all, Tm.Ds_all, Ty.Ds_all, intDs_i64_all, XN.D, HMK.D, Tm.D, Ty.D, listAll, ageds_len, ageds_nil]), ?_⟩; conv => whnf
   refine ⟨((k0 + 1 : Nat) : Int), wrap64e (by omega) (by omega) (by omega), ?_⟩; conv => whnf
   refine (RunsL.weak ((ih_hx_add_o_io_l0 _ _ e _ _ _ _ _ _ _ _ rfl) (k0 + 1) hd0) ?_)
   repeat' first | exact wk.of_eq rfl | exact wk.pure rfl | exact wk.un _ | exact wk.hold _ _ _ | exact wk.holdG _ _ _ | exact rfl | exact trivial | refine ⟨?_, ?_⟩ | (refine wk.of_eq ?_; (conv => lhs; whnf); (simp [XN.Ds_all, Tm.Ds_all, Ty.Ds_all, intDs_i64_all, XN.D, HMK.D, Tm.D, Ty.D, listAll, ageds_len, ageds_nil, qv37e] <;> (repeat' first | rfl | apply And.intro)); done) | (refine wk.pure ?_; (conv => lhs; whnf); (simp [XN.Ds_all, Tm.Ds_all, Ty.Ds_all, intDs_i64_all, XN.D, HMK.D, Tm.D, Ty.D, listAll, ageds_len, ageds_nil, qv37e] <;> (repeat' first | rfl | apply And.intro)); done) | ((simp [XN.Ds_all, Tm.Ds_all, Ty.Ds_all, intDs_i64_all, XN.D, HMK.D, Tm.D, Ty.D, listAll, ageds_len, ageds_nil, qv37e] <;> (repeat' first | rfl | apply And.intro)); done) | (simp [XN.Ds_all, Tm.Ds_all, Ty.Ds_all, intDs_i64_all, XN.D, HMK.D, Tm.D, Ty.D, listAll, ageds_len, ageds_nil, qv37e]; omega)
theorem P_hx_add_o_io {a1 : Tm} {b0_0 : (List YN)} {b0_1 : (List XN)} {b3 : (List (HTK × Int))} {b4 : (List (HMK × Int))} {r : (Int × (List YN) × (List XN) × (List (HTK × Int)) × (List (HMK × Int)))} (e : hx_add_o_io a1 b0_0 b0_1 b3 b4 = some r) : M_hx_add_o_io a1 b0_0 b0_1 b3 b4 r := G_hx_add_o_io.1 _ _ e _ _ _ _ _ rfl
theorem P_hx_done_io {a1 : Int} {b0_0 : (List YN)} {b0_1 : (List XN)} {b3 : (List (HTK × Int))} {b4 : (List (HMK × Int))} {r : ((AStore × Int × Int × (List YN) × (List XN) × (List (HTK × Int)) × (List (HMK × Int))) ⊕ ((List YN) × (List XN) × Int × Int × (List YN) × (List XN) × (List (HTK × Int)) × (List (HMK × Int))))} (e : hx_done_io a1 b0_0 b0_1 b3 b4 = some r) : IoR Try.prog 20 [.ptr 0 0 0, .d (.int .i64 a1)] [.cells [.own 0 1 3 (YN.Ds b0_0), .own 0 2 5 (XN.Ds b0_1), .map 0 3, .map 0 4], .grow 3 (YN.Ds b0_0).length, .grow 5 (XN.Ds b0_1).length, .map (mapD HTK.D (D.int .i64) b3), .map (mapD HMK.D (D.int .i64) b4)] ((Y_hx_done_io r)) ((L_hx_done_io r)) := by
 unfold hx_done_io at e
 refine io_of_awp2 (js := []) T_ok Try.func20 rfl (by decide +kernel) rfl ?_; conv => whnf
 refine ⟨⟨fun h1 => ?_, fun h1 => ?_⟩⟩
 ·replace e := ifp (by first | exact h1 | omega | simpa [XN.Ds_all, YN.Ds_all, AStore.D, XN.D, YN.D, listAll] using h1) e; conv => whnf
  obtain rfl := sm e
  refine ⟨[0, 1, 2, 3, 4], ⟨rfl, rfl, rfl⟩, ?_, ⟨⟨_, rfl, ⟨⟨?_, ?_, rfl, rfl, trivial⟩, rfl⟩⟩, ⟨_, rfl, ?_⟩, ⟨_, rfl, ?_⟩, ⟨_, rfl, rfl⟩, ⟨_, rfl, rfl⟩, trivial⟩⟩
  repeat' first | exact rfl | exact trivial | refine ⟨?_, ?_⟩ | (simp [XN.Ds_all, YN.Ds_all, AStore.D, XN.D, YN.D, listAll] <;> (repeat' first | rfl | apply And.intro); done)
 ·replace e := ifn (by first | exact h1 | omega | simpa [XN.Ds_all, YN.Ds_all, AStore.D, XN.D, YN.D, listAll] using h1) e; conv => whnf
  refine ⟨⟨fun h2 => ?_, fun h2 => ?_⟩⟩
  ·replace e := ifp (by first | exact h2 | omega | simpa [XN.Ds_all, YN.Ds_all, AStore.D, XN.D, YN.D, listAll] using h2) e; conv => whnf
   obtain rfl := sm e
   refine ⟨[0, 1, 2, 3, 4], ⟨rfl, rfl, rfl⟩, ?_, ⟨⟨_, rfl, ⟨⟨?_, ?_, rfl, rfl, trivial⟩, rfl⟩⟩, ⟨_, rfl, ?_⟩, ⟨_, rfl, ?_⟩, ⟨_, rfl, rfl⟩, ⟨_, rfl, rfl⟩, trivial⟩⟩
   repeat' first | exact rfl | exact trivial | refine ⟨?_, ?_⟩ | (simp [XN.Ds_all, YN.Ds_all, AStore.D, XN.D, YN.D, listAll] <;> (repeat' first | rfl | apply And.intro); done)
  ·replace e := ifn (by first | exact h2 | omega | simpa [XN.Ds_all, YN.Ds_all, AStore.D, XN.D, YN.D, listAll] using h2) e; conv => whnf
   obtain rfl := sm e
   refine ⟨[0, 1, 2, 3, 4], ⟨rfl, rfl, rfl⟩, ⟨?_, rfl, rfl, trivial⟩, ⟨⟨_, rfl, ⟨⟨?_, ?_, rfl, rfl, trivial⟩, rfl⟩⟩, ⟨_, rfl, ?_⟩, ⟨_, rfl, ?_⟩, ⟨_, rfl, rfl⟩, ⟨_, rfl, rfl⟩, trivial⟩⟩
   repeat' first | exact rfl | exact trivial | refine ⟨?_, ?_⟩ | (simp [XN.Ds_all, YN.Ds_all, AStore.D, XN.D, YN.D, listAll] <;> (repeat' first | rfl | apply And.intro); done)
theorem P_hash_Add_o_j0 {r : (AStore × Int × Int)} (e : hash_Add_o_j0 = some r) : ∀ (a0 : AStore) (a1 : Tm), JoinAt T Try.prog Try.f11 Fx0 [2] [1, 1, 0, 0] (EP T Try.f11 (.tuple [(AStore.D r.1), (.int .i64 r.2.1), (.int .i64 r.2.2)])) [(3, .ptr 0 1 0), (4, .ptr 0 2 0), (7, .d .nilptr), (8, .d (.int .i64 4))] [[.cells [.d (.os 3 (D.ageds (YN.Ds a0.types))), .d (.os 5 (D.ageds (XN.Ds a0.terms)))], .cells [.d (.int .u8 a1.kind), .d (.str a1.name), .d (.bool a1.ty.v), .d (.str a1.ty.name), .d (.os 3 (D.ageds (Ty.Ds a1.ty.args))), .d (.int .i64 a1.index), .d (.os 7 (D.ageds (Tm.Ds a1.sub)))], .cells [.nil 3, .nil 5]]] := by
 unfold hash_Add_o_j0 at e
 intro a0 a1
 refine Runs.enter T_ok ?_; conv => whnf
 refine ⟨⟨fun h => absurd h (by decide), fun _ => ?_⟩⟩; conv => whnf
 refine ⟨⟨fun _ => ?_, fun h => absurd (by decide) h⟩⟩; conv => whnf
 obtain rfl := sm e
 repeat' first | exact rfl | exact trivial | refine ⟨?_, ?_⟩
theorem P_hash_Add_o_j0b {r : (AStore × Int × Int)} (e : hash_Add_o_j0b = some r) : ∀ (a0 : AStore) (a1 : Tm), JoinAt T Try.prog Try.f11 Fx0 [2] [1, 1, 0, 0] (EP T Try.f11 (.tuple [(AStore.D r.1), (.int .i64 r.2.1), (.int .i64 r.2.2)])) [(3, .ptr 0 1 0), (4, .ptr 0 2 0), (7, .d .nilptr), (8, .d (.int .i64 8))] [[.cells [.d (.os 3 (D.ageds (YN.Ds a0.types))), .d (.os 5 (D.ageds (XN.Ds a0.terms)))], .cells [.d (.int .u8 a1.kind), .d (.str a1.name), .d (.bool a1.ty.v), .d (.str a1.ty.name), .d (.os 3 (D.ageds (Ty.Ds a1.ty.args))), .d (.int .i64 a1.index), .d (.os 7 (D.ageds (Tm.Ds a1.sub)))], .cells [.nil 3, .nil 5]]] := by
 unfold hash_Add_o_j0b at e
 intro a0 a1
 refine Runs.enter T_ok ?_; conv => whnf
 refine ⟨⟨fun h => absurd h (by decide), fun _ => ?_⟩⟩; conv => whnf
 refine ⟨⟨fun _ => ?_, fun h => absurd (by decide) h⟩⟩; conv => whnf
 obtain rfl := sm e
 repeat' first | exact rfl | exact trivial | refine ⟨?_, ?_⟩
theorem P_hash_Add_o_j0c {a1 : Tm} {v4 : ((List YN) × (List XN) × (List (HTK × Int)) × (List (HMK × Int)))} {r : (AStore × Int × Int)} (e : hash_Add_o_j0c a1 v4 = some r) : ∀ (a0 : AStore), JoinAt T Try.prog Try.f11 Fx0 [2] [1, 1, 0, 0] (EP T Try.f11 (.tuple [(AStore.D r.1), (.int .i64 r.2.1), (.int .i64 r.2.2)])) [(3, .ptr 0 1 0), (4, .ptr 0 2 0), (7, .ptr 0 3 0), (8, .d (.int .i64 0))] [[.cells [.d (.os 3 (D.ageds (YN.Ds a0.types))), .d (.os 5 (D.ageds (XN.Ds a0.terms)))], .cells [.d (.int .u8 a1.kind), .d (.str a1.name), .d (.bool a1.ty.v), .d (.str a1.ty.name), .d (.os 3 (D.ageds (Ty.Ds a1.ty.args))), .d (.int .i64 a1.index), .d (.os 7 (D.ageds (Tm.Ds a1.sub)))], .cells [.nil 3, .nil 5], .cells [.own 0 4 3 (YN.Ds v4.1), .own 0 5 5 (XN.Ds v4.2.1), .map 0 6, .map 0 7], .grow 3 (YN.Ds v4.1).length, .grow 5 (XN.Ds v4.2.1).length, .map (mapD HTK.D (D.int .i64) v4.2.2.1), .map (mapD HMK.D (D.int .i64) v4.2.2.2)]] := by
 unfold hash_Add_o_j0c at e
 intro a0
 refine Runs.enter T_ok ?_; conv => whnf
 refine ⟨⟨fun _ => ?_, fun h => absurd (by decide) h⟩⟩; conv => whnf
 obtain ⟨v5, qv5, e⟩ := bnd e
 refine said_aged (P_terms_Check qv5) rfl ⟨.inr rfl, trivial⟩ rfl ?_; conv => whnf
 refine ⟨⟨fun h6 => ?_, fun h6 => ?_⟩⟩
 ·replace e := ifp h6 e; conv => whnf
  obtain rfl := sm e
  repeat' first | exact rfl | exact trivial | refine ⟨?_, ?_⟩
 ·replace e := ifn h6 e; conv => whnf
  obtain ⟨v7, qv7, e⟩ := bnd e
  first | (refine said_iorF (P_hx_add_o_io qv7) [3, 4, 5, 6, 7] [.ptr 0 3 0, .d (D.aged (Tm.D a1))] rfl ⟨wk.refl _, wk.pure rfl, trivial⟩ rfl rfl ?_) | (refine said_iorF2 (P_hx_add_o_io qv7) [3, 4, 5, 6, 7] [.ptr 0 3 0, .d (D.aged (Tm.D a1))] rfl ⟨wk.refl _, wk.pure rfl, trivial⟩ rfl rfl (by simp [XN.Ds_all, YN.Ds_all, Tm.Ds_all, Ty.Ds_all, AStore.D, XN.D, YN.D, Tm.D, Ty.D, listAll, ageds_len, ageds_nil] <;> (repeat' first | rfl | apply And.intro)) ?_)
  (conv => whnf)
  obtain ⟨v8, qv8, e⟩ := bnd e
  rcases v8 with v9 | v10
  ·first | (refine said_iorF (P_hx_done_io qv8) [3, 4, 5, 6, 7] [.ptr 0 3 0, .d (.int .i64 v7.1)] rfl ⟨wk.refl _, wk.pure rfl, trivial⟩ rfl rfl ?_) | (refine said_iorF2 (P_hx_done_io qv8) [3, 4, 5, 6, 7] [.ptr 0 3 0, .d (.int .i64 v7.1)] rfl ⟨wk.refl _, wk.pure rfl, trivial⟩ rfl rfl (by simp [XN.Ds_all, YN.Ds_all, Tm.Ds_all, Ty.Ds_all, AStore.D, XN.D, YN.D, Tm.D, Ty.D, listAll, ageds_len, ageds_nil] <;> (repeat' first | rfl | apply And.intro)) ?_)
   (conv => whnf)
   obtain rfl := sm e
   repeat' first | exact rfl | exact trivial | refine ⟨?_, ?_⟩
  ·first | (refine said_iorF (P_hx_done_io qv8) [3, 4, 5, 6, 7] [.ptr 0 3 0, .d (.int .i64 v7.1)] rfl ⟨wk.refl _, wk.pure rfl, trivial⟩ rfl rfl ?_) | (refine said_iorF2 (P_hx_done_io qv8) [3, 4, 5, 6, 7] [.ptr 0 3 0, .d (.int .i64 v7.1)] rfl ⟨wk.refl _, wk.pure rfl, trivial⟩ rfl rfl (by simp [XN.Ds_all, YN.Ds_all, Tm.Ds_all, Ty.Ds_all, AStore.D, XN.D, YN.D, Tm.D, Ty.D, listAll, ageds_len, ageds_nil] <;> (repeat' first | rfl | apply And.intro)) ?_)
   (conv => whnf)
   obtain rfl := sm e
   repeat' first | exact rfl | exact trivial | refine ⟨_, rfl, ?_, ?_⟩ | refine ⟨?_, ?_⟩ | (simp [XN.Ds_all, YN.Ds_all, Tm.Ds_all, Ty.Ds_all, AStore.D, XN.D, YN.D, Tm.D, Ty.D, listAll, ageds_len, ageds_nil] <;> (repeat' first | rfl | apply And.intro))
theorem P_hash_Add_o {a0 : AStore} {a1 : Tm} {r : (AStore × Int × Int)} (e : hash_Add_o a0 a1 = some r) : Pure Try.prog 11 [(D.aged (AStore.D a0)), (D.aged (Tm.D a1))] (.tuple [(AStore.D r.1), (.int .i64 r.2.1), (.int .i64 r.2.2)]) := by
 unfold hash_Add_o at e
 refine pure_of_awp (js := [2]) T_ok Try.func11 rfl (by decide +kernel) rfl ?_; conv => whnf
 obtain ⟨v1, qv1, e⟩ := bnd e
 rcases v1 with v2 | v3 | v4
 ·refine said_iorF (P_hash_open_o_io qv1) [] [.d (D.aged (AStore.D a0))] rfl ⟨wk.pure rfl, trivial⟩ rfl rfl ?_; conv => whnf
  refine Runs.weak ((P_hash_Add_o_j0 e) a0 a1) ?_
  repeat' first | exact wk.of_eq rfl | exact wk.pure rfl | exact wk.un _ | exact wk.hold _ _ _ | exact wk.holdG _ _ _ | exact rfl | exact trivial | refine ⟨?_, ?_⟩
 ·refine said_iorF (P_hash_open_o_io qv1) [] [.d (D.aged (AStore.D a0))] rfl ⟨wk.pure rfl, trivial⟩ rfl rfl ?_; conv => whnf
  refine Runs.weak ((P_hash_Add_o_j0b e) a0 a1) ?_
  repeat' first | exact wk.of_eq rfl | exact wk.pure rfl | exact wk.un _ | exact wk.hold _ _ _ | exact wk.holdG _ _ _ | exact rfl | exact trivial | refine ⟨?_, ?_⟩
 ·refine said_iorF (P_hash_open_o_io qv1) [] [.d (D.aged (AStore.D a0))] rfl ⟨wk.pure rfl, trivial⟩ rfl rfl ?_; conv => whnf
  refine Runs.weak ((P_hash_Add_o_j0c e) a0) ?_
  repeat' first | exact wk.of_eq rfl | exact wk.pure rfl | exact wk.un _ | exact wk.hold _ _ _ | exact wk.holdG _ _ _ | exact rfl | exact trivial | refine ⟨?_, ?_⟩ | (refine wk.of_eq ?_; (conv => lhs; whnf); (simp [XN.Ds_all, YN.Ds_all, Tm.Ds_all, Ty.Ds_all, AStore.D, XN.D, YN.D, Tm.D, Ty.D, listAll, ageds_len, ageds_nil] <;> (repeat' first | rfl | apply And.intro)); done) | (refine wk.pure ?_; (conv => lhs; whnf); (simp [XN.Ds_all, YN.Ds_all, Tm.Ds_all, Ty.Ds_all, AStore.D, XN.D, YN.D, Tm.D, Ty.D, listAll, ageds_len, ageds_nil] <;> (repeat' first | rfl | apply And.intro)); done) | ((simp [XN.Ds_all, YN.Ds_all, Tm.Ds_all, Ty.Ds_all, AStore.D, XN.D, YN.D, Tm.D, Ty.D, listAll, ageds_len, ageds_nil] <;> (repeat' first | rfl | apply And.intro)); done) | (simp [XN.Ds_all, YN.Ds_all, Tm.Ds_all, Ty.Ds_all, AStore.D, XN.D, YN.D, Tm.D, Ty.D, listAll, ageds_len, ageds_nil]; omega)
theorem P_hash_AddType_o_j0 {r : (AStore × Int × Int)} (e : hash_AddType_o_j0 = some r) : ∀ (a0 : AStore) (a1 : Ty), JoinAt T Try.prog Try.f8 Fx0 [2] [1, 1, 0, 0] (EP T Try.f8 (.tuple [(AStore.D r.1), (.int .i64 r.2.1), (.int .i64 r.2.2)])) [(3, .ptr 0 1 0), (4, .ptr 0 2 0), (7, .d .nilptr), (8, .d (.int .i64 4))] [[.cells [.d (.os 3 (D.ageds (YN.Ds a0.types))), .d (.os 5 (D.ageds (XN.Ds a0.terms)))], .cells [.d (.bool a1.v), .d (.str a1.name), .d (.os 3 (D.ageds (Ty.Ds a1.args)))], .cells [.nil 3, .nil 5]]] := by
 unfold hash_AddType_o_j0 at e
 intro a0 a1
 refine Runs.enter T_ok ?_; conv => whnf
 refine ⟨⟨fun h => absurd h (by decide), fun _ => ?_⟩⟩; conv => whnf
 refine ⟨⟨fun _ => ?_, fun h => absurd (by decide) h⟩⟩; conv => whnf
 obtain rfl := sm e
 repeat' first | exact rfl | exact trivial | refine ⟨?_, ?_⟩
end Go.Proofs.Ytemfpemejagndaa.Fw


set_option maxHeartbeats 4000000
namespace Go.Proofs.Ytemfpemejagndaa.Fw
open Go Go.Proofs Go.RowKit
theorem P_hash_AddType_o_j0b {r : (AStore × Int × Int)} (e : hash_AddType_o_j0b = some r) : ∀ (a0 : AStore) (a1 : Ty), JoinAt T Try.prog Try.f8 Fx0 [2] [1, 1, 0, 0] (EP T Try.f8 (.tuple [(AStore.D r.1), (.int .i64 r.2.1), (.int .i64 r.2.2)])) [(3, .ptr 0 1 0), (4, .ptr 0 2 0), (7, .d .nilptr), (8, .d (.int .i64 8))] [[.cells [.d (.os 3 (D.ageds (YN.Ds a0.types))), .d (.os 5 (D.ageds (XN.Ds a0.terms)))], .cells [.d (.bool a1.v), .d (.str a1.name), .d (.os 3 (D.ageds (Ty.Ds a1.args)))], .cells [.nil 3, .nil 5]]] := by
 unfold hash_AddType_o_j0b at e
 intro a0 a1
 refine Runs.enter T_ok ?_; conv => whnf
 refine ⟨⟨fun h => absurd h (by decide), fun _ => ?_⟩⟩; conv => whnf
 refine ⟨⟨fun _ => ?_, fun h => absurd (by decide) h⟩⟩; conv => whnf
 obtain rfl := sm e
 repeat' first | exact rfl | exact trivial | refine ⟨?_, ?_⟩
theorem P_hash_AddType_o_j0c {a1 : Ty} {v4 : ((List YN) × (List XN) × (List (HTK × Int)) × (List (HMK × Int)))} {r : (AStore × Int × Int)} (e : hash_AddType_o_j0c a1 v4 = some r) : ∀ (a0 : AStore), JoinAt T Try.prog Try.f8 Fx0 [2] [1, 1, 0, 0] (EP T Try.f8 (.tuple [(AStore.D r.1), (.int .i64 r.2.1), (.int .i64 r.2.2)])) [(3, .ptr 0 1 0), (4, .ptr 0 2 0), (7, .ptr 0 3 0), (8, .d (.int .i64 0))] [[.cells [.d (.os 3 (D.ageds (YN.Ds a0.types))), .d (.os 5 (D.ageds (XN.Ds a0.terms)))], .cells [.d (.bool a1.v), .d (.str a1.name), .d (.os 3 (D.ageds (Ty.Ds a1.args)))], .cells [.nil 3, .nil 5], .cells [.own 0 4 3 (YN.Ds v4.1), .own 0 5 5 (XN.Ds v4.2.1), .map 0 6, .map 0 7], .grow 3 (YN.Ds v4.1).length, .grow 5 (XN.Ds v4.2.1).length, .map (mapD HTK.D (D.int .i64) v4.2.2.1), .map (mapD HMK.D (D.int .i64) v4.2.2.2)]] := by
 unfold hash_AddType_o_j0c at e
 intro a0
 refine Runs.enter T_ok ?_; conv => whnf
 refine ⟨⟨fun _ => ?_, fun h => absurd (by decide) h⟩⟩; conv => whnf
 obtain ⟨v5, qv5, e⟩ := bnd e
 refine said_aged (P_types_Check qv5) rfl ⟨.inr rfl, trivial⟩ rfl ?_; conv => whnf
 refine ⟨⟨fun h6 => ?_, fun h6 => ?_⟩⟩
 ·replace e := ifp h6 e; conv => whnf
  obtain rfl := sm e
  repeat' first | exact rfl | exact trivial | refine ⟨?_, ?_⟩
 ·replace e := ifn h6 e; conv => whnf
  obtain ⟨v7, qv7, e⟩ := bnd e
  first | (refine said_iorF (P_hx_addType_o_io qv7) [3, 4, 5, 6, 7] [.ptr 0 3 0, .d (D.aged (Ty.D a1))] rfl ⟨wk.refl _, wk.pure rfl, trivial⟩ rfl rfl ?_) | (refine said_iorF2 (P_hx_addType_o_io qv7) [3, 4, 5, 6, 7] [.ptr 0 3 0, .d (D.aged (Ty.D a1))] rfl ⟨wk.refl _, wk.pure rfl, trivial⟩ rfl rfl (by simp [XN.Ds_all, YN.Ds_all, Ty.Ds_all, AStore.D, XN.D, YN.D, Ty.D, listAll, ageds_len, ageds_nil] <;> (repeat' first | rfl | apply And.intro)) ?_)
  (conv => whnf)
  obtain ⟨v8, qv8, e⟩ := bnd e
  rcases v8 with v9 | v10
  ·first | (refine said_iorF (P_hx_done_io qv8) [3, 4, 5, 6, 7] [.ptr 0 3 0, .d (.int .i64 v7.1)] rfl ⟨wk.refl _, wk.pure rfl, trivial⟩ rfl rfl ?_) | (refine said_iorF2 (P_hx_done_io qv8) [3, 4, 5, 6, 7] [.ptr 0 3 0, .d (.int .i64 v7.1)] rfl ⟨wk.refl _, wk.pure rfl, trivial⟩ rfl rfl (by simp [XN.Ds_all, YN.Ds_all, Ty.Ds_all, AStore.D, XN.D, YN.D, Ty.D, listAll, ageds_len, ageds_nil] <;> (repeat' first | rfl | apply And.intro)) ?_)
   (conv => whnf)
   obtain rfl := sm e
   repeat' first | exact rfl | exact trivial | refine ⟨?_, ?_⟩
  ·first | (refine said_iorF (P_hx_done_io qv8) [3, 4, 5, 6, 7] [.ptr 0 3 0, .d (.int .i64 v7.1)] rfl ⟨wk.refl _, wk.pure rfl, trivial⟩ rfl rfl ?_) | (refine said_iorF2 (P_hx_done_io qv8) [3, 4, 5, 6, 7] [.ptr 0 3 0, .d (.int .i64 v7.1)] rfl ⟨wk.refl _, wk.pure rfl, trivial⟩ rfl rfl (by simp [XN.Ds_all, YN.Ds_all, Ty.Ds_all, AStore.D, XN.D, YN.D, Ty.D, listAll, ageds_len, ageds_nil] <;> (repeat' first | rfl | apply And.intro)) ?_)
   (conv => whnf)
   obtain rfl := sm e
   repeat' first | exact rfl | exact trivial | refine ⟨_, rfl, ?_, ?_⟩ | refine ⟨?_, ?_⟩ | (simp [XN.Ds_all, YN.Ds_all, Ty.Ds_all, AStore.D, XN.D, YN.D, Ty.D, listAll, ageds_len, ageds_nil] <;> (repeat' first | rfl | apply And.intro))
theorem P_hash_AddType_o {a0 : AStore} {a1 : Ty} {r : (AStore × Int × Int)} (e : hash_AddType_o a0 a1 = some r) : Pure Try.prog 8 [(D.aged (AStore.D a0)), (D.aged (Ty.D a1))] (.tuple [(AStore.D r.1), (.int .i64 r.2.1), (.int .i64 r.2.2)]) := by
 unfold hash_AddType_o at e
 refine pure_of_awp (js := [2]) T_ok Try.func8 rfl (by decide +kernel) rfl ?_; conv => whnf
 obtain ⟨v1, qv1, e⟩ := bnd e
 rcases v1 with v2 | v3 | v4
 ·refine said_iorF (P_hash_open_o_io qv1) [] [.d (D.aged (AStore.D a0))] rfl ⟨wk.pure rfl, trivial⟩ rfl rfl ?_; conv => whnf
  refine Runs.weak ((P_hash_AddType_o_j0 e) a0 a1) ?_
  repeat' first | exact wk.of_eq rfl | exact wk.pure rfl | exact wk.un _ | exact wk.hold _ _ _ | exact wk.holdG _ _ _ | exact rfl | exact trivial | refine ⟨?_, ?_⟩
 ·refine said_iorF (P_hash_open_o_io qv1) [] [.d (D.aged (AStore.D a0))] rfl ⟨wk.pure rfl, trivial⟩ rfl rfl ?_; conv => whnf
  refine Runs.weak ((P_hash_AddType_o_j0b e) a0 a1) ?_
  repeat' first | exact wk.of_eq rfl | exact wk.pure rfl | exact wk.un _ | exact wk.hold _ _ _ | exact wk.holdG _ _ _ | exact rfl | exact trivial | refine ⟨?_, ?_⟩
 ·refine said_iorF (P_hash_open_o_io qv1) [] [.d (D.aged (AStore.D a0))] rfl ⟨wk.pure rfl, trivial⟩ rfl rfl ?_; conv => whnf
  refine Runs.weak ((P_hash_AddType_o_j0c e) a0) ?_
  repeat' first | exact wk.of_eq rfl | exact wk.pure rfl | exact wk.un _ | exact wk.hold _ _ _ | exact wk.holdG _ _ _ | exact rfl | exact trivial | refine ⟨?_, ?_⟩ | (refine wk.of_eq ?_; (conv => lhs; whnf); (simp [XN.Ds_all, YN.Ds_all, Ty.Ds_all, AStore.D, XN.D, YN.D, Ty.D, listAll, ageds_len, ageds_nil] <;> (repeat' first | rfl | apply And.intro)); done) | (refine wk.pure ?_; (conv => lhs; whnf); (simp [XN.Ds_all, YN.Ds_all, Ty.Ds_all, AStore.D, XN.D, YN.D, Ty.D, listAll, ageds_len, ageds_nil] <;> (repeat' first | rfl | apply And.intro)); done) | ((simp [XN.Ds_all, YN.Ds_all, Ty.Ds_all, AStore.D, XN.D, YN.D, Ty.D, listAll, ageds_len, ageds_nil] <;> (repeat' first | rfl | apply And.intro)); done) | (simp [XN.Ds_all, YN.Ds_all, Ty.Ds_all, AStore.D, XN.D, YN.D, Ty.D, listAll, ageds_len, ageds_nil]; omega)
theorem P_hash_Find_o_j0 {r : (Int × Bool × Int)} (e : hash_Find_o_j0 = some r) : ∀ (a0 : AStore) (a1 : Tm), JoinAt T Try.prog Try.f13 Fx0 [2] [1, 1, 0, 0] (EP T Try.f13 (.tuple [(.int .i64 r.1), (.bool r.2.1), (.int .i64 r.2.2)])) [(3, .ptr 0 1 0), (7, .d .nilptr), (8, .d (.int .i64 4))] [[.cells [.d (.os 3 (D.ageds (YN.Ds a0.types))), .d (.os 5 (D.ageds (XN.Ds a0.terms)))], .cells [.d (.int .u8 a1.kind), .d (.str a1.name), .d (.bool a1.ty.v), .d (.str a1.ty.name), .d (.os 3 (D.ageds (Ty.Ds a1.ty.args))), .d (.int .i64 a1.index), .d (.os 7 (D.ageds (Tm.Ds a1.sub)))]]] := by
 unfold hash_Find_o_j0 at e
 intro a0 a1
 refine Runs.enter T_ok ?_; conv => whnf
 refine ⟨⟨fun h => absurd h (by decide), fun _ => ?_⟩⟩; conv => whnf
 refine ⟨⟨fun _ => ?_, fun h => absurd (by decide) h⟩⟩; conv => whnf
 obtain rfl := sm e
 repeat' first | exact rfl | exact trivial | refine ⟨?_, ?_⟩
theorem P_hash_Find_o_j0b {r : (Int × Bool × Int)} (e : hash_Find_o_j0b = some r) : ∀ (a0 : AStore) (a1 : Tm), JoinAt T Try.prog Try.f13 Fx0 [2] [1, 1, 0, 0] (EP T Try.f13 (.tuple [(.int .i64 r.1), (.bool r.2.1), (.int .i64 r.2.2)])) [(3, .ptr 0 1 0), (7, .d .nilptr), (8, .d (.int .i64 8))] [[.cells [.d (.os 3 (D.ageds (YN.Ds a0.types))), .d (.os 5 (D.ageds (XN.Ds a0.terms)))], .cells [.d (.int .u8 a1.kind), .d (.str a1.name), .d (.bool a1.ty.v), .d (.str a1.ty.name), .d (.os 3 (D.ageds (Ty.Ds a1.ty.args))), .d (.int .i64 a1.index), .d (.os 7 (D.ageds (Tm.Ds a1.sub)))]]] := by
 unfold hash_Find_o_j0b at e
 intro a0 a1
 refine Runs.enter T_ok ?_; conv => whnf
 refine ⟨⟨fun h => absurd h (by decide), fun _ => ?_⟩⟩; conv => whnf
 refine ⟨⟨fun _ => ?_, fun h => absurd (by decide) h⟩⟩; conv => whnf
 obtain rfl := sm e
 repeat' first | exact rfl | exact trivial | refine ⟨?_, ?_⟩
theorem P_hash_Find_o_j0c {a1 : Tm} {v4 : ((List YN) × (List XN) × (List (HTK × Int)) × (List (HMK × Int)))} {r : (Int × Bool × Int)} (e : hash_Find_o_j0c a1 v4 = some r) : ∀ (a0 : AStore), JoinAt T Try.prog Try.f13 Fx0 [2] [1, 1, 0, 0] (EP T Try.f13 (.tuple [(.int .i64 r.1), (.bool r.2.1), (.int .i64 r.2.2)])) [(3, .ptr 0 1 0), (7, .ptr 0 2 0), (8, .d (.int .i64 0))] [[.cells [.d (.os 3 (D.ageds (YN.Ds a0.types))), .d (.os 5 (D.ageds (XN.Ds a0.terms)))], .cells [.d (.int .u8 a1.kind), .d (.str a1.name), .d (.bool a1.ty.v), .d (.str a1.ty.name), .d (.os 3 (D.ageds (Ty.Ds a1.ty.args))), .d (.int .i64 a1.index), .d (.os 7 (D.ageds (Tm.Ds a1.sub)))], .cells [.own 0 3 3 (YN.Ds v4.1), .own 0 4 5 (XN.Ds v4.2.1), .map 0 5, .map 0 6], .grow 3 (YN.Ds v4.1).length, .grow 5 (XN.Ds v4.2.1).length, .map (mapD HTK.D (D.int .i64) v4.2.2.1), .map (mapD HMK.D (D.int .i64) v4.2.2.2)]] := by
 unfold hash_Find_o_j0c at e
 intro a0
 refine Runs.enter T_ok ?_; conv => whnf
 refine ⟨⟨fun _ => ?_, fun h => absurd (by decide) h⟩⟩; conv => whnf
 obtain ⟨v5, qv5, e⟩ := bnd e
 refine said_aged (P_terms_Check qv5) rfl ⟨.inr rfl, trivial⟩ rfl ?_; conv => whnf
 refine ⟨⟨fun h6 => ?_, fun h6 => ?_⟩⟩
 ·replace e := ifp h6 e; conv => whnf
  obtain rfl := sm e
  repeat' first | exact rfl | exact trivial | refine ⟨?_, ?_⟩
 ·replace e := ifn h6 e; conv => whnf
  obtain ⟨v7, qv7, e⟩ := bnd e
  first | (refine said_iorF (P_hx_add_o_io qv7) [2, 3, 4, 5, 6] [.ptr 0 2 0, .d (D.aged (Tm.D a1))] rfl ⟨wk.refl _, wk.pure rfl, trivial⟩ rfl rfl ?_) | (refine said_iorF2 (P_hx_add_o_io qv7) [2, 3, 4, 5, 6] [.ptr 0 2 0, .d (D.aged (Tm.D a1))] rfl ⟨wk.refl _, wk.pure rfl, trivial⟩ rfl rfl (by simp [XN.Ds_all, YN.Ds_all, Tm.Ds_all, Ty.Ds_all, AStore.D, XN.D, YN.D, Tm.D, Ty.D, listAll, ageds_len, ageds_nil] <;> (repeat' first | rfl | apply And.intro)) ?_)
  (conv => whnf)
  refine ⟨⟨fun h8 => ?_, fun h8 => ?_⟩⟩
  ·replace e := ifp (by first | exact h8 | omega | simpa [XN.Ds_all, YN.Ds_all, Tm.Ds_all, Ty.Ds_all, AStore.D, XN.D, YN.D, Tm.D, Ty.D, listAll, ageds_len, ageds_nil] using h8) e; conv => whnf
   obtain rfl := sm e
   repeat' first | exact rfl | exact trivial | refine ⟨?_, ?_⟩
  ·replace e := ifn (by first | exact h8 | omega | simpa [XN.Ds_all, YN.Ds_all, Tm.Ds_all, Ty.Ds_all, AStore.D, XN.D, YN.D, Tm.D, Ty.D, listAll, ageds_len, ageds_nil] using h8) e; conv => whnf
   obtain rfl := sm e
   repeat' first | exact rfl | exact trivial | refine ⟨?_, ?_⟩
theorem P_hash_Find_o {a0 : AStore} {a1 : Tm} {r : (Int × Bool × Int)} (e : hash_Find_o a0 a1 = some r) : Pure Try.prog 13 [(D.aged (AStore.D a0)), (D.aged (Tm.D a1))] (.tuple [(.int .i64 r.1), (.bool r.2.1), (.int .i64 r.2.2)]) := by
 unfold hash_Find_o at e
 refine pure_of_awp (js := [2]) T_ok Try.func13 rfl (by decide +kernel) rfl ?_; conv => whnf
 obtain ⟨v1, qv1, e⟩ := bnd e
 rcases v1 with v2 | v3 | v4
 ·refine said_iorF (P_hash_open_o_io qv1) [] [.d (D.aged (AStore.D a0))] rfl ⟨wk.pure rfl, trivial⟩ rfl rfl ?_; conv => whnf
  refine Runs.weak ((P_hash_Find_o_j0 e) a0 a1) ?_
  repeat' first | exact wk.of_eq rfl | exact wk.pure rfl | exact wk.un _ | exact wk.hold _ _ _ | exact wk.holdG _ _ _ | exact rfl | exact trivial | refine ⟨?_, ?_⟩
 ·refine said_iorF (P_hash_open_o_io qv1) [] [.d (D.aged (AStore.D a0))] rfl ⟨wk.pure rfl, trivial⟩ rfl rfl ?_; conv => whnf
  refine Runs.weak ((P_hash_Find_o_j0b e) a0 a1) ?_
  repeat' first | exact wk.of_eq rfl | exact wk.pure rfl | exact wk.un _ | exact wk.hold _ _ _ | exact wk.holdG _ _ _ | exact rfl | exact trivial | refine ⟨?_, ?_⟩
 ·refine said_iorF (P_hash_open_o_io qv1) [] [.d (D.aged (AStore.D a0))] rfl ⟨wk.pure rfl, trivial⟩ rfl rfl ?_; conv => whnf
  refine Runs.weak ((P_hash_Find_o_j0c e) a0) ?_
  repeat' first | exact wk.of_eq rfl | exact wk.pure rfl | exact wk.un _ | exact wk.hold _ _ _ | exact wk.holdG _ _ _ | exact rfl | exact trivial | refine ⟨?_, ?_⟩ | (refine wk.of_eq ?_; (conv => lhs; whnf); (simp [XN.Ds_all, YN.Ds_all, Tm.Ds_all, Ty.Ds_all, AStore.D, XN.D, YN.D, Tm.D, Ty.D, listAll, ageds_len, ageds_nil] <;> (repeat' first | rfl | apply And.intro)); done) | (refine wk.pure ?_; (conv => lhs; whnf); (simp [XN.Ds_all, YN.Ds_all, Tm.Ds_all, Ty.Ds_all, AStore.D, XN.D, YN.D, Tm.D, Ty.D, listAll, ageds_len, ageds_nil] <;> (repeat' first | rfl | apply And.intro)); done) | ((simp [XN.Ds_all, YN.Ds_all, Tm.Ds_all, Ty.Ds_all, AStore.D, XN.D, YN.D, Tm.D, Ty.D, listAll, ageds_len, ageds_nil] <;> (repeat' first | rfl | apply And.intro)); done) | (simp [XN.Ds_all, YN.Ds_all, Tm.Ds_all, Ty.Ds_all, AStore.D, XN.D, YN.D, Tm.D, Ty.D, listAll, ageds_len, ageds_nil]; omega)
def M_z31_Great_l1 (rest1 : (List XN)) (t4_1 : Int) (r : Bool) : Prop := ∀ (a0 : AStore) (k1 : Nat) (hd1 : rest1 = a0.terms.drop k1), LoopAt T Try.prog Try.f4 Fx0 [2, 4] [1, 1, 1, 1, 1, 0, 1, 0] (EP T Try.f4 (.bool r)) [(1, .ptr 0 0 0), (4, .d (.int .i64 t4_1)), (6, .d (.int .i64 (k1 : Int)))] [[.cells [.d (.slice 3 (YN.Ds a0.types)), .d (.slice 5 (XN.Ds a0.terms))]]]
theorem G_z31_Great_l1 : (∀ p r, z31_Great_l1' p = some r → ∀ rest1 t4_1, (rest1, t4_1) = p → M_z31_Great_l1 rest1 t4_1 r) := by
 refine z31_Great_l1'.partial_correctness (fun (p : ((List XN) × Int)) (r : Bool) => ∀ (rest1 : (List XN)) (t4_1 : Int), (rest1, t4_1) = p → M_z31_Great_l1 rest1 t4_1 r) ?_
 ·intro f_z31_Great_l1 ih_z31_Great_l1 p r e rest1 t4_1 hp
  subst hp
  intro a0 k1 hd1
  refine RunsL.len_cell 0 1 rfl rfl rfl fun hlenk1 => ?_
  refine RunsL.of_awp (js := [2, 4]) T_ok ?_; conv => whnf
  have hls := XN.Ds_len a0.terms
  cases rest1 with
  | nil =>
   have hk := drop_nil hd1
   refine ⟨⟨fun h => absurd h (by omega), fun _ => ?_⟩⟩; conv => whnf
   obtain rfl := sm e
   repeat' first | exact rfl | exact trivial | refine ⟨?_, ?_⟩
  | cons v7 rest1 =>
   obtain ⟨hxv7, hd1, hltv7⟩ := drop_head hd1
   refine ⟨⟨fun _ => ?_, fun h => absurd (by omega) h⟩⟩; conv => whnf
   refine ⟨k1, _, rfl, XN.Ds_get hxv7, ?_⟩; conv => whnf
   obtain ⟨v8, qv8, e⟩ := bnd e
   refine ⟨v8, sm qv8, ?_⟩; conv => whnf
   refine ⟨k1, _, rfl, XN.Ds_get hxv7, ?_⟩; conv => whnf
   refine ⟨⟨fun h9 => ?_, fun h9 => ?_⟩⟩
   ·replace e := ifp (by first | exact h9 | omega | simpa [XN.Ds_all, YN.Ds_all, intDs_i64_all, AStore.D, XN.D, YN.D, listAll] using h9) e; conv => whnf
    obtain rfl := sm e
    repeat' first | exact rfl | exact trivial | refine ⟨?_, ?_⟩
   ·replace e := ifn (by first | exact h9 | omega | simpa [XN.Ds_all, YN.Ds_all, intDs_i64_all, AStore.D, XN.D, YN.D, listAll] using h9) e; conv => whnf
    refine ⟨⟨fun h10 => ?_, fun h10 => ?_⟩⟩
    ·replace e := ifp h10 e; conv => whnf
     obtain rfl := sm e
     repeat' first | exact rfl | exact trivial | refine ⟨?_, ?_⟩
    ·replace e := ifn h10 e; conv => whnf
     refine ⟨((k1 + 1 : Nat) : Int), wrap64e (by omega) (by omega) (by omega), ?_⟩; conv => whnf
     refine (RunsL.weak ((ih_z31_Great_l1 _ _ e _ _ rfl) a0 (k1 + 1) hd1) ?_)
     repeat' first | exact wk.of_eq rfl | exact wk.pure rfl | exact wk.un _ | exact wk.hold _ _ _ | exact wk.holdG _ _ _ | exact rfl | exact trivial | refine ⟨?_, ?_⟩
theorem P_z31_Great_l1 {rest1 : (List XN)} {t4_1 : Int} {r : Bool} (e : z31_Great_l1 rest1 t4_1 = some r) : M_z31_Great_l1 rest1 t4_1 r := G_z31_Great_l1 _ _ e _ _ rfl
def M_z31_Great_l0 (rest0 : (List YN)) (t4_0 : Int) (a0 : AStore) (r : Bool) : Prop := ∀ (k0 : Nat) (hd0 : rest0 = a0.types.drop k0), LoopAt T Try.prog Try.f4 Fx0 [2, 4] [1, 1, 1, 1, 0, 1, 0] (EP T Try.f4 (.bool r)) [(1, .ptr 0 0 0), (4, .d (.int .i64 t4_0)), (5, .d (.int .i64 (k0 : Int)))] [[.cells [.d (.slice 3 (YN.Ds a0.types)), .d (.slice 5 (XN.Ds a0.terms))]]]
theorem G_z31_Great_l0 : (∀ p r, z31_Great_l0' p = some r → ∀ rest0 t4_0 a0, (rest0, t4_0, a0) = p → M_z31_Great_l0 rest0 t4_0 a0 r) := by
 refine z31_Great_l0'.partial_correctness (fun (p : ((List YN) × Int × AStore)) (r : Bool) => ∀ (rest0 : (List YN)) (t4_0 : Int) (a0 : AStore), (rest0, t4_0, a0) = p → M_z31_Great_l0 rest0 t4_0 a0 r) ?_
 ·intro f_z31_Great_l0 ih_z31_Great_l0 p r e rest0 t4_0 a0 hp
  subst hp
  intro k0 hd0
  refine RunsL.len_cell 0 0 rfl rfl rfl fun hlenk0 => ?_
  refine RunsL.of_awp (js := [2, 4]) T_ok ?_; conv => whnf
  have hls := YN.Ds_len a0.types
  cases rest0 with
  | nil =>
   have hk := drop_nil hd0
   refine ⟨⟨fun h => absurd h (by omega), fun _ => ?_⟩⟩; conv => whnf
   refine RunsL.runs (RunsL.weak ((P_z31_Great_l1 e) a0 0 (by simp)) ?_)
   repeat' first | exact wk.of_eq rfl | exact wk.pure rfl | exact wk.un _ | exact wk.hold _ _ _ | exact wk.holdG _ _ _ | exact rfl | exact trivial | refine ⟨?_, ?_⟩
  | cons v6 rest0 =>
   obtain ⟨hxv6, hd0, hltv6⟩ := drop_head hd0
   refine ⟨⟨fun _ => ?_, fun h => absurd (by omega) h⟩⟩; conv => whnf
   refine ⟨k0, _, rfl, YN.Ds_get hxv6, ?_⟩; conv => whnf
   obtain ⟨v7, qv7, e⟩ := bnd e
   refine ⟨v7, sm qv7, ?_⟩; conv => whnf
   refine ⟨k0, _, rfl, YN.Ds_get hxv6, ?_⟩; conv => whnf
   refine ⟨⟨fun h8 => ?_, fun h8 => ?_⟩⟩
   ·replace e := ifp (by first | exact h8 | omega | simpa [XN.Ds_all, YN.Ds_all, intDs_i64_all, AStore.D, XN.D, YN.D, listAll] using h8) e; conv => whnf
    obtain rfl := sm e
    repeat' first | exact rfl | exact trivial | refine ⟨?_, ?_⟩
   ·replace e := ifn (by first | exact h8 | omega | simpa [XN.Ds_all, YN.Ds_all, intDs_i64_all, AStore.D, XN.D, YN.D, listAll] using h8) e; conv => whnf
    refine ⟨⟨fun h9 => ?_, fun h9 => ?_⟩⟩
    ·replace e := ifp h9 e; conv => whnf
     obtain rfl := sm e
     repeat' first | exact rfl | exact trivial | refine ⟨?_, ?_⟩
    ·replace e := ifn h9 e; conv => whnf
     refine ⟨((k0 + 1 : Nat) : Int), wrap64e (by omega) (by omega) (by omega), ?_⟩; conv => whnf
     refine (RunsL.weak ((ih_z31_Great_l0 _ _ e _ _ _ rfl) (k0 + 1) hd0) ?_)
     repeat' first | exact wk.of_eq rfl | exact wk.pure rfl | exact wk.un _ | exact wk.hold _ _ _ | exact wk.holdG _ _ _ | exact rfl | exact trivial | refine ⟨?_, ?_⟩
theorem P_z31_Great_l0 {rest0 : (List YN)} {t4_0 : Int} {a0 : AStore} {r : Bool} (e : z31_Great_l0 rest0 t4_0 a0 = some r) : M_z31_Great_l0 rest0 t4_0 a0 r := G_z31_Great_l0 _ _ e _ _ _ rfl
theorem P_z31_Great_j1 {a0 : AStore} {r : Bool} (e : z31_Great_j1 a0 = some r) : JoinAt T Try.prog Try.f4 Fx0 [2, 4] [1, 1, 1, 0] (EP T Try.f4 (.bool r)) [(1, .ptr 0 0 0)] [[.cells [.d (.slice 3 (YN.Ds a0.types)), .d (.slice 5 (XN.Ds a0.terms))]]] := by
 unfold z31_Great_j1 at e
 refine Runs.enter T_ok ?_; conv => whnf
 refine RunsL.runs (RunsL.weak ((P_z31_Great_l0 e) 0 (by simp)) ?_)
 repeat' first | exact wk.of_eq rfl | exact wk.pure rfl | exact wk.un _ | exact wk.hold _ _ _ | exact wk.holdG _ _ _ | exact rfl | exact trivial | refine ⟨?_, ?_⟩
theorem P_z31_Great_j0 {t3_2 : Bool} {a0 : AStore} {r : Bool} (e : z31_Great_j0 t3_2 a0 = some r) : JoinAt T Try.prog Try.f4 Fx0 [2, 4] [1, 1, 0, 0] (EP T Try.f4 (.bool r)) [(1, .ptr 0 0 0), (3, .d (.bool t3_2))] [[.cells [.d (.slice 3 (YN.Ds a0.types)), .d (.slice 5 (XN.Ds a0.terms))]]] := by
 unfold z31_Great_j0 at e
 refine Runs.enter T_ok ?_; conv => whnf
 refine ⟨⟨fun h4 => ?_, fun h4 => ?_⟩⟩
 ·replace e := ifp (by first | exact h4 | omega | simpa [XN.Ds_all, YN.Ds_all, intDs_i64_all, AStore.D, XN.D, YN.D, listAll] using h4) e; conv => whnf
  obtain rfl := sm e
  repeat' first | exact rfl | exact trivial | refine ⟨?_, ?_⟩
 ·replace e := ifn (by first | exact h4 | omega | simpa [XN.Ds_all, YN.Ds_all, intDs_i64_all, AStore.D, XN.D, YN.D, listAll] using h4) e; conv => whnf
  refine ⟨⟨fun h5 => ?_, fun h5 => ?_⟩⟩
  ·replace e := ifp (by first | exact h5 | omega | simpa [XN.Ds_all, YN.Ds_all, intDs_i64_all, AStore.D, XN.D, YN.D, listAll] using h5) e; conv => whnf
   obtain rfl := sm e
   repeat' first | exact rfl | exact trivial | refine ⟨?_, ?_⟩
  ·replace e := ifn (by first | exact h5 | omega | simpa [XN.Ds_all, YN.Ds_all, intDs_i64_all, AStore.D, XN.D, YN.D, listAll] using h5) e; conv => whnf
   refine brK.nsplit (fun hb6 => ?_) (fun hb6 => ?_)
   ·replace e := ifpb hb6 e; conv => whnf
    refine brK.ntt hb6 ?_; conv => whnf
    refine brK.ntt hb6 ?_; conv => whnf
    refine brK.ntt hb6 ?_; conv => whnf
    refine brK.ntt hb6 ?_; conv => whnf
    refine brK.ntt hb6 ?_; conv => whnf
    refine brK.ntt hb6 ?_; conv => whnf
    refine Runs.weak (P_z31_Great_j1 e) ?_
    repeat' first | exact wk.of_eq rfl | exact wk.pure rfl | exact wk.un _ | exact wk.hold _ _ _ | exact wk.holdG _ _ _ | exact rfl | exact trivial | refine ⟨?_, ?_⟩
   ·replace e := ifnb hb6 e; conv => whnf
    refine brK.nff hb6 ?_; conv => whnf
    refine brK.nff hb6 ?_; conv => whnf
    refine brK.nff hb6 ?_; conv => whnf
    refine ⟨⟨fun h7 => ?_, fun h7 => ?_⟩⟩
    ·replace e := ifp (by first | exact h7 | omega | simpa [XN.Ds_all, YN.Ds_all, intDs_i64_all, AStore.D, XN.D, YN.D, listAll] using h7) e; conv => whnf
     refine brK.nff hb6 ?_; conv => whnf
     refine brK.nff hb6 ?_; conv => whnf
     refine brK.nff hb6 ?_; conv => whnf
     obtain rfl := sm e
     repeat' first | exact rfl | exact trivial | refine ⟨?_, ?_⟩
    ·replace e := ifn (by first | exact h7 | omega | simpa [XN.Ds_all, YN.Ds_all, intDs_i64_all, AStore.D, XN.D, YN.D, listAll] using h7) e; conv => whnf
     refine brK.nff hb6 ?_; conv => whnf
     refine ⟨⟨fun h8 => ?_, fun h8 => ?_⟩⟩
     ·replace e := ifp (by first | exact h8 | omega | simpa [XN.Ds_all, YN.Ds_all, intDs_i64_all, AStore.D, XN.D, YN.D, listAll] using h8) e; conv => whnf
      refine brK.nff hb6 ?_; conv => whnf
      refine brK.nff hb6 ?_; conv => whnf
      obtain rfl := sm e
      repeat' first | exact rfl | exact trivial | refine ⟨?_, ?_⟩
     ·replace e := ifn (by first | exact h8 | omega | simpa [XN.Ds_all, YN.Ds_all, intDs_i64_all, AStore.D, XN.D, YN.D, listAll] using h8) e; conv => whnf
      refine brK.nff hb6 ?_; conv => whnf
      refine brK.nff hb6 ?_; conv => whnf
      refine Runs.weak (P_z31_Great_j1 e) ?_
      repeat' first | exact wk.of_eq rfl | exact wk.pure rfl | exact wk.un _ | exact wk.hold _ _ _ | exact wk.holdG _ _ _ | exact rfl | exact trivial | refine ⟨?_, ?_⟩
theorem P_z31_Great {a0 : AStore} {r : Bool} (e : z31_Great a0 = some r) : Pure Try.prog 4 [(AStore.D a0)] (.bool r) := by
 unfold z31_Great at e
 refine pure_of_awp (js := [2, 4]) T_ok Try.func4 rfl (by decide +kernel) rfl ?_; conv => whnf
 refine ⟨⟨fun h1 => ?_, fun h1 => ?_⟩⟩
 ·replace e := ifp (by first | exact h1 | omega | simpa [XN.Ds_all, YN.Ds_all, intDs_i64_all, AStore.D, XN.D, YN.D, listAll] using h1) e; conv => whnf
  refine Runs.weak (P_z31_Great_j0 e) ?_
  repeat' first | exact wk.of_eq rfl | exact wk.pure rfl | exact wk.un _ | exact wk.hold _ _ _ | exact wk.holdG _ _ _ | exact rfl | exact trivial | refine ⟨?_, ?_⟩
 ·replace e := ifn (by first | exact h1 | omega | simpa [XN.Ds_all, YN.Ds_all, intDs_i64_all, AStore.D, XN.D, YN.D, listAll] using h1) e; conv => whnf
  refine ⟨⟨fun h2 => ?_, fun h2 => ?_⟩⟩
  ·replace e := ifp (by first | exact h2 | omega | simpa [XN.Ds_all, YN.Ds_all, intDs_i64_all, AStore.D, XN.D, YN.D, listAll] using h2) e; conv => whnf
   refine Runs.weak (P_z31_Great_j0 e) ?_
   repeat' first | exact wk.of_eq rfl | exact wk.pure rfl | exact wk.un _ | exact wk.hold _ _ _ | exact wk.holdG _ _ _ | exact rfl | exact trivial | refine ⟨?_, ?_⟩
  ·replace e := ifn (by first | exact h2 | omega | simpa [XN.Ds_all, YN.Ds_all, intDs_i64_all, AStore.D, XN.D, YN.D, listAll] using h2) e; conv => whnf
   refine Runs.weak (P_z31_Great_j0 e) ?_
   repeat' first | exact wk.of_eq rfl | exact wk.pure rfl | exact wk.un _ | exact wk.hold _ _ _ | exact wk.holdG _ _ _ | exact rfl | exact trivial | refine ⟨?_, ?_⟩
end Go.Proofs.Ytemfpemejagndaa.Fw


set_option maxHeartbeats 4000000
namespace Go.Proofs.Ytemfpemejagndaa.Fw
open Go Go.Proofs Go.RowKit
def M_z31_Twin_l1 (rest1 : (List XN)) (c2_1_1 : (List XN)) (c2_0_0 : (List YN)) (r : AStore) : Prop := ∀ (a0 : AStore) (k1 : Nat) (hd1 : rest1 = a0.terms.drop k1), LoopAt T Try.prog Try.f7 Fx0 [8] [1, 1, 1, 0, 1, 0] (EP T Try.f7 (AStore.D r)) [(1, .ptr 0 0 0), (2, .ptr 0 1 0), (3, .ptr 0 2 0), (6, .d (.int .i64 (k1 : Int)))] [[.cells [.d (.slice 3 (YN.Ds a0.types)), .d (.slice 5 (XN.Ds a0.terms))], .cells [.nil 3, .nil 5], .cells [.own 0 3 3 (YN.Ds c2_0_0), .own 0 4 5 (XN.Ds c2_1_1)], .grow 3 (YN.Ds c2_0_0).length, .grow 5 (XN.Ds c2_1_1).length]]
theorem G_z31_Twin_l1 : (∀ p r, z31_Twin_l1' p = some r → ∀ rest1 c2_1_1 c2_0_0, (rest1, c2_1_1, c2_0_0) = p → M_z31_Twin_l1 rest1 c2_1_1 c2_0_0 r) := by
 refine z31_Twin_l1'.partial_correctness (fun (p : ((List XN) × (List XN) × (List YN))) (r : AStore) => ∀ (rest1 : (List XN)) (c2_1_1 : (List XN)) (c2_0_0 : (List YN)), (rest1, c2_1_1, c2_0_0) = p → M_z31_Twin_l1 rest1 c2_1_1 c2_0_0 r) ?_
 ·intro f_z31_Twin_l1 ih_z31_Twin_l1 p r e rest1 c2_1_1 c2_0_0 hp
  subst hp
  intro a0 k1 hd1
  refine RunsL.len_cell 0 1 rfl rfl rfl fun hlenk1 => ?_
  refine RunsL.of_awp (js := [8]) T_ok ?_; conv => whnf
  have hls := XN.Ds_len a0.terms
  cases rest1 with
  | nil =>
   have hk := drop_nil hd1
   refine ⟨⟨fun h => absurd h (by omega), fun _ => ?_⟩⟩; conv => whnf
   obtain rfl := sm e
   repeat' first | exact rfl | exact trivial | refine ⟨_, rfl, ?_, ?_⟩ | refine ⟨?_, ?_⟩ | (simp [XN.Ds_all, YN.Ds_all, intDs_i64_all, AStore.D, XN.D, YN.D, listAll] <;> (repeat' first | rfl | apply And.intro))
  | cons v7 rest1 =>
   obtain ⟨hxv7, hd1, hltv7⟩ := drop_head hd1
   refine ⟨⟨fun _ => ?_, fun h => absurd (by omega) h⟩⟩; conv => whnf
   refine ⟨k1, _, rfl, XN.Ds_get hxv7, ?_⟩; conv => whnf
   refine ⟨XN.Ds_fit _ rfl rfl, ?_⟩; conv => whnf
   refine ⟨trivial, ?_⟩; conv => whnf
   obtain ⟨v8, qv8, e⟩ := bnd e
   obtain ⟨qv8l, qv8e⟩ := app_some qv8
   refine ⟨(by first | exact qv8l | simpa [XN.Ds_all, YN.Ds_all, intDs_i64_all, AStore.D, XN.D, YN.D, listAll] using qv8l), rfl, fun hz => ?_, fun hz => ?_⟩
   ·have hyv8 : v7.sub = [] := by simpa [intDs_i64_map, List.map_eq_nil_iff, XN.Ds_all, YN.Ds_all, intDs_i64_all, AStore.D, XN.D, YN.D, listAll] using hz
    have hzv8 : v8 = ([] : List Int) := by rw [qv8e, hyv8]; simp
    (conv => whnf)
    refine ⟨⟨⟨rfl, rfl⟩, trivial⟩, ?_⟩; conv => whnf
    obtain ⟨v9, qv9, e⟩ := bnd e
    obtain ⟨qv9l, qv9e⟩ := app_some qv9
    refine ⟨(by first | exact qv9l | simpa [XN.Ds_all, YN.Ds_all, intDs_i64_all, AStore.D, XN.D, YN.D, listAll] using qv9l | simpa [XN.Ds_all, YN.Ds_all, intDs_i64_all, AStore.D, XN.D, YN.D, listAll, hzv8] using qv9l), rfl, (by first | rfl | simp [XN.Ds_all, YN.Ds_all, intDs_i64_all, AStore.D, XN.D, YN.D, listAll]), ?_⟩; conv => whnf
    refine ⟨((k1 + 1 : Nat) : Int), wrap64e (by omega) (by omega) (by omega), ?_⟩; conv => whnf
    refine (RunsL.weak ((ih_z31_Twin_l1 _ _ e _ _ _ rfl) a0 (k1 + 1) hd1) ?_)
    repeat' first | exact wk.of_eq rfl | exact wk.pure rfl | exact wk.un _ | exact wk.hold _ _ _ | exact wk.holdG _ _ _ | exact rfl | exact trivial | refine ⟨?_, ?_⟩ | (refine wk.of_eq ?_; (conv => lhs; whnf); (simp [XN.Ds_all, YN.Ds_all, intDs_i64_all, AStore.D, XN.D, YN.D, listAll, hzv8, qv9e] <;> (repeat' first | rfl | apply And.intro)); done) | (refine wk.pure ?_; (conv => lhs; whnf); (simp [XN.Ds_all, YN.Ds_all, intDs_i64_all, AStore.D, XN.D, YN.D, listAll, hzv8, qv9e] <;> (repeat' first | rfl | apply And.intro)); done) | ((simp [XN.Ds_all, YN.Ds_all, intDs_i64_all, AStore.D, XN.D, YN.D, listAll, hzv8, qv9e] <;> (repeat' first | rfl | apply And.intro)); done) | (simp [XN.Ds_all, YN.Ds_all, intDs_i64_all, AStore.D, XN.D, YN.D, listAll, hzv8, qv9e]; omega)
   ·(conv => whnf)
    refine ⟨⟨⟨rfl, rfl⟩, trivial⟩, ?_⟩; conv => whnf
    obtain ⟨v9, qv9, e⟩ := bnd e
    obtain ⟨qv9l, qv9e⟩ := app_some qv9
    refine ⟨(by first | exact qv9l | simpa [XN.Ds_all, YN.Ds_all, intDs_i64_all, AStore.D, XN.D, YN.D, listAll] using qv9l | simpa [XN.Ds_all, YN.Ds_all, intDs_i64_all, AStore.D, XN.D, YN.D, listAll, qv8e] using qv9l), rfl, (by first | rfl | simp [XN.Ds_all, YN.Ds_all, intDs_i64_all, AStore.D, XN.D, YN.D, listAll]), ?_⟩; conv => whnf
    refine ⟨((k1 + 1 : Nat) : Int), wrap64e (by omega) (by omega) (by omega), ?_⟩; conv => whnf
    refine (RunsL.weak ((ih_z31_Twin_l1 _ _ e _ _ _ rfl) a0 (k1 + 1) hd1) ?_)
    repeat' first | exact wk.of_eq rfl | exact wk.pure rfl | exact wk.un _ | exact wk.hold _ _ _ | exact wk.holdG _ _ _ | exact rfl | exact trivial | refine ⟨?_, ?_⟩ | (refine wk.of_eq ?_; (conv => lhs; whnf); (simp [XN.Ds_all, YN.Ds_all, intDs_i64_all, AStore.D, XN.D, YN.D, listAll, qv8e, qv9e] <;> (repeat' first | rfl | apply And.intro)); done) | (refine wk.pure ?_; (conv => lhs; whnf); (simp [XN.Ds_all, YN.Ds_all, intDs_i64_all, AStore.D, XN.D, YN.D, listAll, qv8e, qv9e] <;> (repeat' first | rfl | apply And.intro)); done) | ((simp [XN.Ds_all, YN.Ds_all, intDs_i64_all, AStore.D, XN.D, YN.D, listAll, qv8e, qv9e] <;> (repeat' first | rfl | apply And.intro)); done) | (simp [XN.Ds_all, YN.Ds_all, intDs_i64_all, AStore.D, XN.D, YN.D, listAll, qv8e, qv9e]; omega)
theorem P_z31_Twin_l1 {rest1 : (List XN)} {c2_1_1 : (List XN)} {c2_0_0 : (List YN)} {r : AStore} (e : z31_Twin_l1 rest1 c2_1_1 c2_0_0 = some r) : M_z31_Twin_l1 rest1 c2_1_1 c2_0_0 r := G_z31_Twin_l1 _ _ e _ _ _ rfl
theorem P_z31_Twin_j0 {a0 : AStore} {c2_0_0 : (List YN)} {r : AStore} (e : z31_Twin_j0 a0 c2_0_0 = some r) : JoinAt T Try.prog Try.f7 Fx0 [8] [1, 1, 1, 0, 0] (EP T Try.f7 (AStore.D r)) [(1, .ptr 0 0 0), (2, .ptr 0 1 0), (3, .ptr 0 2 0)] [[.cells [.d (.slice 3 (YN.Ds a0.types)), .d (.slice 5 (XN.Ds a0.terms))], .cells [.nil 3, .nil 5], .cells [.own 0 3 3 (YN.Ds c2_0_0), .nil 5], .grow 3 (YN.Ds c2_0_0).length]] := by
 unfold z31_Twin_j0 at e
 refine Runs.enter T_ok ?_; conv => whnf
 refine Runs.hold 5 ?_
 refine RunsL.runs (RunsL.weak ((P_z31_Twin_l1 e) a0 0 (by simp)) ?_)
 repeat' first | exact wk.of_eq rfl | exact wk.pure rfl | exact wk.un _ | exact wk.hold _ _ _ | exact wk.holdG _ _ _ | exact rfl | exact trivial | refine ⟨?_, ?_⟩ | (refine wk.of_eq ?_; (conv => lhs; whnf); (simp [XN.Ds_all, YN.Ds_all, intDs_i64_all, AStore.D, XN.D, YN.D, listAll] <;> (repeat' first | rfl | apply And.intro)); done) | (refine wk.pure ?_; (conv => lhs; whnf); (simp [XN.Ds_all, YN.Ds_all, intDs_i64_all, AStore.D, XN.D, YN.D, listAll] <;> (repeat' first | rfl | apply And.intro)); done) | ((simp [XN.Ds_all, YN.Ds_all, intDs_i64_all, AStore.D, XN.D, YN.D, listAll] <;> (repeat' first | rfl | apply And.intro)); done) | (simp [XN.Ds_all, YN.Ds_all, intDs_i64_all, AStore.D, XN.D, YN.D, listAll]; omega)
def M_z31_Twin_l0 (rest0 : (List YN)) (c2_0_0 : (List YN)) (a0 : AStore) (r : AStore) : Prop := ∀ (k0 : Nat) (hd0 : rest0 = a0.types.drop k0), LoopAt T Try.prog Try.f7 Fx0 [8] [1, 1, 0, 1, 0] (EP T Try.f7 (AStore.D r)) [(1, .ptr 0 0 0), (2, .ptr 0 1 0), (3, .ptr 0 2 0), (4, .d (.int .i64 (k0 : Int)))] [[.cells [.d (.slice 3 (YN.Ds a0.types)), .d (.slice 5 (XN.Ds a0.terms))], .cells [.nil 3, .nil 5], .cells [.own 0 3 3 (YN.Ds c2_0_0), .nil 5], .grow 3 (YN.Ds c2_0_0).length]]
theorem G_z31_Twin_l0 : (∀ p r, z31_Twin_l0' p = some r → ∀ rest0 c2_0_0 a0, (rest0, c2_0_0, a0) = p → M_z31_Twin_l0 rest0 c2_0_0 a0 r) := by
 refine z31_Twin_l0'.partial_correctness (fun (p : ((List YN) × (List YN) × AStore)) (r : AStore) => ∀ (rest0 : (List YN)) (c2_0_0 : (List YN)) (a0 : AStore), (rest0, c2_0_0, a0) = p → M_z31_Twin_l0 rest0 c2_0_0 a0 r) ?_
 ·intro f_z31_Twin_l0 ih_z31_Twin_l0 p r e rest0 c2_0_0 a0 hp
  subst hp
  intro k0 hd0
  refine RunsL.len_cell 0 0 rfl rfl rfl fun hlenk0 => ?_
  refine RunsL.of_awp (js := [8]) T_ok ?_; conv => whnf
  have hls := YN.Ds_len a0.types
  cases rest0 with
  | nil =>
   have hk := drop_nil hd0
   refine ⟨⟨fun h => absurd h (by omega), fun _ => ?_⟩⟩; conv => whnf
   refine Runs.weak (P_z31_Twin_j0 e) ?_
   repeat' first | exact wk.of_eq rfl | exact wk.pure rfl | exact wk.un _ | exact wk.hold _ _ _ | exact wk.holdG _ _ _ | exact rfl | exact trivial | refine ⟨?_, ?_⟩ | (refine wk.of_eq ?_; (conv => lhs; whnf); (simp [XN.Ds_all, YN.Ds_all, intDs_i64_all, AStore.D, XN.D, YN.D, listAll] <;> (repeat' first | rfl | apply And.intro)); done) | (refine wk.pure ?_; (conv => lhs; whnf); (simp [XN.Ds_all, YN.Ds_all, intDs_i64_all, AStore.D, XN.D, YN.D, listAll] <;> (repeat' first | rfl | apply And.intro)); done) | ((simp [XN.Ds_all, YN.Ds_all, intDs_i64_all, AStore.D, XN.D, YN.D, listAll] <;> (repeat' first | rfl | apply And.intro)); done) | (simp [XN.Ds_all, YN.Ds_all, intDs_i64_all, AStore.D, XN.D, YN.D, listAll]; omega)
  | cons v6 rest0 =>
   obtain ⟨hxv6, hd0, hltv6⟩ := drop_head hd0
   refine ⟨⟨fun _ => ?_, fun h => absurd (by omega) h⟩⟩; conv => whnf
   refine ⟨k0, _, rfl, YN.Ds_get hxv6, ?_⟩; conv => whnf
   refine ⟨YN.Ds_fit _ rfl rfl, ?_⟩; conv => whnf
   refine ⟨trivial, ?_⟩; conv => whnf
   obtain ⟨v7, qv7, e⟩ := bnd e
   obtain ⟨qv7l, qv7e⟩ := app_some qv7
   refine ⟨(by first | exact qv7l | simpa [XN.Ds_all, YN.Ds_all, intDs_i64_all, AStore.D, XN.D, YN.D, listAll] using qv7l), rfl, fun hz => ?_, fun hz => ?_⟩
   ·have hyv7 : v6.args = [] := by simpa [intDs_i64_map, List.map_eq_nil_iff, XN.Ds_all, YN.Ds_all, intDs_i64_all, AStore.D, XN.D, YN.D, listAll] using hz
    have hzv7 : v7 = ([] : List Int) := by rw [qv7e, hyv7]; simp
    (conv => whnf)
    refine ⟨⟨⟨rfl, rfl⟩, trivial⟩, ?_⟩; conv => whnf
    obtain ⟨v8, qv8, e⟩ := bnd e
    obtain ⟨qv8l, qv8e⟩ := app_some qv8
    refine ⟨(by first | exact qv8l | simpa [XN.Ds_all, YN.Ds_all, intDs_i64_all, AStore.D, XN.D, YN.D, listAll] using qv8l | simpa [XN.Ds_all, YN.Ds_all, intDs_i64_all, AStore.D, XN.D, YN.D, listAll, hzv7] using qv8l), rfl, (by first | rfl | simp [XN.Ds_all, YN.Ds_all, intDs_i64_all, AStore.D, XN.D, YN.D, listAll]), ?_⟩; conv => whnf
    refine ⟨((k0 + 1 : Nat) : Int), wrap64e (by omega) (by omega) (by omega), ?_⟩; conv => whnf
    refine (RunsL.weak ((ih_z31_Twin_l0 _ _ e _ _ _ rfl) (k0 + 1) hd0) ?_)
    repeat' first | exact wk.of_eq rfl | exact wk.pure rfl | exact wk.un _ | exact wk.hold _ _ _ | exact wk.holdG _ _ _ | exact rfl | exact trivial | refine ⟨?_, ?_⟩ | (refine wk.of_eq ?_; (conv => lhs; whnf); (simp [XN.Ds_all, YN.Ds_all, intDs_i64_all, AStore.D, XN.D, YN.D, listAll, hzv7, qv8e] <;> (repeat' first | rfl | apply And.intro)); done) | (refine wk.pure ?_; (conv => lhs; whnf); (simp [XN.Ds_all, YN.Ds_all, intDs_i64_all, AStore.D, XN.D, YN.D, listAll, hzv7, qv8e] <;> (repeat' first | rfl | apply And.intro)); done) | ((simp [XN.Ds_all, YN.Ds_all, intDs_i64_all, AStore.D, XN.D, YN.D, listAll, hzv7, qv8e] <;> (repeat' first | rfl | apply And.intro)); done) | (simp [XN.Ds_all, YN.Ds_all, intDs_i64_all, AStore.D, XN.D, YN.D, listAll, hzv7, qv8e]; omega)
   ·(conv => whnf)
    refine ⟨⟨⟨rfl, rfl⟩, trivial⟩, ?_⟩; conv => whnf
    obtain ⟨v8, qv8, e⟩ := bnd e
    obtain ⟨qv8l, qv8e⟩ := app_some qv8
    refine ⟨(by first | exact qv8l | simpa [XN.Ds_all, YN.Ds_all, intDs_i64_all, AStore.D, XN.D, YN.D, listAll] using qv8l | simpa [XN.Ds_all, YN.Ds_all, intDs_i64_all, AStore.D, XN.D, YN.D, listAll, qv7e] using qv8l), rfl, (by first | rfl | simp [XN.Ds_all, YN.Ds_all, intDs_i64_all, AStore.D, XN.D, YN.D, listAll]), ?_⟩; conv => whnf
    refine ⟨((k0 + 1 : Nat) : Int), wrap64e (by omega) (by omega) (by omega), ?_⟩; conv => whnf
    refine (RunsL.weak ((ih_z31_Twin_l0 _ _ e _ _ _ rfl) (k0 + 1) hd0) ?_)
    repeat' first | exact wk.of_eq rfl | exact wk.pure rfl | exact wk.un _ | exact wk.hold _ _ _ | exact wk.holdG _ _ _ | exact rfl | exact trivial | refine ⟨?_, ?_⟩ | (refine wk.of_eq ?_; (conv => lhs; whnf); (simp [XN.Ds_all, YN.Ds_all, intDs_i64_all, AStore.D, XN.D, YN.D, listAll, qv7e, qv8e] <;> (repeat' first | rfl | apply And.intro)); done) | (refine wk.pure ?_; (conv => lhs; whnf); (simp [XN.Ds_all, YN.Ds_all, intDs_i64_all, AStore.D, XN.D, YN.D, listAll, qv7e, qv8e] <;> (repeat' first | rfl | apply And.intro)); done) | ((simp [XN.Ds_all, YN.Ds_all, intDs_i64_all, AStore.D, XN.D, YN.D, listAll, qv7e, qv8e] <;> (repeat' first | rfl | apply And.intro)); done) | (simp [XN.Ds_all, YN.Ds_all, intDs_i64_all, AStore.D, XN.D, YN.D, listAll, qv7e, qv8e]; omega)
theorem P_z31_Twin_l0 {rest0 : (List YN)} {c2_0_0 : (List YN)} {a0 : AStore} {r : AStore} (e : z31_Twin_l0 rest0 c2_0_0 a0 = some r) : M_z31_Twin_l0 rest0 c2_0_0 a0 r := G_z31_Twin_l0 _ _ e _ _ _ rfl
theorem P_z31_Twin {a0 : AStore} {r : AStore} (e : z31_Twin a0 = some r) : Pure Try.prog 7 [(AStore.D a0)] (AStore.D r) := by
 unfold z31_Twin at e
 refine pure_of_awp (js := [8]) T_ok Try.func7 rfl (by decide +kernel) rfl ?_; conv => whnf
 refine Runs.hold 3 ?_
 refine RunsL.runs (RunsL.weak ((P_z31_Twin_l0 e) 0 (by simp)) ?_)
 repeat' first | exact wk.of_eq rfl | exact wk.pure rfl | exact wk.un _ | exact wk.hold _ _ _ | exact wk.holdG _ _ _ | exact rfl | exact trivial | refine ⟨?_, ?_⟩ | (refine wk.of_eq ?_; (conv => lhs; whnf); (simp [XN.Ds_all, YN.Ds_all, intDs_i64_all, AStore.D, XN.D, YN.D, listAll] <;> (repeat' first | rfl | apply And.intro)); done) | (refine wk.pure ?_; (conv => lhs; whnf); (simp [XN.Ds_all, YN.Ds_all, intDs_i64_all, AStore.D, XN.D, YN.D, listAll] <;> (repeat' first | rfl | apply And.intro)); done) | ((simp [XN.Ds_all, YN.Ds_all, intDs_i64_all, AStore.D, XN.D, YN.D, listAll] <;> (repeat' first | rfl | apply And.intro)); done) | (simp [XN.Ds_all, YN.Ds_all, intDs_i64_all, AStore.D, XN.D, YN.D, listAll]; omega)
def M_z01_Size (a0 : Ty) (r : Int) : Prop := Pure Try.prog 68 [(Ty.D a0)] (.int .i64 r)
def M_z01_Size_l0 (rest0 : (List Ty)) (t3_0 : Int) (r : Int) : Prop := ∀ (a0 : Ty) (k0 : Nat) (hd0 : rest0 = a0.args.drop k0), LoopAt T Try.prog Try.f68 Fx0 [] [1, 1, 0, 1, 0] (EP T Try.f68 (.int .i64 r)) [(1, .ptr 0 0 0), (3, .d (.int .i64 t3_0)), (4, .d (.int .i64 (k0 : Int)))] [[.cells [.d (.bool a0.v), .d (.str a0.name), .d (.slice 3 (Ty.Ds a0.args))]]]
theorem G_z01_Size : (∀ p r, z01_Size' p = some r → ∀ a0, a0 = p → M_z01_Size a0 r) ∧
  (∀ p r, z01_Size_l0' p = some r → ∀ rest0 t3_0, (rest0, t3_0) = p → M_z01_Size_l0 rest0 t3_0 r) := by
 refine z01_Size'.mutual_partial_correctness (fun (p : Ty) (r : Int) => ∀ (a0 : Ty), a0 = p → M_z01_Size a0 r) (fun (p : ((List Ty) × Int)) (r : Int) => ∀ (rest0 : (List Ty)) (t3_0 : Int), (rest0, t3_0) = p → M_z01_Size_l0 rest0 t3_0 r) ?_ ?_
 ·intro f_z01_Size_l0 ih_z01_Size_l0 p r e a0 hp
  subst hp
  refine pure_of_awp (js := []) T_ok Try.func68 rfl (by decide +kernel) rfl ?_; conv => whnf
  refine RunsL.runs (RunsL.weak ((ih_z01_Size_l0 _ _ e _ _ rfl) a0 0 (by simp)) ?_)
  repeat' first | exact wk.of_eq rfl | exact wk.pure rfl | exact wk.un _ | exact wk.hold _ _ _ | exact wk.holdG _ _ _ | exact rfl | exact trivial | refine ⟨?_, ?_⟩
 ·intro f_z01_Size f_z01_Size_l0 ih_z01_Size ih_z01_Size_l0 p r e rest0 t3_0 hp
  subst hp
  intro a0 k0 hd0
  refine RunsL.len_cell 0 2 rfl rfl rfl fun hlenk0 => ?_
  refine RunsL.of_awp (js := []) T_ok ?_; conv => whnf
  have hls := Ty.Ds_len a0.args
  cases rest0 with
  | nil =>
   have hk := drop_nil hd0
   refine ⟨⟨fun h => absurd h (by omega), fun _ => ?_⟩⟩; conv => whnf
   obtain rfl := sm e
   repeat' first | exact rfl | exact trivial | refine ⟨?_, ?_⟩
  | cons v5 rest0 =>
   obtain ⟨hxv5, hd0, hltv5⟩ := drop_head hd0
   refine ⟨⟨fun _ => ?_, fun h => absurd (by omega) h⟩⟩; conv => whnf
   refine ⟨k0, _, rfl, Ty.Ds_get hxv5, ?_⟩; conv => whnf
   refine ⟨Ty.Ds_fit _ rfl rfl, ?_⟩; conv => whnf
   obtain ⟨v6, qv6, e⟩ := bnd e
   refine said_pure (ih_z01_Size _ _ qv6 _ rfl) rfl ?_; conv => whnf
   obtain ⟨v7, qv7, e⟩ := bnd e
   refine ⟨v7, sm qv7, ?_⟩; conv => whnf
   refine ⟨((k0 + 1 : Nat) : Int), wrap64e (by omega) (by omega) (by omega), ?_⟩; conv => whnf
   refine (RunsL.weak ((ih_z01_Size_l0 _ _ e _ _ rfl) a0 (k0 + 1) hd0) ?_)
   repeat' first | exact wk.of_eq rfl | exact wk.pure rfl | exact wk.un _ | exact wk.hold _ _ _ | exact wk.holdG _ _ _ | exact rfl | exact trivial | refine ⟨?_, ?_⟩
theorem P_z01_Size {a0 : Ty} {r : Int} (e : z01_Size a0 = some r) : M_z01_Size a0 r := G_z01_Size.1 _ _ e _ rfl
def M_z01_Depth (a0 : Ty) (r : Int) : Prop := Pure Try.prog 69 [(Ty.D a0)] (.int .i64 r)
def M_z01_Depth_l0 (rest0 : (List Ty)) (t3_0 : Int) (r : Int) : Prop := ∀ (a0 : Ty) (k0 : Nat) (hd0 : rest0 = a0.args.drop k0), LoopAt T Try.prog Try.f69 Fx0 [] [1, 1, 0, 1, 0] (EP T Try.f69 (.int .i64 r)) [(1, .ptr 0 0 0), (3, .d (.int .i64 t3_0)), (4, .d (.int .i64 (k0 : Int)))] [[.cells [.d (.bool a0.v), .d (.str a0.name), .d (.slice 3 (Ty.Ds a0.args))]]]
theorem G_z01_Depth : (∀ p r, z01_Depth' p = some r → ∀ a0, a0 = p → M_z01_Depth a0 r) ∧
  (∀ p r, z01_Depth_l0' p = some r → ∀ rest0 t3_0, (rest0, t3_0) = p → M_z01_Depth_l0 rest0 t3_0 r) := by
 refine z01_Depth'.mutual_partial_correctness (fun (p : Ty) (r : Int) => ∀ (a0 : Ty), a0 = p → M_z01_Depth a0 r) (fun (p : ((List Ty) × Int)) (r : Int) => ∀ (rest0 : (List Ty)) (t3_0 : Int), (rest0, t3_0) = p → M_z01_Depth_l0 rest0 t3_0 r) ?_ ?_
 ·intro f_z01_Depth_l0 ih_z01_Depth_l0 p r e a0 hp
  subst hp
  refine pure_of_awp (js := []) T_ok Try.func69 rfl (by decide +kernel) rfl ?_; conv => whnf
  refine RunsL.runs (RunsL.weak ((ih_z01_Depth_l0 _ _ e _ _ rfl) a0 0 (by simp)) ?_)
  repeat' first | exact wk.of_eq rfl | exact wk.pure rfl | exact wk.un _ | exact wk.hold _ _ _ | exact wk.holdG _ _ _ | exact rfl | exact trivial | refine ⟨?_, ?_⟩
 ·intro f_z01_Depth f_z01_Depth_l0 ih_z01_Depth ih_z01_Depth_l0 p r e rest0 t3_0 hp
  subst hp
  intro a0 k0 hd0
  refine RunsL.len_cell 0 2 rfl rfl rfl fun hlenk0 => ?_
  refine RunsL.of_awp (js := []) T_ok ?_; conv => whnf
  have hls := Ty.Ds_len a0.args
  cases rest0 with
  | nil =>
   have hk := drop_nil hd0
   refine ⟨⟨fun h => absurd h (by omega), fun _ => ?_⟩⟩; conv => whnf
   obtain ⟨v6, qv6, e⟩ := bnd e
   refine ⟨v6, sm qv6, ?_⟩; conv => whnf
   obtain rfl := sm e
   repeat' first | exact rfl | exact trivial | refine ⟨?_, ?_⟩
  | cons v5 rest0 =>
   obtain ⟨hxv5, hd0, hltv5⟩ := drop_head hd0
   refine ⟨⟨fun _ => ?_, fun h => absurd (by omega) h⟩⟩; conv => whnf
   refine ⟨k0, _, rfl, Ty.Ds_get hxv5, ?_⟩; conv => whnf
   refine ⟨Ty.Ds_fit _ rfl rfl, ?_⟩; conv => whnf
   obtain ⟨v6, qv6, e⟩ := bnd e
   refine said_pure (ih_z01_Depth _ _ qv6 _ rfl) rfl ?_; conv => whnf
   refine ⟨((k0 + 1 : Nat) : Int), wrap64e (by omega) (by omega) (by omega), ?_⟩; conv => whnf
   refine (RunsL.weak ((ih_z01_Depth_l0 _ _ e _ _ rfl) a0 (k0 + 1) hd0) ?_)
   repeat' first | exact wk.of_eq rfl | exact wk.pure rfl | exact wk.un _ | exact wk.hold _ _ _ | exact wk.holdG _ _ _ | exact rfl | exact trivial | refine ⟨?_, ?_⟩
theorem P_z01_Depth {a0 : Ty} {r : Int} (e : z01_Depth a0 = some r) : M_z01_Depth a0 r := G_z01_Depth.1 _ _ e _ rfl
theorem P_z01_Small {a0 : Ty} {r : Bool} (e : z01_Small a0 = some r) : Pure Try.prog 55 [(Ty.D a0)] (.bool r) := by
 unfold z01_Small at e
 refine pure_of_awp (js := []) T_ok Try.func55 rfl (by decide +kernel) rfl ?_; conv => whnf
 obtain ⟨v1, qv1, e⟩ := bnd e
 refine said_pure (P_z01_Size qv1) rfl ?_; conv => whnf
 refine ⟨⟨fun h2 => ?_, fun h2 => ?_⟩⟩
 ·replace e := ifp h2 e; conv => whnf
  obtain ⟨v3, qv3, e⟩ := bnd e
  refine said_pure (P_z01_Depth qv3) rfl ?_; conv => whnf
  refine test.dec ?_; conv => whnf
  obtain rfl := sm e
  repeat' first | exact rfl | exact trivial | refine ⟨?_, ?_⟩
 ·replace e := ifn h2 e; conv => whnf
  obtain rfl := sm e
  repeat' first | exact rfl | exact trivial | refine ⟨?_, ?_⟩
def M_z01_Name_l0 (t3_0 : Int) (a0 : ByteArray) (r : Bool) : Prop := LoopAt T Try.prog Try.f70 Fx0 [] [1, 1, 0, 1, 0] (EP T Try.f70 (.bool r)) [(0, .d (.str a0)), (3, .d (.int .i64 t3_0))] [[]]
theorem G_z01_Name_l0 : (∀ p r, z01_Name_l0' p = some r → ∀ t3_0 a0, (t3_0, a0) = p → M_z01_Name_l0 t3_0 a0 r) := by
 refine z01_Name_l0'.partial_correctness (fun (p : (Int × ByteArray)) (r : Bool) => ∀ (t3_0 : Int) (a0 : ByteArray), (t3_0, a0) = p → M_z01_Name_l0 t3_0 a0 r) ?_
 ·intro f_z01_Name_l0 ih_z01_Name_l0 p r e t3_0 a0 hp
  subst hp
  refine RunsL.of_awp (js := []) T_ok ?_; conv => whnf
  refine ⟨⟨fun h4 => ?_, fun h4 => ?_⟩⟩
  ·replace e := ifp h4 e; conv => whnf
   obtain ⟨v5, qv5, e⟩ := bnd e
   obtain ⟨qv5k, qv5q, qv5a, qv5b, qv5c⟩ := getb_some qv5
   refine ⟨qv5k, qv5q, qv5a, qv5b, ?_⟩; rw [qv5c]; conv => whnf
   refine ⟨⟨fun h6 => ?_, fun h6 => ?_⟩⟩
   ·replace e := ifp h6 e; conv => whnf
    obtain rfl := sm e
    repeat' first | exact rfl | exact trivial | refine ⟨?_, ?_⟩
   ·replace e := ifn h6 e; conv => whnf
    refine ⟨⟨fun h7 => ?_, fun h7 => ?_⟩⟩
    ·replace e := ifp h7 e; conv => whnf
     obtain rfl := sm e
     repeat' first | exact rfl | exact trivial | refine ⟨?_, ?_⟩
    ·replace e := ifn h7 e; conv => whnf
     refine ⟨⟨fun h8 => ?_, fun h8 => ?_⟩⟩
     ·replace e := ifp h8 e; conv => whnf
      obtain rfl := sm e
      repeat' first | exact rfl | exact trivial | refine ⟨?_, ?_⟩
     ·replace e := ifn h8 e; conv => whnf
      refine ⟨⟨fun h9 => ?_, fun h9 => ?_⟩⟩
      ·replace e := ifp h9 e; conv => whnf
       obtain rfl := sm e
       repeat' first | exact rfl | exact trivial | refine ⟨?_, ?_⟩
      ·replace e := ifn h9 e; conv => whnf
       refine ⟨⟨fun h10 => ?_, fun h10 => ?_⟩⟩
       ·replace e := ifp h10 e; conv => whnf
        obtain rfl := sm e
        repeat' first | exact rfl | exact trivial | refine ⟨?_, ?_⟩
       ·replace e := ifn h10 e; conv => whnf
        refine ⟨⟨fun h11 => ?_, fun h11 => ?_⟩⟩
        ·replace e := ifp h11 e; conv => whnf
         obtain rfl := sm e
         repeat' first | exact rfl | exact trivial | refine ⟨?_, ?_⟩
        ·replace e := ifn h11 e; conv => whnf
         refine ⟨⟨fun h12 => ?_, fun h12 => ?_⟩⟩
         ·replace e := ifp h12 e; conv => whnf
          obtain rfl := sm e
          repeat' first | exact rfl | exact trivial | refine ⟨?_, ?_⟩
         ·replace e := ifn h12 e; conv => whnf
          refine ⟨⟨fun h13 => ?_, fun h13 => ?_⟩⟩
          ·replace e := ifp h13 e; conv => whnf
           obtain rfl := sm e
           repeat' first | exact rfl | exact trivial | refine ⟨?_, ?_⟩
          ·replace e := ifn h13 e; conv => whnf
           refine ⟨⟨fun h14 => ?_, fun h14 => ?_⟩⟩
           ·replace e := ifp h14 e; conv => whnf
            obtain rfl := sm e
            repeat' first | exact rfl | exact trivial | refine ⟨?_, ?_⟩
           ·replace e := ifn h14 e; conv => whnf
            obtain ⟨v15, qv15, e⟩ := bnd e
            refine ⟨v15, sm qv15, ?_⟩; conv => whnf
            refine (RunsL.weak (ih_z01_Name_l0 _ _ e _ _ rfl) ?_)
            repeat' first | exact wk.of_eq rfl | exact wk.pure rfl | exact wk.un _ | exact wk.hold _ _ _ | exact wk.holdG _ _ _ | exact rfl | exact trivial | refine ⟨?_, ?_⟩
  ·replace e := ifn h4 e; conv => whnf
   obtain rfl := sm e
   repeat' first | exact rfl | exact trivial | refine ⟨?_, ?_⟩
theorem P_z01_Name_l0 {t3_0 : Int} {a0 : ByteArray} {r : Bool} (e : z01_Name_l0 t3_0 a0 = some r) : M_z01_Name_l0 t3_0 a0 r := G_z01_Name_l0 _ _ e _ _ rfl
theorem P_z01_Name {a0 : ByteArray} {r : Bool} (e : z01_Name a0 = some r) : Pure Try.prog 70 [(.str a0)] (.bool r) := by
 unfold z01_Name at e
 refine pure_of_awp (js := []) T_ok Try.func70 rfl (by decide +kernel) rfl ?_; conv => whnf
 refine ⟨⟨fun h1 => ?_, fun h1 => ?_⟩⟩
 ·replace e := ifp h1 e; conv => whnf
  obtain rfl := sm e
  repeat' first | exact rfl | exact trivial | refine ⟨?_, ?_⟩
 ·replace e := ifn h1 e; conv => whnf
  refine ⟨⟨fun h2 => ?_, fun h2 => ?_⟩⟩
  ·replace e := ifp h2 e; conv => whnf
   obtain rfl := sm e
   repeat' first | exact rfl | exact trivial | refine ⟨?_, ?_⟩
  ·replace e := ifn h2 e; conv => whnf
   refine RunsL.runs (RunsL.weak (P_z01_Name_l0 e) ?_)
   repeat' first | exact wk.of_eq rfl | exact wk.pure rfl | exact wk.un _ | exact wk.hold _ _ _ | exact wk.holdG _ _ _ | exact rfl | exact trivial | refine ⟨?_, ?_⟩
end Go.Proofs.Ytemfpemejagndaa.Fw


set_option maxHeartbeats 4000000
namespace Go.Proofs.Ytemfpemejagndaa.Fw
open Go Go.Proofs Go.RowKit
def M_z01_shape (a0 : Ty) (r : Bool) : Prop := Pure Try.prog 56 [(Ty.D a0)] (.bool r)
def M_z01_shape_j0 (a0 : Ty) (r : Bool) : Prop := JoinAt T Try.prog Try.f56 Fx0 [3] [1, 1, 0, 0] (EP T Try.f56 (.bool r)) [(1, .ptr 0 0 0)] [[.cells [.d (.bool a0.v), .d (.str a0.name), .d (.slice 3 (Ty.Ds a0.args))]]]
def M_z01_shape_l0 (rest0 : (List Ty)) (r : Bool) : Prop := ∀ (a0 : Ty) (k0 : Nat) (hd0 : rest0 = a0.args.drop k0), LoopAt T Try.prog Try.f56 Fx0 [3] [1, 1, 0, 1, 0] (EP T Try.f56 (.bool r)) [(1, .ptr 0 0 0), (3, .d (.int .i64 (k0 : Int)))] [[.cells [.d (.bool a0.v), .d (.str a0.name), .d (.slice 3 (Ty.Ds a0.args))]]]
theorem G_z01_shape : (∀ p r, z01_shape' p = some r → ∀ a0, a0 = p → M_z01_shape a0 r) ∧
  (∀ p r, z01_shape_j0' p = some r → ∀ a0, a0 = p → M_z01_shape_j0 a0 r) ∧
  (∀ p r, z01_shape_l0' p = some r → ∀ rest0, rest0 = p → M_z01_shape_l0 rest0 r) := by
 refine z01_shape'.mutual_partial_correctness (fun (p : Ty) (r : Bool) => ∀ (a0 : Ty), a0 = p → M_z01_shape a0 r) (fun (p : Ty) (r : Bool) => ∀ (a0 : Ty), a0 = p → M_z01_shape_j0 a0 r) (fun (p : (List Ty)) (r : Bool) => ∀ (rest0 : (List Ty)), rest0 = p → M_z01_shape_l0 rest0 r) ?_ ?_ ?_
 ·intro f_z01_shape_j0 ih_z01_shape_j0 p r e a0 hp
  subst hp
  refine pure_of_awp (js := [3]) T_ok Try.func56 rfl (by decide +kernel) rfl ?_; conv => whnf
  refine draw_rule [] T_ok mixed z01_shape_pl1 (by decide +kernel) ?_; conv => whnf
  obtain ⟨v1, qv1, e⟩ := bnd e
  refine said_pure (P_z01_Name qv1) rfl ⟨Keeps.refl _ _, ?_⟩; conv => whnf
  refine brK.nsplit (fun hb2 => ?_) (fun hb2 => ?_)
  ·replace e := ifpb hb2 e; conv => whnf
   refine brK.ntt hb2 ?_; conv => whnf
   refine brK.ntt hb2 ?_; conv => whnf
   refine brK.ntt hb2 ?_; conv => whnf
   refine brK.ntt hb2 ?_; conv => whnf
   obtain ⟨v3, qv3, e⟩ := bnd e
   obtain ⟨qv3k, qv3q, qv3a, qv3b, qv3c⟩ := getb_some qv3
   refine ⟨qv3k, qv3q, qv3a, qv3b, ?_⟩; rw [qv3c]; conv => whnf
   refine brK.ntt hb2 ?_; conv => whnf
   refine test.dec ?_; conv => whnf
   refine brK.ntt hb2 ?_; conv => whnf
   refine ⟨⟨fun h4 => ?_, fun h4 => ?_⟩⟩
   ·replace e := ifp h4 e; conv => whnf
    refine brK.ntt hb2 ?_; conv => whnf
    obtain rfl := sm e
    repeat' first | exact rfl | exact trivial | refine ⟨?_, ?_⟩
   ·replace e := ifn h4 e; conv => whnf
    refine brK.ntt hb2 ?_; conv => whnf
    refine brK.split (fun hb5 => ?_) (fun hb5 => ?_)
    ·replace e := ifpb hb5 e; conv => whnf
     refine brK.tt hb5 ?_; conv => whnf
     refine brK.tt hb5 ?_; conv => whnf
     refine brK.tt hb5 ?_; conv => whnf
     refine ⟨⟨fun h6 => ?_, fun h6 => ?_⟩⟩
     ·replace e := ifp (by first | exact h6 | omega | simpa [Ty.Ds_all, Ty.D, listAll] using h6) e; conv => whnf
      refine brK.tt hb5 ?_; conv => whnf
      obtain rfl := sm e
      repeat' first | exact rfl | exact trivial | refine ⟨?_, ?_⟩
     ·replace e := ifn (by first | exact h6 | omega | simpa [Ty.Ds_all, Ty.D, listAll] using h6) e; conv => whnf
      refine brK.tt hb5 ?_; conv => whnf
      refine ⟨⟨fun h7 => ?_, fun h7 => ?_⟩⟩
      ·replace e := ifp (by first | exact h7 | omega | simpa [Ty.Ds_all, Ty.D, listAll] using h7) e; conv => whnf
       obtain rfl := sm e
       repeat' first | exact rfl | exact trivial | refine ⟨?_, ?_⟩
      ·replace e := ifn (by first | exact h7 | omega | simpa [Ty.Ds_all, Ty.D, listAll] using h7) e; conv => whnf
       refine Runs.weak (ih_z01_shape_j0 _ _ e _ rfl) ?_
       repeat' first | exact wk.of_eq rfl | exact wk.pure rfl | exact wk.un _ | exact wk.hold _ _ _ | exact wk.holdG _ _ _ | exact rfl | exact trivial | refine ⟨?_, ?_⟩
    ·replace e := ifnb hb5 e; conv => whnf
     refine brK.ff hb5 ?_; conv => whnf
     refine brK.ff hb5 ?_; conv => whnf
     refine brK.ff hb5 ?_; conv => whnf
     refine brK.ff hb5 ?_; conv => whnf
     refine ⟨⟨fun h6 => ?_, fun h6 => ?_⟩⟩
     ·replace e := ifp (by first | exact h6 | omega | simpa [Ty.Ds_all, Ty.D, listAll] using h6) e; conv => whnf
      obtain rfl := sm e
      repeat' first | exact rfl | exact trivial | refine ⟨?_, ?_⟩
     ·replace e := ifn (by first | exact h6 | omega | simpa [Ty.Ds_all, Ty.D, listAll] using h6) e; conv => whnf
      refine Runs.weak (ih_z01_shape_j0 _ _ e _ rfl) ?_
      repeat' first | exact wk.of_eq rfl | exact wk.pure rfl | exact wk.un _ | exact wk.hold _ _ _ | exact wk.holdG _ _ _ | exact rfl | exact trivial | refine ⟨?_, ?_⟩
  ·replace e := ifnb hb2 e; conv => whnf
   refine brK.nff hb2 ?_; conv => whnf
   refine brK.nff hb2 ?_; conv => whnf
   refine brK.nff hb2 ?_; conv => whnf
   refine brK.nff hb2 ?_; conv => whnf
   refine brK.nff hb2 ?_; conv => whnf
   refine brK.nff hb2 ?_; conv => whnf
   refine brK.nff hb2 ?_; conv => whnf
   obtain rfl := sm e
   repeat' first | exact rfl | exact trivial | refine ⟨?_, ?_⟩
 ·intro f_z01_shape_l0 ih_z01_shape_l0 p r e a0 hp
  subst hp
  refine Runs.enter T_ok ?_; conv => whnf
  refine RunsL.runs (RunsL.weak ((ih_z01_shape_l0 _ _ e _ rfl) a0 0 (by simp)) ?_)
  repeat' first | exact wk.of_eq rfl | exact wk.pure rfl | exact wk.un _ | exact wk.hold _ _ _ | exact wk.holdG _ _ _ | exact rfl | exact trivial | refine ⟨?_, ?_⟩
 ·intro f_z01_shape f_z01_shape_l0 ih_z01_shape ih_z01_shape_l0 p r e rest0 hp
  subst hp
  intro a0 k0 hd0
  refine RunsL.len_cell 0 2 rfl rfl rfl fun hlenk0 => ?_
  refine RunsL.of_awp (js := [3]) T_ok ?_; conv => whnf
  have hls := Ty.Ds_len a0.args
  cases rest0 with
  | nil =>
   have hk := drop_nil hd0
   refine ⟨⟨fun h => absurd h (by omega), fun _ => ?_⟩⟩; conv => whnf
   obtain rfl := sm e
   repeat' first | exact rfl | exact trivial | refine ⟨?_, ?_⟩
  | cons v4 rest0 =>
   obtain ⟨hxv4, hd0, hltv4⟩ := drop_head hd0
   refine ⟨⟨fun _ => ?_, fun h => absurd (by omega) h⟩⟩; conv => whnf
   refine ⟨k0, _, rfl, Ty.Ds_get hxv4, ?_⟩; conv => whnf
   refine ⟨Ty.Ds_fit _ rfl rfl, ?_⟩; conv => whnf
   obtain ⟨v5, qv5, e⟩ := bnd e
   refine said_pure (ih_z01_shape _ _ qv5 _ rfl) rfl ?_; conv => whnf
   refine brK.nsplit (fun hb6 => ?_) (fun hb6 => ?_)
   ·replace e := ifpb hb6 e; conv => whnf
    refine ⟨((k0 + 1 : Nat) : Int), wrap64e (by omega) (by omega) (by omega), ?_⟩; conv => whnf
    refine (RunsL.weak ((ih_z01_shape_l0 _ _ e _ rfl) a0 (k0 + 1) hd0) ?_)
    repeat' first | exact wk.of_eq rfl | exact wk.pure rfl | exact wk.un _ | exact wk.hold _ _ _ | exact wk.holdG _ _ _ | exact rfl | exact trivial | refine ⟨?_, ?_⟩
   ·replace e := ifnb hb6 e; conv => whnf
    obtain rfl := sm e
    repeat' first | exact rfl | exact trivial | refine ⟨?_, ?_⟩
theorem P_z01_shape {a0 : Ty} {r : Bool} (e : z01_shape a0 = some r) : M_z01_shape a0 r := G_z01_shape.1 _ _ e _ rfl
theorem P_z01_Valid {a0 : Ty} {r : Bool} (e : z01_Valid a0 = some r) : Pure Try.prog 41 [(Ty.D a0)] (.bool r) := by
 unfold z01_Valid at e
 refine pure_of_awp (js := []) T_ok Try.func41 rfl (by decide +kernel) rfl ?_; conv => whnf
 obtain ⟨v1, qv1, e⟩ := bnd e
 refine said_pure (P_z01_Small qv1) rfl ?_; conv => whnf
 refine brK.split (fun hb2 => ?_) (fun hb2 => ?_)
 ·replace e := ifpb hb2 e; conv => whnf
  refine brK.tt hb2 ?_; conv => whnf
  obtain ⟨v3, qv3, e⟩ := bnd e
  refine said_pure (P_z01_shape qv3) rfl ?_; conv => whnf
  refine brK.tt hb2 ?_; conv => whnf
  obtain rfl := sm e
  repeat' first | exact rfl | exact trivial | refine ⟨?_, ?_⟩
 ·replace e := ifnb hb2 e; conv => whnf
  refine brK.ff hb2 ?_; conv => whnf
  refine brK.ff hb2 ?_; conv => whnf
  obtain rfl := sm e
  repeat' first | exact rfl | exact trivial | refine ⟨?_, ?_⟩
def M_z31_below_l0 (rest0 : (List Int)) (a1 : Int) (r : Bool) : Prop := ∀ (a0 : (List Int)) (k0 : Nat) (hd0 : rest0 = a0.drop k0), LoopAt T Try.prog Try.f66 Fx0 [] [1, 0, 1, 0] (EP T Try.f66 (.bool r)) [(0, .d (.slice 1 (intDs_i64 a0))), (1, .d (.int .i64 a1)), (5, .d (.int .i64 (k0 : Int)))] [[]]
theorem G_z31_below_l0 : (∀ p r, z31_below_l0' p = some r → ∀ rest0 a1, (rest0, a1) = p → M_z31_below_l0 rest0 a1 r) := by
 refine z31_below_l0'.partial_correctness (fun (p : ((List Int) × Int)) (r : Bool) => ∀ (rest0 : (List Int)) (a1 : Int), (rest0, a1) = p → M_z31_below_l0 rest0 a1 r) ?_
 ·intro f_z31_below_l0 ih_z31_below_l0 p r e rest0 a1 hp
  subst hp
  intro a0 k0 hd0
  refine RunsL.len_tmp 0 rfl fun hlenk0 => ?_
  refine RunsL.of_awp (js := []) T_ok ?_; conv => whnf
  have hls := intDs_i64_len a0
  cases rest0 with
  | nil =>
   have hk := drop_nil hd0
   refine ⟨⟨fun h => absurd h (by omega), fun _ => ?_⟩⟩; conv => whnf
   obtain rfl := sm e
   repeat' first | exact rfl | exact trivial | refine ⟨?_, ?_⟩
  | cons v6 rest0 =>
   obtain ⟨hxv6, hd0, hltv6⟩ := drop_head hd0
   refine ⟨⟨fun _ => ?_, fun h => absurd (by omega) h⟩⟩; conv => whnf
   refine ⟨k0, _, rfl, intDs_i64_get hxv6, ?_⟩; conv => whnf
   refine ⟨intDs_i64_fit _ rfl rfl, ?_⟩; conv => whnf
   refine ⟨⟨fun h7 => ?_, fun h7 => ?_⟩⟩
   ·replace e := ifp h7 e; conv => whnf
    obtain rfl := sm e
    repeat' first | exact rfl | exact trivial | refine ⟨?_, ?_⟩
   ·replace e := ifn h7 e; conv => whnf
    refine ⟨k0, _, rfl, intDs_i64_get hxv6, ?_⟩; conv => whnf
    refine ⟨intDs_i64_fit _ rfl rfl, ?_⟩; conv => whnf
    refine ⟨⟨fun h8 => ?_, fun h8 => ?_⟩⟩
    ·replace e := ifp h8 e; conv => whnf
     obtain rfl := sm e
     repeat' first | exact rfl | exact trivial | refine ⟨?_, ?_⟩
    ·replace e := ifn h8 e; conv => whnf
     refine ⟨((k0 + 1 : Nat) : Int), wrap64e (by omega) (by omega) (by omega), ?_⟩; conv => whnf
     refine (RunsL.weak ((ih_z31_below_l0 _ _ e _ _ rfl) a0 (k0 + 1) hd0) ?_)
     repeat' first | exact wk.of_eq rfl | exact wk.pure rfl | exact wk.un _ | exact wk.hold _ _ _ | exact wk.holdG _ _ _ | exact rfl | exact trivial | refine ⟨?_, ?_⟩
theorem P_z31_below_l0 {rest0 : (List Int)} {a1 : Int} {r : Bool} (e : z31_below_l0 rest0 a1 = some r) : M_z31_below_l0 rest0 a1 r := G_z31_below_l0 _ _ e _ _ rfl
theorem P_z31_below {a0 : (List Int)} {a1 : Int} {r : Bool} (e : z31_below a0 a1 = some r) : Pure Try.prog 66 [(.slice 1 (intDs_i64 a0)), (.int .i64 a1)] (.bool r) := by
 unfold z31_below at e
 refine pure_of_awp (js := []) T_ok Try.func66 rfl (by decide +kernel) rfl ?_; conv => whnf
 refine RunsL.runs (RunsL.weak ((P_z31_below_l0 e) a0 0 (by simp)) ?_)
 repeat' first | exact wk.of_eq rfl | exact wk.pure rfl | exact wk.un _ | exact wk.hold _ _ _ | exact wk.holdG _ _ _ | exact rfl | exact trivial | refine ⟨?_, ?_⟩
def M_z31_Sized_l0 (t4_0 : (List Int)) (t5_0 : (List Int)) (t6_0 : Int) (a0 : (List (List Int))) (r : ((List Int) × (List Int))) : Prop := LoopAt T Try.prog Try.f67 Fx0 [] [1, 1, 0, 1, 0] (EP T Try.f67 (.tuple [(.slice 1 (intDs_i64 r.1)), (.slice 1 (intDs_i64 r.2))])) [(0, .d (.slice 1 (intDs_i64s a0))), (4, .own 0 0 1 (intDs_i64 t4_0)), (5, .own 0 1 1 (intDs_i64 t5_0)), (6, .d (.int .i64 t6_0))] [[.grow 1 (intDs_i64 t4_0).length, .grow 1 (intDs_i64 t5_0).length]]
def M_z31_Sized_l1 (t4_1 : (List Int)) (t5_1 : (List Int)) (t6_1 : Int) (t7_1 : Int) (t8_1 : Int) (t9_1 : Int) (a0 : (List (List Int))) (r : ((List Int) × (List Int))) : Prop := LoopAt T Try.prog Try.f67 Fx0 [] [1, 1, 0, 1, 0, 0, 1, 0, 0, 1, 0, 1, 0] (EP T Try.f67 (.tuple [(.slice 1 (intDs_i64 r.1)), (.slice 1 (intDs_i64 r.2))])) [(0, .d (.slice 1 (intDs_i64s a0))), (4, .own 0 0 1 (intDs_i64 t4_1)), (5, .own 0 1 1 (intDs_i64 t5_1)), (6, .d (.int .i64 t6_1)), (7, .d (.int .i64 t7_1)), (8, .d (.int .i64 t8_1)), (9, .d (.int .i64 t9_1))] [[.grow 1 (intDs_i64 t4_1).length, .grow 1 (intDs_i64 t5_1).length]]
theorem G_z31_Sized_l0 : (∀ p r, z31_Sized_l0' p = some r → ∀ t4_0 t5_0 t6_0 a0, (t4_0, t5_0, t6_0, a0) = p → M_z31_Sized_l0 t4_0 t5_0 t6_0 a0 r) ∧
  (∀ p r, z31_Sized_l1' p = some r → ∀ t4_1 t5_1 t6_1 t7_1 t8_1 t9_1 a0, (t4_1, t5_1, t6_1, t7_1, t8_1, t9_1, a0) = p → M_z31_Sized_l1 t4_1 t5_1 t6_1 t7_1 t8_1 t9_1 a0 r) := by
 refine z31_Sized_l0'.mutual_partial_correctness (fun (p : ((List Int) × (List Int) × Int × (List (List Int)))) (r : ((List Int) × (List Int))) => ∀ (t4_0 : (List Int)) (t5_0 : (List Int)) (t6_0 : Int) (a0 : (List (List Int))), (t4_0, t5_0, t6_0, a0) = p → M_z31_Sized_l0 t4_0 t5_0 t6_0 a0 r) (fun (p : ((List Int) × (List Int) × Int × Int × Int × Int × (List (List Int)))) (r : ((List Int) × (List Int))) => ∀ (t4_1 : (List Int)) (t5_1 : (List Int)) (t6_1 : Int) (t7_1 : Int) (t8_1 : Int) (t9_1 : Int) (a0 : (List (List Int))), (t4_1, t5_1, t6_1, t7_1, t8_1, t9_1, a0) = p → M_z31_Sized_l1 t4_1 t5_1 t6_1 t7_1 t8_1 t9_1 a0 r) ?_ ?_
 ·intro f_z31_Sized_l1 ih_z31_Sized_l1 p r e t4_0 t5_0 t6_0 a0 hp
  subst hp
  refine RunsL.of_awp (js := []) T_ok ?_; conv => whnf
  refine ⟨⟨fun h7 => ?_, fun h7 => ?_⟩⟩
  ·replace e := ifp (by first | exact h7 | omega | simpa [intDs_i64_all, intDs_i64s_all, listAll] using h7) e; conv => whnf
   refine RunsL.runs (RunsL.weak (ih_z31_Sized_l1 _ _ e _ _ _ _ _ _ _ rfl) ?_)
   repeat' first | exact wk.of_eq rfl | exact wk.pure rfl | exact wk.un _ | exact wk.hold _ _ _ | exact wk.holdG _ _ _ | exact rfl | exact trivial | refine ⟨?_, ?_⟩ | (refine wk.of_eq ?_; (conv => lhs; whnf); (simp [intDs_i64_all, intDs_i64s_all, listAll] <;> (repeat' first | rfl | apply And.intro)); done) | (refine wk.pure ?_; (conv => lhs; whnf); (simp [intDs_i64_all, intDs_i64s_all, listAll] <;> (repeat' first | rfl | apply And.intro)); done) | ((simp [intDs_i64_all, intDs_i64s_all, listAll] <;> (repeat' first | rfl | apply And.intro)); done) | (simp [intDs_i64_all, intDs_i64s_all, listAll]; omega)
  ·replace e := ifn (by first | exact h7 | omega | simpa [intDs_i64_all, intDs_i64s_all, listAll] using h7) e; conv => whnf
   obtain rfl := sm e
   repeat' first | exact rfl | exact trivial | refine ⟨_, rfl, ?_, ?_⟩ | refine ⟨?_, ?_⟩ | (simp [intDs_i64_all, intDs_i64s_all, listAll] <;> (repeat' first | rfl | apply And.intro))
 ·intro f_z31_Sized_l0 f_z31_Sized_l1 ih_z31_Sized_l0 ih_z31_Sized_l1 p r e t4_1 t5_1 t6_1 t7_1 t8_1 t9_1 a0 hp
  subst hp
  refine RunsL.of_awp (js := []) T_ok ?_; conv => whnf
  obtain ⟨v10, qv10, e⟩ := bnd e
  obtain ⟨qv10k, qv10a, qv10b⟩ := geti_some qv10
  refine ⟨qv10k, _, qv10a, intDs_i64s_get qv10b, ?_⟩; conv => whnf
  refine ⟨intDs_i64s_fit _ rfl rfl, ?_⟩; conv => whnf
  refine ⟨⟨fun h11 => ?_, fun h11 => ?_⟩⟩
  ·replace e := ifp (by first | exact h11 | omega | simpa [intDs_i64_all, intDs_i64s_all, listAll] using h11) e; conv => whnf
   obtain ⟨v12, qv12, e⟩ := bnd e
   obtain ⟨qv12k, qv12a, qv12b⟩ := geti_some qv12
   refine ⟨qv12k, _, qv12a, intDs_i64s_get qv12b, ?_⟩; conv => whnf
   refine ⟨intDs_i64s_fit _ rfl rfl, ?_⟩; conv => whnf
   obtain ⟨v13, qv13, e⟩ := bnd e
   obtain ⟨qv13k, qv13a, qv13b⟩ := geti_some qv13
   refine ⟨qv13k, _, qv13a, intDs_i64_get qv13b, ?_⟩; conv => whnf
   refine ⟨intDs_i64_fit _ rfl rfl, ?_⟩; conv => whnf
   obtain ⟨v14, qv14, e⟩ := bnd e
   obtain ⟨qv14k, qv14a, qv14b⟩ := geti_some qv14
   refine ⟨qv14k, _, qv14a, (by first | exact intDs_i64_get qv14b | simpa [intDs_i64_all, intDs_i64s_all, listAll] using intDs_i64_get qv14b), ?_⟩; conv => whnf
   refine ⟨intDs_i64_fit _ rfl rfl, ?_⟩; conv => whnf
   obtain ⟨v15, qv15, e⟩ := bnd e
   refine ⟨v15, sm qv15, ?_⟩; conv => whnf
   obtain ⟨v16, qv16, e⟩ := bnd e
   obtain ⟨qv16k, qv16a, qv16b⟩ := geti_some qv16
   refine ⟨qv16k, _, qv16a, intDs_i64s_get qv16b, ?_⟩; conv => whnf
   refine ⟨intDs_i64s_fit _ rfl rfl, ?_⟩; conv => whnf
   obtain ⟨v17, qv17, e⟩ := bnd e
   obtain ⟨qv17k, qv17a, qv17b⟩ := geti_some qv17
   refine ⟨qv17k, _, qv17a, intDs_i64_get qv17b, ?_⟩; conv => whnf
   refine ⟨intDs_i64_fit _ rfl rfl, ?_⟩; conv => whnf
   obtain ⟨v18, qv18, e⟩ := bnd e
   obtain ⟨qv18k, qv18a, qv18b⟩ := geti_some qv18
   refine ⟨qv18k, _, qv18a, (by first | exact intDs_i64_get qv18b | simpa [intDs_i64_all, intDs_i64s_all, listAll] using intDs_i64_get qv18b), ?_⟩; conv => whnf
   refine ⟨intDs_i64_fit _ rfl rfl, ?_⟩; conv => whnf
   obtain ⟨v19, qv19, e⟩ := bnd e
   refine ⟨v19, sm qv19, ?_⟩; conv => whnf
   refine (RunsL.weak (ih_z31_Sized_l1 _ _ e _ _ _ _ _ _ _ rfl) ?_)
   repeat' first | exact wk.of_eq rfl | exact wk.pure rfl | exact wk.un _ | exact wk.hold _ _ _ | exact wk.holdG _ _ _ | exact rfl | exact trivial | refine ⟨?_, ?_⟩ | (refine wk.of_eq ?_; (conv => lhs; whnf); (simp [intDs_i64_all, intDs_i64s_all, listAll] <;> (repeat' first | rfl | apply And.intro)); done) | (refine wk.pure ?_; (conv => lhs; whnf); (simp [intDs_i64_all, intDs_i64s_all, listAll] <;> (repeat' first | rfl | apply And.intro)); done) | ((simp [intDs_i64_all, intDs_i64s_all, listAll] <;> (repeat' first | rfl | apply And.intro)); done) | (simp [intDs_i64_all, intDs_i64s_all, listAll]; omega)
  ·replace e := ifn (by first | exact h11 | omega | simpa [intDs_i64_all, intDs_i64s_all, listAll] using h11) e; conv => whnf
   refine ⟨⟨⟨rfl, rfl⟩, trivial⟩, ?_⟩; conv => whnf
   obtain ⟨v12, qv12, e⟩ := bnd e
   obtain ⟨qv12l, qv12e⟩ := app_some qv12
   refine ⟨(by first | exact qv12l | simpa [intDs_i64_all, intDs_i64s_all, listAll] using qv12l), rfl, (by first | rfl | simp [intDs_i64_all, intDs_i64s_all, listAll]), ?_⟩; conv => whnf
   obtain ⟨v13, qv13, e⟩ := bnd e
   refine ⟨v13, sm qv13, ?_⟩; conv => whnf
   refine ⟨⟨⟨rfl, rfl⟩, trivial⟩, ?_⟩; conv => whnf
   obtain ⟨v14, qv14, e⟩ := bnd e
   obtain ⟨qv14l, qv14e⟩ := app_some qv14
   refine ⟨(by first | exact qv14l | simpa [intDs_i64_all, intDs_i64s_all, listAll] using qv14l | simpa [intDs_i64_all, intDs_i64s_all, listAll, qv12e] using qv14l), rfl, (by first | rfl | simp [intDs_i64_all, intDs_i64s_all, listAll]), ?_⟩; conv => whnf
   obtain ⟨v15, qv15, e⟩ := bnd e
   refine ⟨v15, sm qv15, ?_⟩; conv => whnf
   refine (RunsL.weak (ih_z31_Sized_l0 _ _ e _ _ _ _ rfl) ?_)
   repeat' first | exact wk.of_eq rfl | exact wk.pure rfl | exact wk.un _ | exact wk.hold _ _ _ | exact wk.holdG _ _ _ | exact rfl | exact trivial | refine ⟨?_, ?_⟩ | (refine wk.of_eq ?_; (conv => lhs; whnf); (simp [intDs_i64_all, intDs_i64s_all, listAll, qv12e, qv14e] <;> (repeat' first | rfl | apply And.intro)); done) | (refine wk.pure ?_; (conv => lhs; whnf); (simp [intDs_i64_all, intDs_i64s_all, listAll, qv12e, qv14e] <;> (repeat' first | rfl | apply And.intro)); done) | ((simp [intDs_i64_all, intDs_i64s_all, listAll, qv12e, qv14e] <;> (repeat' first | rfl | apply And.intro)); done) | (simp [intDs_i64_all, intDs_i64s_all, listAll, qv12e, qv14e]; omega)
theorem P_z31_Sized_l0 {t4_0 : (List Int)} {t5_0 : (List Int)} {t6_0 : Int} {a0 : (List (List Int))} {r : ((List Int) × (List Int))} (e : z31_Sized_l0 t4_0 t5_0 t6_0 a0 = some r) : M_z31_Sized_l0 t4_0 t5_0 t6_0 a0 r := G_z31_Sized_l0.1 _ _ e _ _ _ _ rfl
theorem P_z31_Sized {a0 : (List (List Int))} {r : ((List Int) × (List Int))} (e : z31_Sized a0 = some r) : Pure Try.prog 67 [(.slice 1 (intDs_i64s a0))] (.tuple [(.slice 1 (intDs_i64 r.1)), (.slice 1 (intDs_i64 r.2))]) := by
 unfold z31_Sized at e
 refine pure_of_awp (js := []) T_ok Try.func67 rfl (by decide +kernel) rfl ?_; conv => whnf
 refine Runs.hold 1 ?_
 refine Runs.hold 1 ?_
 refine RunsL.runs (RunsL.weak (P_z31_Sized_l0 e) ?_)
 repeat' first | exact wk.of_eq rfl | exact wk.pure rfl | exact wk.un _ | exact wk.hold _ _ _ | exact wk.holdG _ _ _ | exact rfl | exact trivial | refine ⟨?_, ?_⟩ | (refine wk.of_eq ?_; (conv => lhs; whnf); (simp [intDs_i64_all, intDs_i64s_all, listAll] <;> (repeat' first | rfl | apply And.intro)); done) | (refine wk.pure ?_; (conv => lhs; whnf); (simp [intDs_i64_all, intDs_i64s_all, listAll] <;> (repeat' first | rfl | apply And.intro)); done) | ((simp [intDs_i64_all, intDs_i64s_all, listAll] <;> (repeat' first | rfl | apply And.intro)); done) | (simp [intDs_i64_all, intDs_i64s_all, listAll]; omega)
def M_z31_ints_l0 (rest0 : (List Int)) (k0 : Nat) (a1 : (List Int)) (r : Bool) : Prop := ∀ (a0 : (List Int)) (hd0 : rest0 = a0.drop k0), LoopAt T Try.prog Try.f42 Fx0 [] [1, 1, 0, 1, 0] (EP T Try.f42 (.bool r)) [(0, .d (.slice 1 (intDs_i64 a0))), (1, .d (.slice 1 (intDs_i64 a1))), (5, .d (.int .i64 (k0 : Int)))] [[]]
theorem G_z31_ints_l0 : (∀ p r, z31_ints_l0' p = some r → ∀ rest0 k0 a1, (rest0, k0, a1) = p → M_z31_ints_l0 rest0 k0 a1 r) := by
 refine z31_ints_l0'.partial_correctness (fun (p : ((List Int) × Nat × (List Int))) (r : Bool) => ∀ (rest0 : (List Int)) (k0 : Nat) (a1 : (List Int)), (rest0, k0, a1) = p → M_z31_ints_l0 rest0 k0 a1 r) ?_
 ·intro f_z31_ints_l0 ih_z31_ints_l0 p r e rest0 k0 a1 hp
  subst hp
  intro a0 hd0
  refine RunsL.len_tmp 0 rfl fun hlenk0 => ?_
  refine RunsL.of_awp (js := []) T_ok ?_; conv => whnf
  have hls := intDs_i64_len a0
  cases rest0 with
  | nil =>
   have hk := drop_nil hd0
   refine ⟨⟨fun h => absurd h (by omega), fun _ => ?_⟩⟩; conv => whnf
   obtain rfl := sm e
   repeat' first | exact rfl | exact trivial | refine ⟨?_, ?_⟩
  | cons v6 rest0 =>
   obtain ⟨hxv6, hd0, hltv6⟩ := drop_head hd0
   refine ⟨⟨fun _ => ?_, fun h => absurd (by omega) h⟩⟩; conv => whnf
   refine draw_rule [] T_ok mixed z31_ints_pl6 (by decide +kernel) ?_; conv => whnf
   refine ⟨k0, _, rfl, intDs_i64_get hxv6, ?_⟩; conv => whnf
   refine ⟨intDs_i64_fit _ rfl rfl, ?_⟩; conv => whnf
   obtain ⟨v7, qv7, e⟩ := bnd e
   obtain ⟨qv7k, qv7a, qv7b⟩ := geti_some qv7
   refine ⟨qv7k, _, qv7a, intDs_i64_get qv7b, ?_⟩; conv => whnf
   refine ⟨intDs_i64_fit _ rfl rfl, ?_⟩; conv => whnf
   refine ⟨⟨fun h8 => ?_, fun h8 => ?_⟩⟩
   ·replace e := ifp h8 e; conv => whnf
    obtain rfl := sm e
    repeat' first | exact rfl | exact trivial | refine ⟨?_, ?_⟩
   ·replace e := ifn h8 e; conv => whnf
    refine ⟨((k0 + 1 : Nat) : Int), wrap64e (by omega) (by omega) (by omega), ?_⟩; conv => whnf
    refine (RunsL.weak ((ih_z31_ints_l0 _ _ e _ _ _ rfl) a0 hd0) ?_)
    repeat' first | exact wk.of_eq rfl | exact wk.pure rfl | exact wk.un _ | exact wk.hold _ _ _ | exact wk.holdG _ _ _ | exact rfl | exact trivial | refine ⟨?_, ?_⟩
theorem P_z31_ints_l0 {rest0 : (List Int)} {k0 : Nat} {a1 : (List Int)} {r : Bool} (e : z31_ints_l0 rest0 k0 a1 = some r) : M_z31_ints_l0 rest0 k0 a1 r := G_z31_ints_l0 _ _ e _ _ _ rfl
theorem P_z31_ints {a0 : (List Int)} {a1 : (List Int)} {r : Bool} (e : z31_ints a0 a1 = some r) : Pure Try.prog 42 [(.slice 1 (intDs_i64 a0)), (.slice 1 (intDs_i64 a1))] (.bool r) := by
 unfold z31_ints at e
 refine pure_of_awp (js := []) T_ok Try.func42 rfl (by decide +kernel) rfl ?_; conv => whnf
 refine ⟨⟨fun h1 => ?_, fun h1 => ?_⟩⟩
 ·replace e := ifp (by first | exact h1 | omega | simpa [intDs_i64_all, listAll] using h1) e; conv => whnf
  obtain rfl := sm e
  repeat' first | exact rfl | exact trivial | refine ⟨?_, ?_⟩
 ·replace e := ifn (by first | exact h1 | omega | simpa [intDs_i64_all, listAll] using h1) e; conv => whnf
  refine RunsL.runs (RunsL.weak ((P_z31_ints_l0 e) a0 (by simp)) ?_)
  repeat' first | exact wk.of_eq rfl | exact wk.pure rfl | exact wk.un _ | exact wk.hold _ _ _ | exact wk.holdG _ _ _ | exact rfl | exact trivial | refine ⟨?_, ?_⟩
theorem P_z31_sameType {a0 : YN} {a1 : YN} {r : Bool} (e : z31_sameType a0 a1 = some r) : Pure Try.prog 26 [(YN.D a0), (YN.D a1)] (.bool r) := by
 unfold z31_sameType at e
 refine pure_of_awp (js := []) T_ok Try.func26 rfl (by decide +kernel) rfl ?_; conv => whnf
 refine ⟨⟨fun h1 => ?_, fun h1 => ?_⟩⟩
 ·replace e := ifp h1 e; conv => whnf
  refine ⟨⟨fun h2 => ?_, fun h2 => ?_⟩⟩
  ·replace e := ifp h2 e; conv => whnf
   obtain ⟨v3, qv3, e⟩ := bnd e
   refine said_pure (P_z31_ints qv3) rfl ?_; conv => whnf
   obtain rfl := sm e
   repeat' first | exact rfl | exact trivial | refine ⟨?_, ?_⟩
  ·replace e := ifn h2 e; conv => whnf
   obtain rfl := sm e
   repeat' first | exact rfl | exact trivial | refine ⟨?_, ?_⟩
 ·replace e := ifn h1 e; conv => whnf
  obtain rfl := sm e
  repeat' first | exact rfl | exact trivial | refine ⟨?_, ?_⟩
end Go.Proofs.Ytemfpemejagndaa.Fw

