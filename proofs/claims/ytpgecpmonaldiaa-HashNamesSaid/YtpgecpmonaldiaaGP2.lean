/- The code computes the functions. -/
import Derived.Test.YtpgecpmonaldiaaGP1
set_option autoImplicit false
set_option linter.unusedVariables false
set_option linter.unusedSimpArgs false
set_option maxHeartbeats 4000000
namespace Go.Proofs.Ytpgecpmonaldiaa.Fw
open Go Go.Proofs Go.RowKit
def M_hash_table_add_io (a1 : Tm) (b0_0 : (List ATypeNode)) (b0_1 : (List ATermNode)) (b3 : (List (HashTypeKey × Int))) (b4 : (List (HashTermKey × Int))) (r : (Int × (List ATypeNode) × (List ATermNode) × (List (HashTypeKey × Int)) × (List (HashTermKey × Int)))) : Prop := IoR Try.prog 54 [.ptr 0 0 0, .d (Tm.D a1)] [.cells [.own 0 1 3 (ATypeNode.Ds b0_0), .own 0 2 5 (ATermNode.Ds b0_1), .map 0 3, .map 0 4], .grow 3 (ATypeNode.Ds b0_0).length, .grow 5 (ATermNode.Ds b0_1).length, .map (mapD HashTypeKey.D (D.int .i64) b3), .map (mapD HashTermKey.D (D.int .i64) b4)] (.d (.int .i64 r.1)) ([.cells [.own 0 1 3 (ATypeNode.Ds r.2.1), .own 0 2 5 (ATermNode.Ds r.2.2.1), .map 0 3, .map 0 4], .grow 3 (ATypeNode.Ds r.2.1).length, .grow 5 (ATermNode.Ds r.2.2.1).length, .map (mapD HashTypeKey.D (D.int .i64) r.2.2.2.1), .map (mapD HashTermKey.D (D.int .i64) r.2.2.2.2)])
def M_hash_table_add_io_j0 (c0_0_1 : (List ATypeNode)) (c0_1_1 : (List ATermNode)) (m3_1 : (List (HashTypeKey × Int))) (m4_1 : (List (HashTermKey × Int))) (c6_2_1 : Int) (a1 : Tm) (r : (Int × (List ATypeNode) × (List ATermNode) × (List (HashTypeKey × Int)) × (List (HashTermKey × Int)))) : Prop := JoinAt T Try.prog Try.f54 ⟨[], 5⟩ [4, 9, 11] [1, 1, 1, 0, 0] (ES T Try.f54 5 (.d (.int .i64 r.1)) ([.cells [.own 0 1 3 (ATypeNode.Ds r.2.1), .own 0 2 5 (ATermNode.Ds r.2.2.1), .map 0 3, .map 0 4], .grow 3 (ATypeNode.Ds r.2.1).length, .grow 5 (ATermNode.Ds r.2.2.1).length, .map (mapD HashTypeKey.D (D.int .i64) r.2.2.2.1), .map (mapD HashTermKey.D (D.int .i64) r.2.2.2.2)])) [(0, .ptr 0 0 0), (3, .ptr 0 5 0), (5, .ptr 0 6 0)] [[.cells [.own 0 1 3 (ATypeNode.Ds c0_0_1), .own 0 2 5 (ATermNode.Ds c0_1_1), .map 0 3, .map 0 4], .grow 3 (ATypeNode.Ds c0_0_1).length, .grow 5 (ATermNode.Ds c0_1_1).length, .map (mapD HashTypeKey.D (D.int .i64) m3_1), .map (mapD HashTermKey.D (D.int .i64) m4_1), .cells [.d (.int .u8 a1.kind), .d (.str a1.name), .d (.bool a1.ty.v), .d (.str a1.ty.name), .d (.slice 3 (Ty.Ds a1.ty.args)), .d (.int .i64 a1.index), .d (.slice 7 (Tm.Ds a1.sub))], .cells [.d (.int .u8 a1.kind), .d (.str a1.name), .d (.int .i64 c6_2_1), .d (.int .i64 a1.index), .nil 1]]]
def M_hash_table_add_io_l0 (rest0 : (List Tm)) (c0_0_0 : (List ATypeNode)) (c0_1_0 : (List ATermNode)) (m3_0 : (List (HashTypeKey × Int))) (m4_0 : (List (HashTermKey × Int))) (c6_4_0 : (List Int)) (a1 : Tm) (c6_2_1 : Int) (r : (Int × (List ATypeNode) × (List ATermNode) × (List (HashTypeKey × Int)) × (List (HashTermKey × Int)))) : Prop := ∀ (k0 : Nat) (hd0 : rest0 = a1.sub.drop k0), LoopAt T Try.prog Try.f54 ⟨[], 5⟩ [4, 9, 11] [1, 1, 1, 0, 1, 0] (ES T Try.f54 5 (.d (.int .i64 r.1)) ([.cells [.own 0 1 3 (ATypeNode.Ds r.2.1), .own 0 2 5 (ATermNode.Ds r.2.2.1), .map 0 3, .map 0 4], .grow 3 (ATypeNode.Ds r.2.1).length, .grow 5 (ATermNode.Ds r.2.2.1).length, .map (mapD HashTypeKey.D (D.int .i64) r.2.2.2.1), .map (mapD HashTermKey.D (D.int .i64) r.2.2.2.2)])) [(0, .ptr 0 0 0), (5, .ptr 0 6 0), (32, .d (.slice 7 (Tm.Ds a1.sub))), (33, .d (.int .i64 ((Tm.Ds a1.sub).length : Int))), (34, .d (.int .i64 (k0 : Int)))] [[.cells [.own 0 1 3 (ATypeNode.Ds c0_0_0), .own 0 2 5 (ATermNode.Ds c0_1_0), .map 0 3, .map 0 4], .grow 3 (ATypeNode.Ds c0_0_0).length, .grow 5 (ATermNode.Ds c0_1_0).length, .map (mapD HashTypeKey.D (D.int .i64) m3_0), .map (mapD HashTermKey.D (D.int .i64) m4_0), .cells [.d (.int .u8 a1.kind), .d (.str a1.name), .d (.bool a1.ty.v), .d (.str a1.ty.name), .d (.slice 3 (Ty.Ds a1.ty.args)), .d (.int .i64 a1.index), .d (.slice 7 (Tm.Ds a1.sub))], .cells [.d (.int .u8 a1.kind), .d (.str a1.name), .d (.int .i64 c6_2_1), .d (.int .i64 a1.index), .own 0 7 1 (intDs_i64 c6_4_0)], .grow 1 (intDs_i64 c6_4_0).length]]
theorem G_hash_table_add_io : (∀ p r, hash_table_add_io' p = some r → ∀ a1 b0_0 b0_1 b3 b4, (a1, b0_0, b0_1, b3, b4) = p → M_hash_table_add_io a1 b0_0 b0_1 b3 b4 r) ∧
    (∀ p r, hash_table_add_io_j0' p = some r → ∀ c0_0_1 c0_1_1 m3_1 m4_1 c6_2_1 a1, (c0_0_1, c0_1_1, m3_1, m4_1, c6_2_1, a1) = p → M_hash_table_add_io_j0 c0_0_1 c0_1_1 m3_1 m4_1 c6_2_1 a1 r) ∧
    (∀ p r, hash_table_add_io_l0' p = some r → ∀ rest0 c0_0_0 c0_1_0 m3_0 m4_0 c6_4_0 a1 c6_2_1, (rest0, c0_0_0, c0_1_0, m3_0, m4_0, c6_4_0, a1, c6_2_1) = p → M_hash_table_add_io_l0 rest0 c0_0_0 c0_1_0 m3_0 m4_0 c6_4_0 a1 c6_2_1 r) := by
  refine hash_table_add_io'.mutual_partial_correctness (fun (p : (Tm × (List ATypeNode) × (List ATermNode) × (List (HashTypeKey × Int)) × (List (HashTermKey × Int)))) (r : (Int × (List ATypeNode) × (List ATermNode) × (List (HashTypeKey × Int)) × (List (HashTermKey × Int)))) => ∀ (a1 : Tm) (b0_0 : (List ATypeNode)) (b0_1 : (List ATermNode)) (b3 : (List (HashTypeKey × Int))) (b4 : (List (HashTermKey × Int))), (a1, b0_0, b0_1, b3, b4) = p → M_hash_table_add_io a1 b0_0 b0_1 b3 b4 r) (fun (p : ((List ATypeNode) × (List ATermNode) × (List (HashTypeKey × Int)) × (List (HashTermKey × Int)) × Int × Tm)) (r : (Int × (List ATypeNode) × (List ATermNode) × (List (HashTypeKey × Int)) × (List (HashTermKey × Int)))) => ∀ (c0_0_1 : (List ATypeNode)) (c0_1_1 : (List ATermNode)) (m3_1 : (List (HashTypeKey × Int))) (m4_1 : (List (HashTermKey × Int))) (c6_2_1 : Int) (a1 : Tm), (c0_0_1, c0_1_1, m3_1, m4_1, c6_2_1, a1) = p → M_hash_table_add_io_j0 c0_0_1 c0_1_1 m3_1 m4_1 c6_2_1 a1 r) (fun (p : ((List Tm) × (List ATypeNode) × (List ATermNode) × (List (HashTypeKey × Int)) × (List (HashTermKey × Int)) × (List Int) × Tm × Int)) (r : (Int × (List ATypeNode) × (List ATermNode) × (List (HashTypeKey × Int)) × (List (HashTermKey × Int)))) => ∀ (rest0 : (List Tm)) (c0_0_0 : (List ATypeNode)) (c0_1_0 : (List ATermNode)) (m3_0 : (List (HashTypeKey × Int))) (m4_0 : (List (HashTermKey × Int))) (c6_4_0 : (List Int)) (a1 : Tm) (c6_2_1 : Int), (rest0, c0_0_0, c0_1_0, m3_0, m4_0, c6_4_0, a1, c6_2_1) = p → M_hash_table_add_io_l0 rest0 c0_0_0 c0_1_0 m3_0 m4_0 c6_4_0 a1 c6_2_1 r) ?_ ?_ ?_
  · intro f_hash_table_add_io_j0 ih_hash_table_add_io_j0 p r e a1 b0_0 b0_1 b3 b4 hp
    subst hp
    refine io_of_awp2 (js := [4, 9, 11]) T_ok Try.func54 rfl (by decide +kernel) rfl ?_; (conv => whnf)
    refine ⟨⟨fun h1 => ?_, fun h1 => ?_⟩⟩
    · replace e := ifp h1 e; (conv => whnf)
      refine ⟨⟨fun h2 => ?_, fun h2 => ?_⟩⟩
      · replace e := ifp h2 e; (conv => whnf)
        obtain ⟨v3, qv3, e⟩ := bnd e
        first | (refine said_iorF (P_hash_table_addType_io qv3) [0, 1, 2, 3, 4] [.ptr 0 0 0, .d (Ty.D a1.ty)] rfl ⟨wk.refl _, wk.pure rfl, trivial⟩ rfl rfl ?_) | (refine said_iorF2 (P_hash_table_addType_io qv3) [0, 1, 2, 3, 4] [.ptr 0 0 0, .d (Ty.D a1.ty)] rfl ⟨wk.refl _, wk.pure rfl, trivial⟩ rfl rfl (by simp [ATermNode.Ds_all, Tm.Ds_all, Ty.Ds_all, intDs_i64_all, ATermNode.D, HashTermKey.D, Tm.D, Ty.D, listAll] <;> (repeat' first | rfl | apply And.intro)) ?_)
        (conv => whnf)
        refine Runs.weak (ih_hash_table_add_io_j0 _ _ e _ _ _ _ _ _ rfl) ?_
        repeat' first | exact wk.of_eq rfl | exact wk.pure rfl | exact wk.un _ | exact wk.hold _ _ _ | exact rfl | exact trivial | refine ⟨?_, ?_⟩ | (refine wk.of_eq ?_; (conv => lhs; whnf); (simp [ATermNode.Ds_all, Tm.Ds_all, Ty.Ds_all, intDs_i64_all, ATermNode.D, HashTermKey.D, Tm.D, Ty.D, listAll] <;> (repeat' first | rfl | apply And.intro)); done) | (refine wk.pure ?_; (conv => lhs; whnf); (simp [ATermNode.Ds_all, Tm.Ds_all, Ty.Ds_all, intDs_i64_all, ATermNode.D, HashTermKey.D, Tm.D, Ty.D, listAll] <;> (repeat' first | rfl | apply And.intro)); done) | ((simp [ATermNode.Ds_all, Tm.Ds_all, Ty.Ds_all, intDs_i64_all, ATermNode.D, HashTermKey.D, Tm.D, Ty.D, listAll] <;> (repeat' first | rfl | apply And.intro)); done)
      · replace e := ifn h2 e; (conv => whnf)
        refine Runs.weak (ih_hash_table_add_io_j0 _ _ e _ _ _ _ _ _ rfl) ?_
        repeat' first | exact wk.of_eq rfl | exact wk.pure rfl | exact wk.un _ | exact wk.hold _ _ _ | exact rfl | exact trivial | refine ⟨?_, ?_⟩ | (refine wk.of_eq ?_; (conv => lhs; whnf); (simp [ATermNode.Ds_all, Tm.Ds_all, Ty.Ds_all, intDs_i64_all, ATermNode.D, HashTermKey.D, Tm.D, Ty.D, listAll] <;> (repeat' first | rfl | apply And.intro)); done) | (refine wk.pure ?_; (conv => lhs; whnf); (simp [ATermNode.Ds_all, Tm.Ds_all, Ty.Ds_all, intDs_i64_all, ATermNode.D, HashTermKey.D, Tm.D, Ty.D, listAll] <;> (repeat' first | rfl | apply And.intro)); done) | ((simp [ATermNode.Ds_all, Tm.Ds_all, Ty.Ds_all, intDs_i64_all, ATermNode.D, HashTermKey.D, Tm.D, Ty.D, listAll] <;> (repeat' first | rfl | apply And.intro)); done)
    · replace e := ifn h1 e; (conv => whnf)
      refine Runs.weak (ih_hash_table_add_io_j0 _ _ e _ _ _ _ _ _ rfl) ?_
      repeat' first | exact wk.of_eq rfl | exact wk.pure rfl | exact wk.un _ | exact wk.hold _ _ _ | exact rfl | exact trivial | refine ⟨?_, ?_⟩ | (refine wk.of_eq ?_; (conv => lhs; whnf); (simp [ATermNode.Ds_all, Tm.Ds_all, Ty.Ds_all, intDs_i64_all, ATermNode.D, HashTermKey.D, Tm.D, Ty.D, listAll] <;> (repeat' first | rfl | apply And.intro)); done) | (refine wk.pure ?_; (conv => lhs; whnf); (simp [ATermNode.Ds_all, Tm.Ds_all, Ty.Ds_all, intDs_i64_all, ATermNode.D, HashTermKey.D, Tm.D, Ty.D, listAll] <;> (repeat' first | rfl | apply And.intro)); done) | ((simp [ATermNode.Ds_all, Tm.Ds_all, Ty.Ds_all, intDs_i64_all, ATermNode.D, HashTermKey.D, Tm.D, Ty.D, listAll] <;> (repeat' first | rfl | apply And.intro)); done)
  · intro f_hash_table_add_io_l0 ih_hash_table_add_io_l0 p r e c0_0_1 c0_1_1 m3_1 m4_1 c6_2_1 a1 hp
    subst hp
    refine Runs.enter T_ok ?_; (conv => whnf)
    refine Runs.hold 1 ?_
    refine RunsL.runs (RunsL.weak ((ih_hash_table_add_io_l0 _ _ e _ _ _ _ _ _ _ _ rfl) 0 (by simp)) ?_)
    repeat' first | exact wk.of_eq rfl | exact wk.pure rfl | exact wk.un _ | exact wk.hold _ _ _ | exact rfl | exact trivial | refine ⟨?_, ?_⟩ | (refine wk.of_eq ?_; (conv => lhs; whnf); (simp [ATermNode.Ds_all, Tm.Ds_all, Ty.Ds_all, intDs_i64_all, ATermNode.D, HashTermKey.D, Tm.D, Ty.D, listAll] <;> (repeat' first | rfl | apply And.intro)); done) | (refine wk.pure ?_; (conv => lhs; whnf); (simp [ATermNode.Ds_all, Tm.Ds_all, Ty.Ds_all, intDs_i64_all, ATermNode.D, HashTermKey.D, Tm.D, Ty.D, listAll] <;> (repeat' first | rfl | apply And.intro)); done) | ((simp [ATermNode.Ds_all, Tm.Ds_all, Ty.Ds_all, intDs_i64_all, ATermNode.D, HashTermKey.D, Tm.D, Ty.D, listAll] <;> (repeat' first | rfl | apply And.intro)); done)
  · intro f_hash_table_add_io f_hash_table_add_io_l0 ih_hash_table_add_io ih_hash_table_add_io_l0 p r e rest0 c0_0_0 c0_1_0 m3_0 m4_0 c6_4_0 a1 c6_2_1 hp
    subst hp
    intro k0 hd0
    refine RunsL.len_tmp 32 rfl fun hlenk0 => ?_
    refine RunsL.of_awp (js := [4, 9, 11]) T_ok ?_; (conv => whnf)
    have hls := Tm.Ds_len a1.sub
    cases rest0 with
    | nil =>
      have hk := drop_nil hd0
      refine ⟨⟨fun h => absurd h (by omega), fun _ => ?_⟩⟩; (conv => whnf)
      refine Runs.weak (P_hash_table_add_io_j1 e) ?_
      repeat' first | exact wk.of_eq rfl | exact wk.pure rfl | exact wk.un _ | exact wk.hold _ _ _ | exact rfl | exact trivial | refine ⟨?_, ?_⟩ | (refine wk.of_eq ?_; (conv => lhs; whnf); (simp [ATermNode.Ds_all, Tm.Ds_all, Ty.Ds_all, intDs_i64_all, ATermNode.D, HashTermKey.D, Tm.D, Ty.D, listAll] <;> (repeat' first | rfl | apply And.intro)); done) | (refine wk.pure ?_; (conv => lhs; whnf); (simp [ATermNode.Ds_all, Tm.Ds_all, Ty.Ds_all, intDs_i64_all, ATermNode.D, HashTermKey.D, Tm.D, Ty.D, listAll] <;> (repeat' first | rfl | apply And.intro)); done) | ((simp [ATermNode.Ds_all, Tm.Ds_all, Ty.Ds_all, intDs_i64_all, ATermNode.D, HashTermKey.D, Tm.D, Ty.D, listAll] <;> (repeat' first | rfl | apply And.intro)); done)
    | cons v35 rest0 =>
      obtain ⟨hxv35, hd0, hltv35⟩ := drop_head hd0
      refine ⟨⟨fun _ => ?_, fun h => absurd (by omega) h⟩⟩; (conv => whnf)
      refine ⟨k0, _, rfl, Tm.Ds_get hxv35, ?_⟩; (conv => whnf)
      refine ⟨Tm.Ds_fit _ rfl rfl, ?_⟩; (conv => whnf)
      refine draw_rule [0, 1, 2, 3, 4] T_ok mixed hash_table_add_io_pl7 (by decide +kernel) ?_; (conv => whnf)
      obtain ⟨v36, qv36, e⟩ := bnd e
      first | (refine said_iorF (ih_hash_table_add_io _ _ qv36 _ _ _ _ _ rfl) [0, 1, 2, 3, 4] [.ptr 0 0 0, .d (Tm.D v35)] rfl ⟨wk.refl _, wk.pure rfl, trivial⟩ rfl rfl ⟨(keeps_back rfl), ?_⟩) | (refine said_iorF2 (ih_hash_table_add_io _ _ qv36 _ _ _ _ _ rfl) [0, 1, 2, 3, 4] [.ptr 0 0 0, .d (Tm.D v35)] rfl ⟨wk.refl _, wk.pure rfl, trivial⟩ rfl rfl (by simp [ATermNode.Ds_all, Tm.Ds_all, Ty.Ds_all, intDs_i64_all, ATermNode.D, HashTermKey.D, Tm.D, Ty.D, listAll] <;> (repeat' first | rfl | apply And.intro)) ⟨(keeps_back rfl), ?_⟩)
      (conv => whnf)
      refine ⟨⟨⟨rfl, rfl⟩, trivial⟩, ?_⟩; (conv => whnf)
      obtain ⟨v37, qv37, e⟩ := bnd e
      obtain ⟨qv37l, qv37e⟩ := app_some qv37
      refine ⟨(by first | exact qv37l | simpa [ATermNode.Ds_all, Tm.Ds_all, Ty.Ds_all, intDs_i64_all, ATermNode.D, HashTermKey.D, Tm.D, Ty.D, listAll] using qv37l), rfl, (by first | rfl | simp [ATermNode.Ds_all, Tm.Ds_all, Ty.Ds_all, intDs_i64_all, ATermNode.D, HashTermKey.D, Tm.D, Ty.D, listAll]), ?_⟩; (conv => whnf)
      refine ⟨((k0 + 1 : Nat) : Int), wrap64e (by omega) (by omega) (by omega), ?_⟩; (conv => whnf)
      refine (RunsL.weak ((ih_hash_table_add_io_l0 _ _ e _ _ _ _ _ _ _ _ rfl) (k0 + 1) hd0) ?_)
      repeat' first | exact wk.of_eq rfl | exact wk.pure rfl | exact wk.un _ | exact wk.hold _ _ _ | exact rfl | exact trivial | refine ⟨?_, ?_⟩ | (refine wk.of_eq ?_; (conv => lhs; whnf); (simp [ATermNode.Ds_all, Tm.Ds_all, Ty.Ds_all, intDs_i64_all, ATermNode.D, HashTermKey.D, Tm.D, Ty.D, listAll, qv37e] <;> (repeat' first | rfl | apply And.intro)); done) | (refine wk.pure ?_; (conv => lhs; whnf); (simp [ATermNode.Ds_all, Tm.Ds_all, Ty.Ds_all, intDs_i64_all, ATermNode.D, HashTermKey.D, Tm.D, Ty.D, listAll, qv37e] <;> (repeat' first | rfl | apply And.intro)); done) | ((simp [ATermNode.Ds_all, Tm.Ds_all, Ty.Ds_all, intDs_i64_all, ATermNode.D, HashTermKey.D, Tm.D, Ty.D, listAll, qv37e] <;> (repeat' first | rfl | apply And.intro)); done)
theorem P_hash_table_add_io {a1 : Tm} {b0_0 : (List ATypeNode)} {b0_1 : (List ATermNode)} {b3 : (List (HashTypeKey × Int))} {b4 : (List (HashTermKey × Int))} {r : (Int × (List ATypeNode) × (List ATermNode) × (List (HashTypeKey × Int)) × (List (HashTermKey × Int)))} (e : hash_table_add_io a1 b0_0 b0_1 b3 b4 = some r) : M_hash_table_add_io a1 b0_0 b0_1 b3 b4 r := G_hash_table_add_io.1 _ _ e _ _ _ _ _ rfl
theorem P_hash_table_add_io_j0 {c0_0_1 : (List ATypeNode)} {c0_1_1 : (List ATermNode)} {m3_1 : (List (HashTypeKey × Int))} {m4_1 : (List (HashTermKey × Int))} {c6_2_1 : Int} {a1 : Tm} {r : (Int × (List ATypeNode) × (List ATermNode) × (List (HashTypeKey × Int)) × (List (HashTermKey × Int)))} (e : hash_table_add_io_j0 c0_0_1 c0_1_1 m3_1 m4_1 c6_2_1 a1 = some r) : M_hash_table_add_io_j0 c0_0_1 c0_1_1 m3_1 m4_1 c6_2_1 a1 r := G_hash_table_add_io.2.1 _ _ e _ _ _ _ _ _ rfl
theorem P_hash_table_add_io_l0 {rest0 : (List Tm)} {c0_0_0 : (List ATypeNode)} {c0_1_0 : (List ATermNode)} {m3_0 : (List (HashTypeKey × Int))} {m4_0 : (List (HashTermKey × Int))} {c6_4_0 : (List Int)} {a1 : Tm} {c6_2_1 : Int} {r : (Int × (List ATypeNode) × (List ATermNode) × (List (HashTypeKey × Int)) × (List (HashTermKey × Int)))} (e : hash_table_add_io_l0 rest0 c0_0_0 c0_1_0 m3_0 m4_0 c6_4_0 a1 c6_2_1 = some r) : M_hash_table_add_io_l0 rest0 c0_0_0 c0_1_0 m3_0 m4_0 c6_4_0 a1 c6_2_1 r := G_hash_table_add_io.2.2 _ _ e _ _ _ _ _ _ _ _ rfl

theorem P_hash_table_done_io {a1 : Int} {b0_0 : (List ATypeNode)} {b0_1 : (List ATermNode)} {b3 : (List (HashTypeKey × Int))} {b4 : (List (HashTermKey × Int))} {r : ((AStore × Int × Int × (List ATypeNode) × (List ATermNode) × (List (HashTypeKey × Int)) × (List (HashTermKey × Int))) ⊕ ((List ATypeNode) × (List ATermNode) × Int × Int × (List ATypeNode) × (List ATermNode) × (List (HashTypeKey × Int)) × (List (HashTermKey × Int))))} (e : hash_table_done_io a1 b0_0 b0_1 b3 b4 = some r) : IoR Try.prog 46 [.ptr 0 0 0, .d (.int .i64 a1)] [.cells [.own 0 1 3 (ATypeNode.Ds b0_0), .own 0 2 5 (ATermNode.Ds b0_1), .map 0 3, .map 0 4], .grow 3 (ATypeNode.Ds b0_0).length, .grow 5 (ATermNode.Ds b0_1).length, .map (mapD HashTypeKey.D (D.int .i64) b3), .map (mapD HashTermKey.D (D.int .i64) b4)] ((Y_hash_table_done_io r)) ((L_hash_table_done_io r)) := by
  unfold hash_table_done_io at e
  refine io_of_awp2 (js := []) T_ok Try.func46 rfl (by decide +kernel) rfl ?_; (conv => whnf)
  refine ⟨⟨fun h1 => ?_, fun h1 => ?_⟩⟩
  · replace e := ifp (by first | exact h1 | simpa [ATermNode.Ds_all, ATypeNode.Ds_all, AStore.D, ATermNode.D, ATypeNode.D, listAll] using h1) e; (conv => whnf)
    obtain rfl := sm e
    refine ⟨[0, 1, 2, 3, 4], ⟨rfl, rfl⟩, ?_, ⟨⟨_, rfl, ⟨⟨?_, ?_, rfl, rfl, trivial⟩, rfl⟩⟩, ⟨_, rfl, ?_⟩, ⟨_, rfl, ?_⟩, ⟨_, rfl, rfl⟩, ⟨_, rfl, rfl⟩, trivial⟩⟩
    repeat' first | exact rfl | exact trivial | refine ⟨?_, ?_⟩ | (simp [ATermNode.Ds_all, ATypeNode.Ds_all, AStore.D, ATermNode.D, ATypeNode.D, listAll] <;> (repeat' first | rfl | apply And.intro); done)
  · replace e := ifn (by first | exact h1 | simpa [ATermNode.Ds_all, ATypeNode.Ds_all, AStore.D, ATermNode.D, ATypeNode.D, listAll] using h1) e; (conv => whnf)
    refine ⟨⟨fun h2 => ?_, fun h2 => ?_⟩⟩
    · replace e := ifp (by first | exact h2 | simpa [ATermNode.Ds_all, ATypeNode.Ds_all, AStore.D, ATermNode.D, ATypeNode.D, listAll] using h2) e; (conv => whnf)
      obtain rfl := sm e
      refine ⟨[0, 1, 2, 3, 4], ⟨rfl, rfl⟩, ?_, ⟨⟨_, rfl, ⟨⟨?_, ?_, rfl, rfl, trivial⟩, rfl⟩⟩, ⟨_, rfl, ?_⟩, ⟨_, rfl, ?_⟩, ⟨_, rfl, rfl⟩, ⟨_, rfl, rfl⟩, trivial⟩⟩
      repeat' first | exact rfl | exact trivial | refine ⟨?_, ?_⟩ | (simp [ATermNode.Ds_all, ATypeNode.Ds_all, AStore.D, ATermNode.D, ATypeNode.D, listAll] <;> (repeat' first | rfl | apply And.intro); done)
    · replace e := ifn (by first | exact h2 | simpa [ATermNode.Ds_all, ATypeNode.Ds_all, AStore.D, ATermNode.D, ATypeNode.D, listAll] using h2) e; (conv => whnf)
      obtain rfl := sm e
      refine ⟨[0, 1, 2, 3, 4], ⟨rfl, rfl⟩, ⟨?_, rfl, rfl, trivial⟩, ⟨⟨_, rfl, ⟨⟨?_, ?_, rfl, rfl, trivial⟩, rfl⟩⟩, ⟨_, rfl, ?_⟩, ⟨_, rfl, ?_⟩, ⟨_, rfl, rfl⟩, ⟨_, rfl, rfl⟩, trivial⟩⟩
      repeat' first | exact rfl | exact trivial | refine ⟨?_, ?_⟩ | (simp [ATermNode.Ds_all, ATypeNode.Ds_all, AStore.D, ATermNode.D, ATypeNode.D, listAll] <;> (repeat' first | rfl | apply And.intro); done)

theorem P_hash_Add_j0 {r : (AStore × Int × Int)} (e : hash_Add_j0 = some r) : ∀ (a0 : AStore) (a1 : Tm), JoinAt T Try.prog Try.f18 Fx0 [2] [1, 1, 0, 0] (EP T Try.f18 (.tuple [(AStore.D r.1), (.int .i64 r.2.1), (.int .i64 r.2.2)])) [(3, .ptr 0 1 0), (4, .ptr 0 2 0), (7, .d .nilptr), (8, .d (.int .i64 4))] [[.cells [.d (.slice 3 (ATypeNode.Ds a0.types)), .d (.slice 5 (ATermNode.Ds a0.terms))], .cells [.d (.int .u8 a1.kind), .d (.str a1.name), .d (.bool a1.ty.v), .d (.str a1.ty.name), .d (.slice 3 (Ty.Ds a1.ty.args)), .d (.int .i64 a1.index), .d (.slice 7 (Tm.Ds a1.sub))], .cells [.nil 3, .nil 5]]] := by
  unfold hash_Add_j0 at e
  intro a0 a1
  refine Runs.enter T_ok ?_; (conv => whnf)
  refine ⟨⟨fun h => absurd h (by decide), fun _ => ?_⟩⟩; (conv => whnf)
  refine ⟨⟨fun _ => ?_, fun h => absurd (by decide) h⟩⟩; (conv => whnf)
  obtain rfl := sm e
  repeat' first | exact rfl | exact trivial | refine ⟨?_, ?_⟩

theorem P_hash_Add_j0b {r : (AStore × Int × Int)} (e : hash_Add_j0b = some r) : ∀ (a0 : AStore) (a1 : Tm), JoinAt T Try.prog Try.f18 Fx0 [2] [1, 1, 0, 0] (EP T Try.f18 (.tuple [(AStore.D r.1), (.int .i64 r.2.1), (.int .i64 r.2.2)])) [(3, .ptr 0 1 0), (4, .ptr 0 2 0), (7, .d .nilptr), (8, .d (.int .i64 8))] [[.cells [.d (.slice 3 (ATypeNode.Ds a0.types)), .d (.slice 5 (ATermNode.Ds a0.terms))], .cells [.d (.int .u8 a1.kind), .d (.str a1.name), .d (.bool a1.ty.v), .d (.str a1.ty.name), .d (.slice 3 (Ty.Ds a1.ty.args)), .d (.int .i64 a1.index), .d (.slice 7 (Tm.Ds a1.sub))], .cells [.nil 3, .nil 5]]] := by
  unfold hash_Add_j0b at e
  intro a0 a1
  refine Runs.enter T_ok ?_; (conv => whnf)
  refine ⟨⟨fun h => absurd h (by decide), fun _ => ?_⟩⟩; (conv => whnf)
  refine ⟨⟨fun _ => ?_, fun h => absurd (by decide) h⟩⟩; (conv => whnf)
  obtain rfl := sm e
  repeat' first | exact rfl | exact trivial | refine ⟨?_, ?_⟩

theorem P_hash_Add_j0c {a1 : Tm} {v4 : ((List ATypeNode) × (List ATermNode) × (List (HashTypeKey × Int)) × (List (HashTermKey × Int)))} {r : (AStore × Int × Int)} (e : hash_Add_j0c a1 v4 = some r) : ∀ (a0 : AStore), JoinAt T Try.prog Try.f18 Fx0 [2] [1, 1, 0, 0] (EP T Try.f18 (.tuple [(AStore.D r.1), (.int .i64 r.2.1), (.int .i64 r.2.2)])) [(3, .ptr 0 1 0), (4, .ptr 0 2 0), (7, .ptr 0 3 0), (8, .d (.int .i64 0))] [[.cells [.d (.slice 3 (ATypeNode.Ds a0.types)), .d (.slice 5 (ATermNode.Ds a0.terms))], .cells [.d (.int .u8 a1.kind), .d (.str a1.name), .d (.bool a1.ty.v), .d (.str a1.ty.name), .d (.slice 3 (Ty.Ds a1.ty.args)), .d (.int .i64 a1.index), .d (.slice 7 (Tm.Ds a1.sub))], .cells [.nil 3, .nil 5], .cells [.own 0 4 3 (ATypeNode.Ds v4.1), .own 0 5 5 (ATermNode.Ds v4.2.1), .map 0 6, .map 0 7], .grow 3 (ATypeNode.Ds v4.1).length, .grow 5 (ATermNode.Ds v4.2.1).length, .map (mapD HashTypeKey.D (D.int .i64) v4.2.2.1), .map (mapD HashTermKey.D (D.int .i64) v4.2.2.2)]] := by
  unfold hash_Add_j0c at e
  intro a0
  refine Runs.enter T_ok ?_; (conv => whnf)
  refine ⟨⟨fun _ => ?_, fun h => absurd (by decide) h⟩⟩; (conv => whnf)
  obtain ⟨v5, qv5, e⟩ := bnd e
  refine said_pure (P_terms_Check qv5) rfl ?_; (conv => whnf)
  refine ⟨⟨fun h6 => ?_, fun h6 => ?_⟩⟩
  · replace e := ifp h6 e; (conv => whnf)
    obtain rfl := sm e
    repeat' first | exact rfl | exact trivial | refine ⟨?_, ?_⟩
  · replace e := ifn h6 e; (conv => whnf)
    obtain ⟨v7, qv7, e⟩ := bnd e
    first | (refine said_iorF (P_hash_table_add_io qv7) [3, 4, 5, 6, 7] [.ptr 0 3 0, .d (Tm.D a1)] rfl ⟨wk.refl _, wk.pure rfl, trivial⟩ rfl rfl ?_) | (refine said_iorF2 (P_hash_table_add_io qv7) [3, 4, 5, 6, 7] [.ptr 0 3 0, .d (Tm.D a1)] rfl ⟨wk.refl _, wk.pure rfl, trivial⟩ rfl rfl (by simp [ATermNode.Ds_all, ATypeNode.Ds_all, Tm.Ds_all, Ty.Ds_all, AStore.D, ATermNode.D, ATypeNode.D, Tm.D, Ty.D, listAll] <;> (repeat' first | rfl | apply And.intro)) ?_)
    (conv => whnf)
    obtain ⟨v8, qv8, e⟩ := bnd e
    rcases v8 with v9 | v10
    · first | (refine said_iorF (P_hash_table_done_io qv8) [3, 4, 5, 6, 7] [.ptr 0 3 0, .d (.int .i64 v7.1)] rfl ⟨wk.refl _, wk.pure rfl, trivial⟩ rfl rfl ?_) | (refine said_iorF2 (P_hash_table_done_io qv8) [3, 4, 5, 6, 7] [.ptr 0 3 0, .d (.int .i64 v7.1)] rfl ⟨wk.refl _, wk.pure rfl, trivial⟩ rfl rfl (by simp [ATermNode.Ds_all, ATypeNode.Ds_all, Tm.Ds_all, Ty.Ds_all, AStore.D, ATermNode.D, ATypeNode.D, Tm.D, Ty.D, listAll] <;> (repeat' first | rfl | apply And.intro)) ?_)
      (conv => whnf)
      obtain rfl := sm e
      repeat' first | exact rfl | exact trivial | refine ⟨?_, ?_⟩
    · first | (refine said_iorF (P_hash_table_done_io qv8) [3, 4, 5, 6, 7] [.ptr 0 3 0, .d (.int .i64 v7.1)] rfl ⟨wk.refl _, wk.pure rfl, trivial⟩ rfl rfl ?_) | (refine said_iorF2 (P_hash_table_done_io qv8) [3, 4, 5, 6, 7] [.ptr 0 3 0, .d (.int .i64 v7.1)] rfl ⟨wk.refl _, wk.pure rfl, trivial⟩ rfl rfl (by simp [ATermNode.Ds_all, ATypeNode.Ds_all, Tm.Ds_all, Ty.Ds_all, AStore.D, ATermNode.D, ATypeNode.D, Tm.D, Ty.D, listAll] <;> (repeat' first | rfl | apply And.intro)) ?_)
      (conv => whnf)
      obtain rfl := sm e
      repeat' first | exact rfl | exact trivial | exact ⟨_, rfl, (by first | exact rfl | (simp [ATermNode.Ds_all, ATypeNode.Ds_all, Tm.Ds_all, Ty.Ds_all, AStore.D, ATermNode.D, ATypeNode.D, Tm.D, Ty.D, listAll] <;> (repeat' first | rfl | apply And.intro))), (by first | exact rfl | (simp [ATermNode.Ds_all, ATypeNode.Ds_all, Tm.Ds_all, Ty.Ds_all, AStore.D, ATermNode.D, ATypeNode.D, Tm.D, Ty.D, listAll] <;> (repeat' first | rfl | apply And.intro)))⟩ | refine ⟨?_, ?_⟩ | (simp [ATermNode.Ds_all, ATypeNode.Ds_all, Tm.Ds_all, Ty.Ds_all, AStore.D, ATermNode.D, ATypeNode.D, Tm.D, Ty.D, listAll] <;> (repeat' first | rfl | apply And.intro))

theorem P_hash_Add {a0 : AStore} {a1 : Tm} {r : (AStore × Int × Int)} (e : hash_Add a0 a1 = some r) : Pure Try.prog 18 [(AStore.D a0), (Tm.D a1)] (.tuple [(AStore.D r.1), (.int .i64 r.2.1), (.int .i64 r.2.2)]) := by
  unfold hash_Add at e
  refine pure_of_awp (js := [2]) T_ok Try.func18 rfl (by decide +kernel) rfl ?_; (conv => whnf)
  obtain ⟨v1, qv1, e⟩ := bnd e
  rcases v1 with v2 | v3 | v4
  · refine said_iorF (P_hash_open_io qv1) [] [.d (AStore.D a0)] rfl ⟨wk.pure rfl, trivial⟩ rfl rfl ?_; (conv => whnf)
    refine Runs.weak ((P_hash_Add_j0 e) a0 a1) ?_
    repeat' first | exact wk.of_eq rfl | exact wk.pure rfl | exact wk.un _ | exact wk.hold _ _ _ | exact rfl | exact trivial | refine ⟨?_, ?_⟩
  · refine said_iorF (P_hash_open_io qv1) [] [.d (AStore.D a0)] rfl ⟨wk.pure rfl, trivial⟩ rfl rfl ?_; (conv => whnf)
    refine Runs.weak ((P_hash_Add_j0b e) a0 a1) ?_
    repeat' first | exact wk.of_eq rfl | exact wk.pure rfl | exact wk.un _ | exact wk.hold _ _ _ | exact rfl | exact trivial | refine ⟨?_, ?_⟩
  · refine said_iorF (P_hash_open_io qv1) [] [.d (AStore.D a0)] rfl ⟨wk.pure rfl, trivial⟩ rfl rfl ?_; (conv => whnf)
    refine Runs.weak ((P_hash_Add_j0c e) a0) ?_
    repeat' first | exact wk.of_eq rfl | exact wk.pure rfl | exact wk.un _ | exact wk.hold _ _ _ | exact rfl | exact trivial | refine ⟨?_, ?_⟩ | (refine wk.of_eq ?_; (conv => lhs; whnf); (simp [ATermNode.Ds_all, ATypeNode.Ds_all, Tm.Ds_all, Ty.Ds_all, AStore.D, ATermNode.D, ATypeNode.D, Tm.D, Ty.D, listAll] <;> (repeat' first | rfl | apply And.intro)); done) | (refine wk.pure ?_; (conv => lhs; whnf); (simp [ATermNode.Ds_all, ATypeNode.Ds_all, Tm.Ds_all, Ty.Ds_all, AStore.D, ATermNode.D, ATypeNode.D, Tm.D, Ty.D, listAll] <;> (repeat' first | rfl | apply And.intro)); done) | ((simp [ATermNode.Ds_all, ATypeNode.Ds_all, Tm.Ds_all, Ty.Ds_all, AStore.D, ATermNode.D, ATypeNode.D, Tm.D, Ty.D, listAll] <;> (repeat' first | rfl | apply And.intro)); done)

theorem P_hash_table_size_io_j0 {a1 : Int} {b0_0 : (List ATypeNode)} {b0_1 : (List ATermNode)} {b3 : (List (HashTypeKey × Int))} {b4 : (List (HashTermKey × Int))} {t6_0 : (List Int)} {t7_0 : (List Int)} {r : (Int × Int × (List ATypeNode) × (List ATermNode) × (List (HashTypeKey × Int)) × (List (HashTermKey × Int)))} (e : hash_table_size_io_j0 a1 b0_0 b0_1 b3 b4 t6_0 t7_0 = some r) : JoinAt T Try.prog Try.f59 ⟨[], 5⟩ [10] [1, 1, 1, 1, 0, 0] (ES T Try.f59 5 (.tuple [.d (.int .i64 r.1), .d (.int .i64 r.2.1)]) ([.cells [.own 0 1 3 (ATypeNode.Ds r.2.2.1), .own 0 2 5 (ATermNode.Ds r.2.2.2.1), .map 0 3, .map 0 4], .grow 3 (ATypeNode.Ds r.2.2.1).length, .grow 5 (ATermNode.Ds r.2.2.2.1).length, .map (mapD HashTypeKey.D (D.int .i64) r.2.2.2.2.1), .map (mapD HashTermKey.D (D.int .i64) r.2.2.2.2.2)])) [(1, .d (.int .i64 a1)), (6, .own 0 5 1 (intDs_i64 t6_0)), (7, .own 0 6 1 (intDs_i64 t7_0))] [[.cells [.own 0 1 3 (ATypeNode.Ds b0_0), .own 0 2 5 (ATermNode.Ds b0_1), .map 0 3, .map 0 4], .grow 3 (ATypeNode.Ds b0_0).length, .grow 5 (ATermNode.Ds b0_1).length, .map (mapD HashTypeKey.D (D.int .i64) b3), .map (mapD HashTermKey.D (D.int .i64) b4), .grow 1 (intDs_i64 t6_0).length, .grow 1 (intDs_i64 t7_0).length]] := by
  unfold hash_table_size_io_j0 at e
  refine Runs.enter T_ok ?_; (conv => whnf)
  obtain ⟨v34, qv34, e⟩ := bnd e
  obtain ⟨qv34k, qv34a, qv34b⟩ := geti_some qv34
  refine ⟨qv34k, _, qv34a, (by first | exact intDs_i64_get qv34b | simpa [ATermNode.Ds_all, intDs_i64_all, ATermNode.D, listAll] using intDs_i64_get qv34b), ?_⟩; (conv => whnf)
  refine ⟨intDs_i64_fit _ rfl rfl, ?_⟩; (conv => whnf)
  refine ⟨⟨fun h35 => ?_, fun h35 => ?_⟩⟩
  · replace e := ifp h35 e; (conv => whnf)
    obtain rfl := sm e
    refine ⟨[0, 1, 2, 3, 4], ⟨rfl, rfl⟩, ?_, ⟨⟨_, rfl, ⟨⟨?_, ?_, rfl, rfl, trivial⟩, rfl⟩⟩, ⟨_, rfl, ?_⟩, ⟨_, rfl, ?_⟩, ⟨_, rfl, rfl⟩, ⟨_, rfl, rfl⟩, trivial⟩⟩
    repeat' first | exact rfl | exact trivial | refine ⟨?_, ?_⟩ | (simp [ATermNode.Ds_all, intDs_i64_all, ATermNode.D, listAll] <;> (repeat' first | rfl | apply And.intro); done)
  · replace e := ifn h35 e; (conv => whnf)
    obtain ⟨v36, qv36, e⟩ := bnd e
    obtain ⟨qv36k, qv36a, qv36b⟩ := geti_some qv36
    refine ⟨qv36k, _, qv36a, (by first | exact intDs_i64_get qv36b | simpa [ATermNode.Ds_all, intDs_i64_all, ATermNode.D, listAll] using intDs_i64_get qv36b), ?_⟩; (conv => whnf)
    refine ⟨intDs_i64_fit _ rfl rfl, ?_⟩; (conv => whnf)
    refine ⟨⟨fun h37 => ?_, fun h37 => ?_⟩⟩
    · replace e := ifp h37 e; (conv => whnf)
      obtain rfl := sm e
      refine ⟨[0, 1, 2, 3, 4], ⟨rfl, rfl⟩, ?_, ⟨⟨_, rfl, ⟨⟨?_, ?_, rfl, rfl, trivial⟩, rfl⟩⟩, ⟨_, rfl, ?_⟩, ⟨_, rfl, ?_⟩, ⟨_, rfl, rfl⟩, ⟨_, rfl, rfl⟩, trivial⟩⟩
      repeat' first | exact rfl | exact trivial | refine ⟨?_, ?_⟩ | (simp [ATermNode.Ds_all, intDs_i64_all, ATermNode.D, listAll] <;> (repeat' first | rfl | apply And.intro); done)
    · replace e := ifn h37 e; (conv => whnf)
      obtain ⟨v38, qv38, e⟩ := bnd e
      obtain ⟨qv38k, qv38a, qv38b⟩ := geti_some qv38
      refine ⟨qv38k, _, qv38a, (by first | exact intDs_i64_get qv38b | simpa [ATermNode.Ds_all, intDs_i64_all, ATermNode.D, listAll] using intDs_i64_get qv38b), ?_⟩; (conv => whnf)
      refine ⟨intDs_i64_fit _ rfl rfl, ?_⟩; (conv => whnf)
      obtain rfl := sm e
      refine ⟨[0, 1, 2, 3, 4], ⟨rfl, rfl⟩, ?_, ⟨⟨_, rfl, ⟨⟨?_, ?_, rfl, rfl, trivial⟩, rfl⟩⟩, ⟨_, rfl, ?_⟩, ⟨_, rfl, ?_⟩, ⟨_, rfl, rfl⟩, ⟨_, rfl, rfl⟩, trivial⟩⟩
      repeat' first | exact rfl | exact trivial | refine ⟨?_, ?_⟩ | (simp [ATermNode.Ds_all, intDs_i64_all, ATermNode.D, listAll] <;> (repeat' first | rfl | apply And.intro); done)

def M_hash_table_size_io_l0 (rest0 : (List ATermNode)) (t6_0 : (List Int)) (t7_0 : (List Int)) (a1 : Int) (b0_0 : (List ATypeNode)) (b0_1 : (List ATermNode)) (b3 : (List (HashTypeKey × Int))) (b4 : (List (HashTermKey × Int))) (r : (Int × Int × (List ATypeNode) × (List ATermNode) × (List (HashTypeKey × Int)) × (List (HashTermKey × Int)))) : Prop := ∀ (k0 : Nat) (v4 : (List ATermNode)) (hd0 : rest0 = v4.drop k0), LoopAt T Try.prog Try.f59 ⟨[], 5⟩ [10] [1, 1, 1, 0, 1, 0] (ES T Try.f59 5 (.tuple [.d (.int .i64 r.1), .d (.int .i64 r.2.1)]) ([.cells [.own 0 1 3 (ATypeNode.Ds r.2.2.1), .own 0 2 5 (ATermNode.Ds r.2.2.2.1), .map 0 3, .map 0 4], .grow 3 (ATypeNode.Ds r.2.2.1).length, .grow 5 (ATermNode.Ds r.2.2.2.1).length, .map (mapD HashTypeKey.D (D.int .i64) r.2.2.2.2.1), .map (mapD HashTermKey.D (D.int .i64) r.2.2.2.2.2)])) [(1, .d (.int .i64 a1)), (6, .own 0 5 1 (intDs_i64 t6_0)), (7, .own 0 6 1 (intDs_i64 t7_0)), (31, .d (.slice 5 (ATermNode.Ds v4))), (32, .d (.int .i64 ((ATermNode.Ds v4).length : Int))), (33, .d (.int .i64 (k0 : Int)))] [[.cells [.own 0 1 3 (ATypeNode.Ds b0_0), .own 0 2 5 (ATermNode.Ds b0_1), .map 0 3, .map 0 4], .grow 3 (ATypeNode.Ds b0_0).length, .grow 5 (ATermNode.Ds b0_1).length, .map (mapD HashTypeKey.D (D.int .i64) b3), .map (mapD HashTermKey.D (D.int .i64) b4), .grow 1 (intDs_i64 t6_0).length, .grow 1 (intDs_i64 t7_0).length]]
theorem G_hash_table_size_io_l0 : (∀ p r, hash_table_size_io_l0' p = some r → ∀ rest0 t6_0 t7_0 a1 b0_0 b0_1 b3 b4, (rest0, t6_0, t7_0, a1, b0_0, b0_1, b3, b4) = p → M_hash_table_size_io_l0 rest0 t6_0 t7_0 a1 b0_0 b0_1 b3 b4 r) := by
  refine hash_table_size_io_l0'.partial_correctness (fun (p : ((List ATermNode) × (List Int) × (List Int) × Int × (List ATypeNode) × (List ATermNode) × (List (HashTypeKey × Int)) × (List (HashTermKey × Int)))) (r : (Int × Int × (List ATypeNode) × (List ATermNode) × (List (HashTypeKey × Int)) × (List (HashTermKey × Int)))) => ∀ (rest0 : (List ATermNode)) (t6_0 : (List Int)) (t7_0 : (List Int)) (a1 : Int) (b0_0 : (List ATypeNode)) (b0_1 : (List ATermNode)) (b3 : (List (HashTypeKey × Int))) (b4 : (List (HashTermKey × Int))), (rest0, t6_0, t7_0, a1, b0_0, b0_1, b3, b4) = p → M_hash_table_size_io_l0 rest0 t6_0 t7_0 a1 b0_0 b0_1 b3 b4 r) ?_
  · intro f_hash_table_size_io_l0 ih_hash_table_size_io_l0 p r e rest0 t6_0 t7_0 a1 b0_0 b0_1 b3 b4 hp
    subst hp
    intro k0 v4 hd0
    refine RunsL.len_tmp 31 rfl fun hlenk0 => ?_
    refine RunsL.of_awp (js := [10]) T_ok ?_; (conv => whnf)
    have hls := ATermNode.Ds_len v4
    cases rest0 with
    | nil =>
      have hk := drop_nil hd0
      refine ⟨⟨fun h => absurd h (by omega), fun _ => ?_⟩⟩; (conv => whnf)
      refine Runs.weak (P_hash_table_size_io_j0 e) ?_
      repeat' first | exact wk.of_eq rfl | exact wk.pure rfl | exact wk.un _ | exact wk.hold _ _ _ | exact rfl | exact trivial | refine ⟨?_, ?_⟩ | (refine wk.of_eq ?_; (conv => lhs; whnf); (simp [ATermNode.Ds_all, intDs_i64_all, ATermNode.D, listAll] <;> (repeat' first | rfl | apply And.intro)); done) | (refine wk.pure ?_; (conv => lhs; whnf); (simp [ATermNode.Ds_all, intDs_i64_all, ATermNode.D, listAll] <;> (repeat' first | rfl | apply And.intro)); done) | ((simp [ATermNode.Ds_all, intDs_i64_all, ATermNode.D, listAll] <;> (repeat' first | rfl | apply And.intro)); done)
    | cons v34 rest0 =>
      obtain ⟨hxv34, hd0, hltv34⟩ := drop_head hd0
      refine ⟨⟨fun _ => ?_, fun h => absurd (by omega) h⟩⟩; (conv => whnf)
      refine ⟨k0, _, rfl, ATermNode.Ds_get hxv34, ?_⟩; (conv => whnf)
      refine ⟨ATermNode.Ds_fit _ rfl rfl, ?_⟩; (conv => whnf)
      obtain ⟨v35, qv35, e⟩ := bnd e
      first | (refine said_pure (P_hash_measure qv35) rfl ?_) | (refine said_pure2 (P_hash_measure qv35) rfl (by simp [ATermNode.Ds_all, intDs_i64_all, ATermNode.D, listAll] <;> (repeat' first | rfl | apply And.intro)) ?_)
      (conv => whnf)
      refine ⟨⟨⟨rfl, rfl⟩, trivial⟩, ?_⟩; (conv => whnf)
      obtain ⟨v36, qv36, e⟩ := bnd e
      obtain ⟨qv36l, qv36e⟩ := app_some qv36
      refine ⟨(by first | exact qv36l | simpa [ATermNode.Ds_all, intDs_i64_all, ATermNode.D, listAll] using qv36l), rfl, (by first | rfl | simp [ATermNode.Ds_all, intDs_i64_all, ATermNode.D, listAll]), ?_⟩; (conv => whnf)
      refine ⟨⟨⟨rfl, rfl⟩, trivial⟩, ?_⟩; (conv => whnf)
      obtain ⟨v37, qv37, e⟩ := bnd e
      obtain ⟨qv37l, qv37e⟩ := app_some qv37
      refine ⟨(by first | exact qv37l | simpa [ATermNode.Ds_all, intDs_i64_all, ATermNode.D, listAll] using qv37l), rfl, (by first | rfl | simp [ATermNode.Ds_all, intDs_i64_all, ATermNode.D, listAll]), ?_⟩; (conv => whnf)
      refine ⟨((k0 + 1 : Nat) : Int), wrap64e (by omega) (by omega) (by omega), ?_⟩; (conv => whnf)
      refine (RunsL.weak ((ih_hash_table_size_io_l0 _ _ e _ _ _ _ _ _ _ _ rfl) (k0 + 1) v4 hd0) ?_)
      repeat' first | exact wk.of_eq rfl | exact wk.pure rfl | exact wk.un _ | exact wk.hold _ _ _ | exact rfl | exact trivial | refine ⟨?_, ?_⟩ | (refine wk.of_eq ?_; (conv => lhs; whnf); (simp [ATermNode.Ds_all, intDs_i64_all, ATermNode.D, listAll, qv36e, qv37e] <;> (repeat' first | rfl | apply And.intro)); done) | (refine wk.pure ?_; (conv => lhs; whnf); (simp [ATermNode.Ds_all, intDs_i64_all, ATermNode.D, listAll, qv36e, qv37e] <;> (repeat' first | rfl | apply And.intro)); done) | ((simp [ATermNode.Ds_all, intDs_i64_all, ATermNode.D, listAll, qv36e, qv37e] <;> (repeat' first | rfl | apply And.intro)); done)
theorem P_hash_table_size_io_l0 {rest0 : (List ATermNode)} {t6_0 : (List Int)} {t7_0 : (List Int)} {a1 : Int} {b0_0 : (List ATypeNode)} {b0_1 : (List ATermNode)} {b3 : (List (HashTypeKey × Int))} {b4 : (List (HashTermKey × Int))} {r : (Int × Int × (List ATypeNode) × (List ATermNode) × (List (HashTypeKey × Int)) × (List (HashTermKey × Int)))} (e : hash_table_size_io_l0 rest0 t6_0 t7_0 a1 b0_0 b0_1 b3 b4 = some r) : M_hash_table_size_io_l0 rest0 t6_0 t7_0 a1 b0_0 b0_1 b3 b4 r := G_hash_table_size_io_l0 _ _ e _ _ _ _ _ _ _ _ rfl

theorem P_hash_table_size_io {a1 : Int} {b0_0 : (List ATypeNode)} {b0_1 : (List ATermNode)} {b3 : (List (HashTypeKey × Int))} {b4 : (List (HashTermKey × Int))} {r : (Int × Int × (List ATypeNode) × (List ATermNode) × (List (HashTypeKey × Int)) × (List (HashTermKey × Int)))} (e : hash_table_size_io a1 b0_0 b0_1 b3 b4 = some r) : IoR Try.prog 59 [.ptr 0 0 0, .d (.int .i64 a1)] [.cells [.own 0 1 3 (ATypeNode.Ds b0_0), .own 0 2 5 (ATermNode.Ds b0_1), .map 0 3, .map 0 4], .grow 3 (ATypeNode.Ds b0_0).length, .grow 5 (ATermNode.Ds b0_1).length, .map (mapD HashTypeKey.D (D.int .i64) b3), .map (mapD HashTermKey.D (D.int .i64) b4)] (.tuple [.d (.int .i64 r.1), .d (.int .i64 r.2.1)]) ([.cells [.own 0 1 3 (ATypeNode.Ds r.2.2.1), .own 0 2 5 (ATermNode.Ds r.2.2.2.1), .map 0 3, .map 0 4], .grow 3 (ATypeNode.Ds r.2.2.1).length, .grow 5 (ATermNode.Ds r.2.2.2.1).length, .map (mapD HashTypeKey.D (D.int .i64) r.2.2.2.2.1), .map (mapD HashTermKey.D (D.int .i64) r.2.2.2.2.2)]) := by
  unfold hash_table_size_io at e
  refine io_of_awp2 (js := [10]) T_ok Try.func59 rfl (by decide +kernel) rfl ?_; (conv => whnf)
  refine ⟨⟨fun h1 => ?_, fun h1 => ?_⟩⟩
  · replace e := ifp h1 e; (conv => whnf)
    obtain rfl := sm e
    refine ⟨[0, 1, 2, 3, 4], ⟨rfl, rfl⟩, ?_, ⟨⟨_, rfl, ⟨⟨?_, ?_, rfl, rfl, trivial⟩, rfl⟩⟩, ⟨_, rfl, ?_⟩, ⟨_, rfl, ?_⟩, ⟨_, rfl, rfl⟩, ⟨_, rfl, rfl⟩, trivial⟩⟩
    repeat' first | exact rfl | exact trivial | refine ⟨?_, ?_⟩ | (simp [ATermNode.Ds_all, intDs_i64_all, ATermNode.D, listAll] <;> (repeat' first | rfl | apply And.intro); done)
  · replace e := ifn h1 e; (conv => whnf)
    refine ⟨⟨fun h2 => ?_, fun h2 => ?_⟩⟩
    · replace e := ifp (by first | exact h2 | simpa [ATermNode.Ds_all, intDs_i64_all, ATermNode.D, listAll] using h2) e; (conv => whnf)
      obtain rfl := sm e
      refine ⟨[0, 1, 2, 3, 4], ⟨rfl, rfl⟩, ?_, ⟨⟨_, rfl, ⟨⟨?_, ?_, rfl, rfl, trivial⟩, rfl⟩⟩, ⟨_, rfl, ?_⟩, ⟨_, rfl, ?_⟩, ⟨_, rfl, rfl⟩, ⟨_, rfl, rfl⟩, trivial⟩⟩
      repeat' first | exact rfl | exact trivial | refine ⟨?_, ?_⟩ | (simp [ATermNode.Ds_all, intDs_i64_all, ATermNode.D, listAll] <;> (repeat' first | rfl | apply And.intro); done)
    · replace e := ifn (by first | exact h2 | simpa [ATermNode.Ds_all, intDs_i64_all, ATermNode.D, listAll] using h2) e; (conv => whnf)
      obtain ⟨v3, qv3, e⟩ := bnd e
      refine ⟨v3, sm qv3, ?_⟩; (conv => whnf)
      obtain ⟨v4, qv4, e⟩ := bnd e
      obtain ⟨qv4l, qv4h, qv4a, qv4b, qv4c, qv4d, qv4e⟩ := cut_some qv4
      refine ⟨qv4l, qv4h, (by show _ = _; omega), (by first | exact congrArg (fun z => AV.d (D.int .i64 z)) qv4b | exact congrArg (fun z => AV.d (D.int .i64 z)) (by simpa [ATermNode.Ds_all, intDs_i64_all, ATermNode.D, listAll] using qv4b)), qv4c, (by first | exact qv4d | simpa [ATermNode.Ds_all, intDs_i64_all, ATermNode.D, listAll] using qv4d), ?_⟩; (first | rw [ATermNode.Ds_cut, ← qv4e] | simp only [ATermNode.Ds_all, intDs_i64_all, ATermNode.D, listAll, ← qv4e]); (conv => whnf)
      refine Runs.hold 1 ?_
      refine Runs.hold 1 ?_
      refine RunsL.runs (RunsL.weak ((P_hash_table_size_io_l0 e) 0 v4 (by simp)) ?_)
      repeat' first | exact wk.of_eq rfl | exact wk.pure rfl | exact wk.un _ | exact wk.hold _ _ _ | exact rfl | exact trivial | refine ⟨?_, ?_⟩ | (refine wk.of_eq ?_; (conv => lhs; whnf); (simp [ATermNode.Ds_all, intDs_i64_all, ATermNode.D, listAll] <;> (repeat' first | rfl | apply And.intro)); done) | (refine wk.pure ?_; (conv => lhs; whnf); (simp [ATermNode.Ds_all, intDs_i64_all, ATermNode.D, listAll] <;> (repeat' first | rfl | apply And.intro)); done) | ((simp [ATermNode.Ds_all, intDs_i64_all, ATermNode.D, listAll] <;> (repeat' first | rfl | apply And.intro)); done)

theorem P_hash_Size_j0 {r : (Int × Int)} (e : hash_Size_j0 = some r) : ∀ (a1 : Int), JoinAt T Try.prog Try.f27 Fx0 [2] [1, 1, 0, 0] (EP T Try.f27 (.tuple [(.int .i64 r.1), (.int .i64 r.2)])) [(1, .d (.int .i64 a1)), (6, .d .nilptr), (7, .d (.int .i64 4))] [[]] := by
  unfold hash_Size_j0 at e
  intro a1
  refine Runs.enter T_ok ?_; (conv => whnf)
  refine ⟨⟨fun _ => ?_, fun h => absurd (by decide) h⟩⟩; (conv => whnf)
  obtain rfl := sm e
  repeat' first | exact rfl | exact trivial | refine ⟨?_, ?_⟩

theorem P_hash_Size_j0b {r : (Int × Int)} (e : hash_Size_j0b = some r) : ∀ (a1 : Int), JoinAt T Try.prog Try.f27 Fx0 [2] [1, 1, 0, 0] (EP T Try.f27 (.tuple [(.int .i64 r.1), (.int .i64 r.2)])) [(1, .d (.int .i64 a1)), (6, .d .nilptr), (7, .d (.int .i64 8))] [[]] := by
  unfold hash_Size_j0b at e
  intro a1
  refine Runs.enter T_ok ?_; (conv => whnf)
  refine ⟨⟨fun _ => ?_, fun h => absurd (by decide) h⟩⟩; (conv => whnf)
  obtain rfl := sm e
  repeat' first | exact rfl | exact trivial | refine ⟨?_, ?_⟩

theorem P_hash_Size_j0c {a1 : Int} {v4 : ((List ATypeNode) × (List ATermNode) × (List (HashTypeKey × Int)) × (List (HashTermKey × Int)))} {r : (Int × Int)} (e : hash_Size_j0c a1 v4 = some r) : ∀ (a0 : AStore), JoinAt T Try.prog Try.f27 Fx0 [2] [1, 1, 0, 0] (EP T Try.f27 (.tuple [(.int .i64 r.1), (.int .i64 r.2)])) [(1, .d (.int .i64 a1)), (6, .ptr 0 1 0), (7, .d (.int .i64 0))] [[.cells [.d (.slice 3 (ATypeNode.Ds a0.types)), .d (.slice 5 (ATermNode.Ds a0.terms))], .cells [.own 0 2 3 (ATypeNode.Ds v4.1), .own 0 3 5 (ATermNode.Ds v4.2.1), .map 0 4, .map 0 5], .grow 3 (ATypeNode.Ds v4.1).length, .grow 5 (ATermNode.Ds v4.2.1).length, .map (mapD HashTypeKey.D (D.int .i64) v4.2.2.1), .map (mapD HashTermKey.D (D.int .i64) v4.2.2.2)]] := by
  unfold hash_Size_j0c at e
  intro a0
  refine Runs.enter T_ok ?_; (conv => whnf)
  refine ⟨⟨fun h => absurd h (by decide), fun _ => ?_⟩⟩; (conv => whnf)
  obtain ⟨v5, qv5, e⟩ := bnd e
  first | (refine said_iorF (P_hash_table_size_io qv5) [1, 2, 3, 4, 5] [.ptr 0 1 0, .d (.int .i64 a1)] rfl ⟨wk.refl _, wk.pure rfl, trivial⟩ rfl rfl ?_) | (refine said_iorF2 (P_hash_table_size_io qv5) [1, 2, 3, 4, 5] [.ptr 0 1 0, .d (.int .i64 a1)] rfl ⟨wk.refl _, wk.pure rfl, trivial⟩ rfl rfl (by simp [ATermNode.Ds_all, ATypeNode.Ds_all, AStore.D, ATermNode.D, ATypeNode.D, listAll] <;> (repeat' first | rfl | apply And.intro)) ?_)
  (conv => whnf)
  obtain rfl := sm e
  repeat' first | exact rfl | exact trivial | refine ⟨?_, ?_⟩

theorem P_hash_Size {a0 : AStore} {a1 : Int} {r : (Int × Int)} (e : hash_Size a0 a1 = some r) : Pure Try.prog 27 [(AStore.D a0), (.int .i64 a1)] (.tuple [(.int .i64 r.1), (.int .i64 r.2)]) := by
  unfold hash_Size at e
  refine pure_of_awp (js := [2]) T_ok Try.func27 rfl (by decide +kernel) rfl ?_; (conv => whnf)
  obtain ⟨v1, qv1, e⟩ := bnd e
  rcases v1 with v2 | v3 | v4
  · refine said_iorF (P_hash_open_io qv1) [] [.d (AStore.D a0)] rfl ⟨wk.pure rfl, trivial⟩ rfl rfl ?_; (conv => whnf)
    refine Runs.weak ((P_hash_Size_j0 e) a1) ?_
    repeat' first | exact wk.of_eq rfl | exact wk.pure rfl | exact wk.un _ | exact wk.hold _ _ _ | exact rfl | exact trivial | refine ⟨?_, ?_⟩
  · refine said_iorF (P_hash_open_io qv1) [] [.d (AStore.D a0)] rfl ⟨wk.pure rfl, trivial⟩ rfl rfl ?_; (conv => whnf)
    refine Runs.weak ((P_hash_Size_j0b e) a1) ?_
    repeat' first | exact wk.of_eq rfl | exact wk.pure rfl | exact wk.un _ | exact wk.hold _ _ _ | exact rfl | exact trivial | refine ⟨?_, ?_⟩
  · refine said_iorF (P_hash_open_io qv1) [] [.d (AStore.D a0)] rfl ⟨wk.pure rfl, trivial⟩ rfl rfl ?_; (conv => whnf)
    refine Runs.weak ((P_hash_Size_j0c e) a0) ?_
    repeat' first | exact wk.of_eq rfl | exact wk.pure rfl | exact wk.un _ | exact wk.hold _ _ _ | exact rfl | exact trivial | refine ⟨?_, ?_⟩ | (refine wk.of_eq ?_; (conv => lhs; whnf); (simp [ATermNode.Ds_all, ATypeNode.Ds_all, AStore.D, ATermNode.D, ATypeNode.D, listAll] <;> (repeat' first | rfl | apply And.intro)); done) | (refine wk.pure ?_; (conv => lhs; whnf); (simp [ATermNode.Ds_all, ATypeNode.Ds_all, AStore.D, ATermNode.D, ATypeNode.D, listAll] <;> (repeat' first | rfl | apply And.intro)); done) | ((simp [ATermNode.Ds_all, ATypeNode.Ds_all, AStore.D, ATermNode.D, ATypeNode.D, listAll] <;> (repeat' first | rfl | apply And.intro)); done)

theorem P_hash_Shared_j0 {r : (Int × Int)} (e : hash_Shared_j0 = some r) : ∀ (a1 : Int), JoinAt T Try.prog Try.f29 Fx0 [2] [1, 1, 0, 0] (EP T Try.f29 (.tuple [(.int .i64 r.1), (.int .i64 r.2)])) [(1, .d (.int .i64 a1)), (6, .d .nilptr), (7, .d (.int .i64 4))] [[]] := by
  unfold hash_Shared_j0 at e
  intro a1
  refine Runs.enter T_ok ?_; (conv => whnf)
  refine ⟨⟨fun _ => ?_, fun h => absurd (by decide) h⟩⟩; (conv => whnf)
  obtain rfl := sm e
  repeat' first | exact rfl | exact trivial | refine ⟨?_, ?_⟩

theorem P_hash_Shared_j0b {r : (Int × Int)} (e : hash_Shared_j0b = some r) : ∀ (a1 : Int), JoinAt T Try.prog Try.f29 Fx0 [2] [1, 1, 0, 0] (EP T Try.f29 (.tuple [(.int .i64 r.1), (.int .i64 r.2)])) [(1, .d (.int .i64 a1)), (6, .d .nilptr), (7, .d (.int .i64 8))] [[]] := by
  unfold hash_Shared_j0b at e
  intro a1
  refine Runs.enter T_ok ?_; (conv => whnf)
  refine ⟨⟨fun _ => ?_, fun h => absurd (by decide) h⟩⟩; (conv => whnf)
  obtain rfl := sm e
  repeat' first | exact rfl | exact trivial | refine ⟨?_, ?_⟩

def M_hash_Shared_l0 (t9_1 : Int) (t10_1 : Int) (a6_1 : (List Bool)) (v4 : ((List ATypeNode) × (List ATermNode) × (List (HashTypeKey × Int)) × (List (HashTermKey × Int)))) (r : (Int × Int)) : Prop := ∀ (a0 : AStore) (nv8 : Nat) (hla6_1 : a6_1.length = nv8), LoopAt T Try.prog Try.f29 Fx0 [2] [1, 1, 1, 1, 1, 1, 1, 0, 1, 0] (EP T Try.f29 (.tuple [(.int .i64 r.1), (.int .i64 r.2)])) [(6, .ptr 0 1 0), (8, .arr 0 6 0 nv8 1), (9, .d (.int .i64 t9_1)), (10, .d (.int .i64 t10_1))] [[.cells [.d (.slice 3 (ATypeNode.Ds a0.types)), .d (.slice 5 (ATermNode.Ds a0.terms))], .cells [.own 0 2 3 (ATypeNode.Ds v4.1), .own 0 3 5 (ATermNode.Ds v4.2.1), .map 0 4, .map 0 5], .grow 3 (ATypeNode.Ds v4.1).length, .grow 5 (ATermNode.Ds v4.2.1).length, .map (mapD HashTypeKey.D (D.int .i64) v4.2.2.1), .map (mapD HashTermKey.D (D.int .i64) v4.2.2.2), .arr 1 (boolDs a6_1)]]
def M_hash_Shared_l1 (rest2 : (List Int)) (a6_2 : (List Bool)) (t10_1 : Int) (v4 : ((List ATypeNode) × (List ATermNode) × (List (HashTypeKey × Int)) × (List (HashTermKey × Int)))) (v17 : Int) (r : (Int × Int)) : Prop := ∀ (a0 : AStore) (k2 : Nat) (nv8 : Nat) (v18 : ATermNode) (hla6_2 : a6_2.length = nv8) (hd2 : rest2 = v18.sub.drop k2), LoopAt T Try.prog Try.f29 Fx0 [2] [1, 1, 1, 1, 1, 1, 1, 0, 1, 0, 0, 1, 0, 0, 1, 1, 1, 0] (EP T Try.f29 (.tuple [(.int .i64 r.1), (.int .i64 r.2)])) [(6, .ptr 0 1 0), (8, .arr 0 6 0 nv8 1), (9, .d (.int .i64 v17)), (10, .d (.int .i64 t10_1)), (59, .d (.slice 1 (intDs_i64 v18.sub))), (60, .d (.int .i64 ((intDs_i64 v18.sub).length : Int))), (61, .d (.int .i64 (k2 : Int)))] [[.cells [.d (.slice 3 (ATypeNode.Ds a0.types)), .d (.slice 5 (ATermNode.Ds a0.terms))], .cells [.own 0 2 3 (ATypeNode.Ds v4.1), .own 0 3 5 (ATermNode.Ds v4.2.1), .map 0 4, .map 0 5], .grow 3 (ATypeNode.Ds v4.1).length, .grow 5 (ATermNode.Ds v4.2.1).length, .map (mapD HashTypeKey.D (D.int .i64) v4.2.2.1), .map (mapD HashTermKey.D (D.int .i64) v4.2.2.2), .arr 1 (boolDs a6_2)]]
theorem G_hash_Shared_l0 : (∀ p r, hash_Shared_l0' p = some r → ∀ t9_1 t10_1 a6_1 v4, (t9_1, t10_1, a6_1, v4) = p → M_hash_Shared_l0 t9_1 t10_1 a6_1 v4 r) ∧
    (∀ p r, hash_Shared_l1' p = some r → ∀ rest2 a6_2 t10_1 v4 v17, (rest2, a6_2, t10_1, v4, v17) = p → M_hash_Shared_l1 rest2 a6_2 t10_1 v4 v17 r) := by
  refine hash_Shared_l0'.mutual_partial_correctness (fun (p : (Int × Int × (List Bool) × ((List ATypeNode) × (List ATermNode) × (List (HashTypeKey × Int)) × (List (HashTermKey × Int))))) (r : (Int × Int)) => ∀ (t9_1 : Int) (t10_1 : Int) (a6_1 : (List Bool)) (v4 : ((List ATypeNode) × (List ATermNode) × (List (HashTypeKey × Int)) × (List (HashTermKey × Int)))), (t9_1, t10_1, a6_1, v4) = p → M_hash_Shared_l0 t9_1 t10_1 a6_1 v4 r) (fun (p : ((List Int) × (List Bool) × Int × ((List ATypeNode) × (List ATermNode) × (List (HashTypeKey × Int)) × (List (HashTermKey × Int))) × Int)) (r : (Int × Int)) => ∀ (rest2 : (List Int)) (a6_2 : (List Bool)) (t10_1 : Int) (v4 : ((List ATypeNode) × (List ATermNode) × (List (HashTypeKey × Int)) × (List (HashTermKey × Int)))) (v17 : Int), (rest2, a6_2, t10_1, v4, v17) = p → M_hash_Shared_l1 rest2 a6_2 t10_1 v4 v17 r) ?_ ?_
  · intro f_hash_Shared_l0 f_hash_Shared_l1 ih_hash_Shared_l0 ih_hash_Shared_l1 p r e t9_1 t10_1 a6_1 v4 hp
    subst hp
    intro a0 nv8 hla6_1
    refine RunsL.of_awp (js := [2]) T_ok ?_; (conv => whnf)
    refine ⟨⟨fun h12 => ?_, fun h12 => ?_⟩⟩
    · replace e := ifp h12 e; (conv => whnf)
      obtain ⟨g14, qg14, e⟩ := bnd e
      obtain ⟨k13, k13a⟩ : ∃ k13 : Nat, t10_1 = k13 := ⟨(t10_1).toNat, by have := wantb_some qg14; omega⟩
      refine ⟨k13, k13a, by have := wantb_some qg14; omega, ?_⟩; simp only [Nat.zero_add]; (conv => whnf)
      obtain ⟨v15, qv15, e⟩ := bnd e
      obtain ⟨qv15k, qv15a, qv15b⟩ := geti_some qv15
      obtain rfl : k13 = qv15k := by omega
      refine ⟨_, (by first | exact boolDs_get qv15b | simpa [ATermNode.Ds_all, ATypeNode.Ds_all, boolDs_all, intDs_i64_all, AStore.D, ATermNode.D, ATypeNode.D, listAll] using boolDs_get qv15b), boolDs_fit _ rfl rfl, ?_⟩; (conv => whnf)
      refine brK.nsplit (fun hb16 => ?_) (fun hb16 => ?_)
      · replace e := ifpb hb16 e; (conv => whnf)
        obtain ⟨v17, qv17, e⟩ := bnd e
        refine ⟨v17, sm qv17, ?_⟩; (conv => whnf)
        obtain ⟨v18, qv18, e⟩ := bnd e
        obtain ⟨qv18k, qv18a, qv18b⟩ := geti_some qv18
        refine ⟨qv18k, _, qv18a, (by first | exact ATermNode.Ds_get qv18b | simpa [ATermNode.Ds_all, ATypeNode.Ds_all, boolDs_all, intDs_i64_all, AStore.D, ATermNode.D, ATypeNode.D, listAll] using ATermNode.Ds_get qv18b), ?_⟩; (conv => whnf)
        refine RunsL.runs (RunsL.weak ((ih_hash_Shared_l1 _ _ e _ _ _ _ _ rfl) a0 0 nv8 v18 hla6_1 (by simp)) ?_)
        repeat' first | exact wk.of_eq rfl | exact wk.pure rfl | exact wk.un _ | exact wk.hold _ _ _ | exact rfl | exact trivial | refine ⟨?_, ?_⟩ | (refine wk.of_eq ?_; (conv => lhs; whnf); (simp [ATermNode.Ds_all, ATypeNode.Ds_all, boolDs_all, intDs_i64_all, AStore.D, ATermNode.D, ATypeNode.D, listAll, hla6_1] <;> (repeat' first | rfl | apply And.intro)); done) | (refine wk.pure ?_; (conv => lhs; whnf); (simp [ATermNode.Ds_all, ATypeNode.Ds_all, boolDs_all, intDs_i64_all, AStore.D, ATermNode.D, ATypeNode.D, listAll, hla6_1] <;> (repeat' first | rfl | apply And.intro)); done) | ((simp [ATermNode.Ds_all, ATypeNode.Ds_all, boolDs_all, intDs_i64_all, AStore.D, ATermNode.D, ATypeNode.D, listAll, hla6_1] <;> (repeat' first | rfl | apply And.intro)); done)
      · replace e := ifnb hb16 e; (conv => whnf)
        obtain ⟨v17, qv17, e⟩ := bnd e
        refine ⟨v17, sm qv17, ?_⟩; (conv => whnf)
        refine (RunsL.weak ((ih_hash_Shared_l0 _ _ e _ _ _ _ rfl) a0 nv8 hla6_1) ?_)
        repeat' first | exact wk.of_eq rfl | exact wk.pure rfl | exact wk.un _ | exact wk.hold _ _ _ | exact rfl | exact trivial | refine ⟨?_, ?_⟩ | (refine wk.of_eq ?_; (conv => lhs; whnf); (simp [ATermNode.Ds_all, ATypeNode.Ds_all, boolDs_all, intDs_i64_all, AStore.D, ATermNode.D, ATypeNode.D, listAll, hla6_1] <;> (repeat' first | rfl | apply And.intro)); done) | (refine wk.pure ?_; (conv => lhs; whnf); (simp [ATermNode.Ds_all, ATypeNode.Ds_all, boolDs_all, intDs_i64_all, AStore.D, ATermNode.D, ATypeNode.D, listAll, hla6_1] <;> (repeat' first | rfl | apply And.intro)); done) | ((simp [ATermNode.Ds_all, ATypeNode.Ds_all, boolDs_all, intDs_i64_all, AStore.D, ATermNode.D, ATypeNode.D, listAll, hla6_1] <;> (repeat' first | rfl | apply And.intro)); done)
    · replace e := ifn h12 e; (conv => whnf)
      obtain rfl := sm e
      repeat' first | exact rfl | exact trivial | refine ⟨?_, ?_⟩
  · intro f_hash_Shared_l0 f_hash_Shared_l1 ih_hash_Shared_l0 ih_hash_Shared_l1 p r e rest2 a6_2 t10_1 v4 v17 hp
    subst hp
    intro a0 k2 nv8 v18 hla6_2 hd2
    refine RunsL.len_tmp 59 rfl fun hlenk2 => ?_
    refine RunsL.of_awp (js := [2]) T_ok ?_; (conv => whnf)
    have hls := intDs_i64_len v18.sub
    cases rest2 with
    | nil =>
      have hk := drop_nil hd2
      refine ⟨⟨fun h => absurd h (by omega), fun _ => ?_⟩⟩; (conv => whnf)
      obtain ⟨v63, qv63, e⟩ := bnd e
      refine ⟨v63, sm qv63, ?_⟩; (conv => whnf)
      refine (RunsL.weak ((ih_hash_Shared_l0 _ _ e _ _ _ _ rfl) a0 nv8 hla6_2) ?_)
      repeat' first | exact wk.of_eq rfl | exact wk.pure rfl | exact wk.un _ | exact wk.hold _ _ _ | exact rfl | exact trivial | refine ⟨?_, ?_⟩ | (refine wk.of_eq ?_; (conv => lhs; whnf); (simp [ATermNode.Ds_all, ATypeNode.Ds_all, boolDs_all, intDs_i64_all, AStore.D, ATermNode.D, ATypeNode.D, listAll, hla6_2] <;> (repeat' first | rfl | apply And.intro)); done) | (refine wk.pure ?_; (conv => lhs; whnf); (simp [ATermNode.Ds_all, ATypeNode.Ds_all, boolDs_all, intDs_i64_all, AStore.D, ATermNode.D, ATypeNode.D, listAll, hla6_2] <;> (repeat' first | rfl | apply And.intro)); done) | ((simp [ATermNode.Ds_all, ATypeNode.Ds_all, boolDs_all, intDs_i64_all, AStore.D, ATermNode.D, ATypeNode.D, listAll, hla6_2] <;> (repeat' first | rfl | apply And.intro)); done)
    | cons v62 rest2 =>
      obtain ⟨hxv62, hd2, hltv62⟩ := drop_head hd2
      refine ⟨⟨fun _ => ?_, fun h => absurd (by omega) h⟩⟩; (conv => whnf)
      refine ⟨k2, _, rfl, intDs_i64_get hxv62, ?_⟩; (conv => whnf)
      refine ⟨intDs_i64_fit _ rfl rfl, ?_⟩; (conv => whnf)
      obtain ⟨g64, qg64, e⟩ := bnd e
      obtain ⟨k63, k63a⟩ : ∃ k63 : Nat, v62 = k63 := ⟨(v62).toNat, by have := wantb_some qg64; omega⟩
      refine ⟨k63, k63a, by have := wantb_some qg64; omega, ?_⟩; simp only [Nat.zero_add]; (conv => whnf)
      obtain ⟨v65, qv65, e⟩ := bnd e
      obtain ⟨qv65k, qv65a, qv65b, qv65c⟩ := seti_some qv65
      obtain rfl : k63 = qv65k := by omega
      have hlv65 : v65.length = nv8 := by rw [qv65c]; simp [hla6_2]
      refine ⟨(by first | exact qv65b | simpa [ATermNode.Ds_all, ATypeNode.Ds_all, boolDs_all, intDs_i64_all, AStore.D, ATermNode.D, ATypeNode.D, listAll, hla6_2] using qv65b), boolDs_fit _ rfl rfl, rfl, ?_⟩
      (conv => whnf)
      refine ⟨((k2 + 1 : Nat) : Int), wrap64e (by omega) (by omega) (by omega), ?_⟩; (conv => whnf)
      refine (RunsL.weak ((ih_hash_Shared_l1 _ _ e _ _ _ _ _ rfl) a0 (k2 + 1) nv8 v18 hlv65 hd2) ?_)
      repeat' first | exact wk.of_eq rfl | exact wk.pure rfl | exact wk.un _ | exact wk.hold _ _ _ | exact rfl | exact trivial | refine ⟨?_, ?_⟩ | (refine wk.of_eq ?_; (conv => lhs; whnf); (simp [ATermNode.Ds_all, ATypeNode.Ds_all, boolDs_all, intDs_i64_all, AStore.D, ATermNode.D, ATypeNode.D, listAll, qv65c, hlv65] <;> (repeat' first | rfl | apply And.intro)); done) | (refine wk.pure ?_; (conv => lhs; whnf); (simp [ATermNode.Ds_all, ATypeNode.Ds_all, boolDs_all, intDs_i64_all, AStore.D, ATermNode.D, ATypeNode.D, listAll, qv65c, hlv65] <;> (repeat' first | rfl | apply And.intro)); done) | ((simp [ATermNode.Ds_all, ATypeNode.Ds_all, boolDs_all, intDs_i64_all, AStore.D, ATermNode.D, ATypeNode.D, listAll, qv65c, hlv65] <;> (repeat' first | rfl | apply And.intro)); done)
theorem P_hash_Shared_l0 {t9_1 : Int} {t10_1 : Int} {a6_1 : (List Bool)} {v4 : ((List ATypeNode) × (List ATermNode) × (List (HashTypeKey × Int)) × (List (HashTermKey × Int)))} {r : (Int × Int)} (e : hash_Shared_l0 t9_1 t10_1 a6_1 v4 = some r) : M_hash_Shared_l0 t9_1 t10_1 a6_1 v4 r := G_hash_Shared_l0.1 _ _ e _ _ _ _ rfl
theorem P_hash_Shared_l1 {rest2 : (List Int)} {a6_2 : (List Bool)} {t10_1 : Int} {v4 : ((List ATypeNode) × (List ATermNode) × (List (HashTypeKey × Int)) × (List (HashTermKey × Int)))} {v17 : Int} {r : (Int × Int)} (e : hash_Shared_l1 rest2 a6_2 t10_1 v4 v17 = some r) : M_hash_Shared_l1 rest2 a6_2 t10_1 v4 v17 r := G_hash_Shared_l0.2 _ _ e _ _ _ _ _ rfl

theorem P_hash_Shared_j0c {a1 : Int} {v4 : ((List ATypeNode) × (List ATermNode) × (List (HashTypeKey × Int)) × (List (HashTermKey × Int)))} {r : (Int × Int)} (e : hash_Shared_j0c a1 v4 = some r) : ∀ (a0 : AStore), JoinAt T Try.prog Try.f29 Fx0 [2] [1, 1, 0, 0] (EP T Try.f29 (.tuple [(.int .i64 r.1), (.int .i64 r.2)])) [(1, .d (.int .i64 a1)), (6, .ptr 0 1 0), (7, .d (.int .i64 0))] [[.cells [.d (.slice 3 (ATypeNode.Ds a0.types)), .d (.slice 5 (ATermNode.Ds a0.terms))], .cells [.own 0 2 3 (ATypeNode.Ds v4.1), .own 0 3 5 (ATermNode.Ds v4.2.1), .map 0 4, .map 0 5], .grow 3 (ATypeNode.Ds v4.1).length, .grow 5 (ATermNode.Ds v4.2.1).length, .map (mapD HashTypeKey.D (D.int .i64) v4.2.2.1), .map (mapD HashTermKey.D (D.int .i64) v4.2.2.2)]] := by
  unfold hash_Shared_j0c at e
  intro a0
  refine Runs.enter T_ok ?_; (conv => whnf)
  refine ⟨⟨fun h => absurd h (by decide), fun _ => ?_⟩⟩; (conv => whnf)
  refine ⟨⟨fun h5 => ?_, fun h5 => ?_⟩⟩
  · replace e := ifp h5 e; (conv => whnf)
    obtain rfl := sm e
    repeat' first | exact rfl | exact trivial | refine ⟨?_, ?_⟩
  · replace e := ifn h5 e; (conv => whnf)
    refine ⟨⟨fun h6 => ?_, fun h6 => ?_⟩⟩
    · replace e := ifp (by first | exact h6 | simpa [ATermNode.Ds_all, ATypeNode.Ds_all, boolDs_all, intDs_i64_all, AStore.D, ATermNode.D, ATypeNode.D, listAll] using h6) e; (conv => whnf)
      obtain rfl := sm e
      repeat' first | exact rfl | exact trivial | refine ⟨?_, ?_⟩
    · replace e := ifn (by first | exact h6 | simpa [ATermNode.Ds_all, ATypeNode.Ds_all, boolDs_all, intDs_i64_all, AStore.D, ATermNode.D, ATypeNode.D, listAll] using h6) e; (conv => whnf)
      obtain ⟨v7, qv7, e⟩ := bnd e
      refine ⟨v7, sm qv7, ?_⟩; (conv => whnf)
      obtain ⟨v8, qv8, e⟩ := bnd e
      obtain ⟨nv8, qv8a, qv8b, qv8c⟩ := mkn_some qv8
      have hlv8 : v8.length = nv8 := by rw [qv8c]; simp
      refine ⟨nv8, nv8, congrArg (fun z => AV.d (D.int .i64 z)) qv8a, congrArg (fun z => AV.d (D.int .i64 z)) qv8a, Nat.le_refl _, qv8b, .inr (.inl ⟨rfl, ?_⟩)⟩; (conv => whnf)
      obtain ⟨g10, qg10, e⟩ := bnd e
      obtain ⟨k9, k9a⟩ : ∃ k9 : Nat, a1 = k9 := ⟨(a1).toNat, by have := wantb_some qg10; omega⟩
      refine ⟨k9, k9a, by have := wantb_some qg10; omega, ?_⟩; simp only [Nat.zero_add]; (conv => whnf)
      obtain ⟨v11, qv11, e⟩ := bnd e
      obtain ⟨qv11k, qv11a, qv11b, qv11c⟩ := seti_some qv11
      obtain rfl : k9 = qv11k := by omega
      have hlv11 : v11.length = nv8 := by rw [qv11c]; simp [hlv8]
      refine ⟨(by first | exact qv11b | simpa [ATermNode.Ds_all, ATypeNode.Ds_all, boolDs_all, intDs_i64_all, AStore.D, ATermNode.D, ATypeNode.D, listAll, hlv8] using qv11b), boolDs_fit _ rfl rfl, rfl, ?_⟩
      (conv => whnf)
      refine RunsL.runs (RunsL.weak ((P_hash_Shared_l0 e) a0 nv8 hlv11) ?_)
      repeat' first | exact wk.of_eq rfl | exact wk.pure rfl | exact wk.un _ | exact wk.hold _ _ _ | exact rfl | exact trivial | refine ⟨?_, ?_⟩ | (refine wk.of_eq ?_; (conv => lhs; whnf); (simp [ATermNode.Ds_all, ATypeNode.Ds_all, boolDs_all, intDs_i64_all, AStore.D, ATermNode.D, ATypeNode.D, listAll, qv8c, qv11c, hlv11] <;> (repeat' first | rfl | apply And.intro)); done) | (refine wk.pure ?_; (conv => lhs; whnf); (simp [ATermNode.Ds_all, ATypeNode.Ds_all, boolDs_all, intDs_i64_all, AStore.D, ATermNode.D, ATypeNode.D, listAll, qv8c, qv11c, hlv11] <;> (repeat' first | rfl | apply And.intro)); done) | ((simp [ATermNode.Ds_all, ATypeNode.Ds_all, boolDs_all, intDs_i64_all, AStore.D, ATermNode.D, ATypeNode.D, listAll, qv8c, qv11c, hlv11] <;> (repeat' first | rfl | apply And.intro)); done)

theorem P_hash_Shared {a0 : AStore} {a1 : Int} {r : (Int × Int)} (e : hash_Shared a0 a1 = some r) : Pure Try.prog 29 [(AStore.D a0), (.int .i64 a1)] (.tuple [(.int .i64 r.1), (.int .i64 r.2)]) := by
  unfold hash_Shared at e
  refine pure_of_awp (js := [2]) T_ok Try.func29 rfl (by decide +kernel) rfl ?_; (conv => whnf)
  obtain ⟨v1, qv1, e⟩ := bnd e
  rcases v1 with v2 | v3 | v4
  · refine said_iorF (P_hash_open_io qv1) [] [.d (AStore.D a0)] rfl ⟨wk.pure rfl, trivial⟩ rfl rfl ?_; (conv => whnf)
    refine Runs.weak ((P_hash_Shared_j0 e) a1) ?_
    repeat' first | exact wk.of_eq rfl | exact wk.pure rfl | exact wk.un _ | exact wk.hold _ _ _ | exact rfl | exact trivial | refine ⟨?_, ?_⟩
  · refine said_iorF (P_hash_open_io qv1) [] [.d (AStore.D a0)] rfl ⟨wk.pure rfl, trivial⟩ rfl rfl ?_; (conv => whnf)
    refine Runs.weak ((P_hash_Shared_j0b e) a1) ?_
    repeat' first | exact wk.of_eq rfl | exact wk.pure rfl | exact wk.un _ | exact wk.hold _ _ _ | exact rfl | exact trivial | refine ⟨?_, ?_⟩
  · refine said_iorF (P_hash_open_io qv1) [] [.d (AStore.D a0)] rfl ⟨wk.pure rfl, trivial⟩ rfl rfl ?_; (conv => whnf)
    refine Runs.weak ((P_hash_Shared_j0c e) a0) ?_
    repeat' first | exact wk.of_eq rfl | exact wk.pure rfl | exact wk.un _ | exact wk.hold _ _ _ | exact rfl | exact trivial | refine ⟨?_, ?_⟩ | (refine wk.of_eq ?_; (conv => lhs; whnf); (simp [ATermNode.Ds_all, ATypeNode.Ds_all, boolDs_all, intDs_i64_all, AStore.D, ATermNode.D, ATypeNode.D, listAll] <;> (repeat' first | rfl | apply And.intro)); done) | (refine wk.pure ?_; (conv => lhs; whnf); (simp [ATermNode.Ds_all, ATypeNode.Ds_all, boolDs_all, intDs_i64_all, AStore.D, ATermNode.D, ATypeNode.D, listAll] <;> (repeat' first | rfl | apply And.intro)); done) | ((simp [ATermNode.Ds_all, ATypeNode.Ds_all, boolDs_all, intDs_i64_all, AStore.D, ATermNode.D, ATypeNode.D, listAll] <;> (repeat' first | rfl | apply And.intro)); done)

def M_hash_table_typ_io (a1 : Int) (b0_0 : (List ATypeNode)) (b0_1 : (List ATermNode)) (b3 : (List (HashTypeKey × Int))) (b4 : (List (HashTermKey × Int))) (r : (Ty × (List ATypeNode) × (List ATermNode) × (List (HashTypeKey × Int)) × (List (HashTermKey × Int)))) : Prop := IoR Try.prog 57 [.ptr 0 0 0, .d (.int .i64 a1)] [.cells [.own 0 1 3 (ATypeNode.Ds b0_0), .own 0 2 5 (ATermNode.Ds b0_1), .map 0 3, .map 0 4], .grow 3 (ATypeNode.Ds b0_0).length, .grow 5 (ATermNode.Ds b0_1).length, .map (mapD HashTypeKey.D (D.int .i64) b3), .map (mapD HashTermKey.D (D.int .i64) b4)] (.d (Ty.D r.1)) ([.cells [.own 0 1 3 (ATypeNode.Ds r.2.1), .own 0 2 5 (ATermNode.Ds r.2.2.1), .map 0 3, .map 0 4], .grow 3 (ATypeNode.Ds r.2.1).length, .grow 5 (ATermNode.Ds r.2.2.1).length, .map (mapD HashTypeKey.D (D.int .i64) r.2.2.2.1), .map (mapD HashTermKey.D (D.int .i64) r.2.2.2.2)])
def M_hash_table_typ_io_l0 (rest0 : (List Int)) (c0_0_0 : (List ATypeNode)) (c0_1_0 : (List ATermNode)) (m3_0 : (List (HashTypeKey × Int))) (m4_0 : (List (HashTermKey × Int))) (c7_2_0 : (List Ty)) (v1 : ATypeNode) (r : (Ty × (List ATypeNode) × (List ATermNode) × (List (HashTypeKey × Int)) × (List (HashTermKey × Int)))) : Prop := ∀ (k0 : Nat) (hd0 : rest0 = v1.args.drop k0), LoopAt T Try.prog Try.f57 ⟨[], 5⟩ [] [1, 1, 1, 0, 1, 0] (ES T Try.f57 5 (.d (Ty.D r.1)) ([.cells [.own 0 1 3 (ATypeNode.Ds r.2.1), .own 0 2 5 (ATermNode.Ds r.2.2.1), .map 0 3, .map 0 4], .grow 3 (ATypeNode.Ds r.2.1).length, .grow 5 (ATermNode.Ds r.2.2.1).length, .map (mapD HashTypeKey.D (D.int .i64) r.2.2.2.1), .map (mapD HashTermKey.D (D.int .i64) r.2.2.2.2)])) [(0, .ptr 0 0 0), (4, .ptr 0 5 0), (6, .ptr 0 7 0), (23, .d (.slice 1 (intDs_i64 v1.args))), (24, .d (.int .i64 ((intDs_i64 v1.args).length : Int))), (25, .d (.int .i64 (k0 : Int)))] [[.cells [.own 0 1 3 (ATypeNode.Ds c0_0_0), .own 0 2 5 (ATermNode.Ds c0_1_0), .map 0 3, .map 0 4], .grow 3 (ATypeNode.Ds c0_0_0).length, .grow 5 (ATermNode.Ds c0_1_0).length, .map (mapD HashTypeKey.D (D.int .i64) m3_0), .map (mapD HashTermKey.D (D.int .i64) m4_0), .cells [.d (.bool false), .d (.str ByteArray.empty), .nil 3], .cells [.d (.bool v1.var), .d (.str v1.name), .d (.slice 1 (intDs_i64 v1.args))], .cells [.d (.bool v1.var), .d (.str v1.name), .own 0 8 3 (Ty.Ds c7_2_0)], .grow 3 (Ty.Ds c7_2_0).length]]
theorem G_hash_table_typ_io : (∀ p r, hash_table_typ_io' p = some r → ∀ a1 b0_0 b0_1 b3 b4, (a1, b0_0, b0_1, b3, b4) = p → M_hash_table_typ_io a1 b0_0 b0_1 b3 b4 r) ∧
    (∀ p r, hash_table_typ_io_l0' p = some r → ∀ rest0 c0_0_0 c0_1_0 m3_0 m4_0 c7_2_0 v1, (rest0, c0_0_0, c0_1_0, m3_0, m4_0, c7_2_0, v1) = p → M_hash_table_typ_io_l0 rest0 c0_0_0 c0_1_0 m3_0 m4_0 c7_2_0 v1 r) := by
  refine hash_table_typ_io'.mutual_partial_correctness (fun (p : (Int × (List ATypeNode) × (List ATermNode) × (List (HashTypeKey × Int)) × (List (HashTermKey × Int)))) (r : (Ty × (List ATypeNode) × (List ATermNode) × (List (HashTypeKey × Int)) × (List (HashTermKey × Int)))) => ∀ (a1 : Int) (b0_0 : (List ATypeNode)) (b0_1 : (List ATermNode)) (b3 : (List (HashTypeKey × Int))) (b4 : (List (HashTermKey × Int))), (a1, b0_0, b0_1, b3, b4) = p → M_hash_table_typ_io a1 b0_0 b0_1 b3 b4 r) (fun (p : ((List Int) × (List ATypeNode) × (List ATermNode) × (List (HashTypeKey × Int)) × (List (HashTermKey × Int)) × (List Ty) × ATypeNode)) (r : (Ty × (List ATypeNode) × (List ATermNode) × (List (HashTypeKey × Int)) × (List (HashTermKey × Int)))) => ∀ (rest0 : (List Int)) (c0_0_0 : (List ATypeNode)) (c0_1_0 : (List ATermNode)) (m3_0 : (List (HashTypeKey × Int))) (m4_0 : (List (HashTermKey × Int))) (c7_2_0 : (List Ty)) (v1 : ATypeNode), (rest0, c0_0_0, c0_1_0, m3_0, m4_0, c7_2_0, v1) = p → M_hash_table_typ_io_l0 rest0 c0_0_0 c0_1_0 m3_0 m4_0 c7_2_0 v1 r) ?_ ?_
  · intro f_hash_table_typ_io_l0 ih_hash_table_typ_io_l0 p r e a1 b0_0 b0_1 b3 b4 hp
    subst hp
    refine io_of_awp2 (js := []) T_ok Try.func57 rfl (by decide +kernel) rfl ?_; (conv => whnf)
    obtain ⟨v1, qv1, e⟩ := bnd e
    obtain ⟨qv1k, qv1a, qv1b⟩ := geti_some qv1
    refine ⟨qv1k, _, qv1a, (by first | exact ATypeNode.Ds_get qv1b | simpa [ATypeNode.Ds_all, Ty.Ds_all, intDs_i64_all, ATypeNode.D, Ty.D, listAll] using ATypeNode.Ds_get qv1b), ?_⟩; (conv => whnf)
    refine ⟨ATypeNode.Ds_fit _ rfl rfl, ?_⟩; (conv => whnf)
    refine Runs.hold 3 ?_
    refine RunsL.runs (RunsL.weak ((ih_hash_table_typ_io_l0 _ _ e _ _ _ _ _ _ _ rfl) 0 (by simp)) ?_)
    repeat' first | exact wk.of_eq rfl | exact wk.pure rfl | exact wk.un _ | exact wk.hold _ _ _ | exact rfl | exact trivial | refine ⟨?_, ?_⟩ | (refine wk.of_eq ?_; (conv => lhs; whnf); (simp [ATypeNode.Ds_all, Ty.Ds_all, intDs_i64_all, ATypeNode.D, Ty.D, listAll] <;> (repeat' first | rfl | apply And.intro)); done) | (refine wk.pure ?_; (conv => lhs; whnf); (simp [ATypeNode.Ds_all, Ty.Ds_all, intDs_i64_all, ATypeNode.D, Ty.D, listAll] <;> (repeat' first | rfl | apply And.intro)); done) | ((simp [ATypeNode.Ds_all, Ty.Ds_all, intDs_i64_all, ATypeNode.D, Ty.D, listAll] <;> (repeat' first | rfl | apply And.intro)); done)
  · intro f_hash_table_typ_io f_hash_table_typ_io_l0 ih_hash_table_typ_io ih_hash_table_typ_io_l0 p r e rest0 c0_0_0 c0_1_0 m3_0 m4_0 c7_2_0 v1 hp
    subst hp
    intro k0 hd0
    refine RunsL.len_tmp 23 rfl fun hlenk0 => ?_
    refine RunsL.of_awp (js := []) T_ok ?_; (conv => whnf)
    have hls := intDs_i64_len v1.args
    cases rest0 with
    | nil =>
      have hk := drop_nil hd0
      refine ⟨⟨fun h => absurd h (by omega), fun _ => ?_⟩⟩; (conv => whnf)
      obtain rfl := sm e
      refine ⟨[0, 1, 2, 3, 4], ⟨rfl, rfl⟩, ?_, ⟨⟨_, rfl, ⟨⟨?_, ?_, rfl, rfl, trivial⟩, rfl⟩⟩, ⟨_, rfl, ?_⟩, ⟨_, rfl, ?_⟩, ⟨_, rfl, rfl⟩, ⟨_, rfl, rfl⟩, trivial⟩⟩
      repeat' first | exact rfl | exact trivial | refine ⟨?_, ?_⟩ | (simp [ATypeNode.Ds_all, Ty.Ds_all, intDs_i64_all, ATypeNode.D, Ty.D, listAll] <;> (repeat' first | rfl | apply And.intro); done)
    | cons v26 rest0 =>
      obtain ⟨hxv26, hd0, hltv26⟩ := drop_head hd0
      refine ⟨⟨fun _ => ?_, fun h => absurd (by omega) h⟩⟩; (conv => whnf)
      refine ⟨k0, _, rfl, intDs_i64_get hxv26, ?_⟩; (conv => whnf)
      refine ⟨intDs_i64_fit _ rfl rfl, ?_⟩; (conv => whnf)
      refine draw_rule [0, 1, 2, 3, 4] T_ok mixed hash_table_typ_io_pl6 (by decide +kernel) ?_; (conv => whnf)
      obtain ⟨v27, qv27, e⟩ := bnd e
      first | (refine said_iorF (ih_hash_table_typ_io _ _ qv27 _ _ _ _ _ rfl) [0, 1, 2, 3, 4] [.ptr 0 0 0, .d (.int .i64 v26)] rfl ⟨wk.refl _, wk.pure rfl, trivial⟩ rfl rfl ⟨(keeps_back rfl), ?_⟩) | (refine said_iorF2 (ih_hash_table_typ_io _ _ qv27 _ _ _ _ _ rfl) [0, 1, 2, 3, 4] [.ptr 0 0 0, .d (.int .i64 v26)] rfl ⟨wk.refl _, wk.pure rfl, trivial⟩ rfl rfl (by simp [ATypeNode.Ds_all, Ty.Ds_all, intDs_i64_all, ATypeNode.D, Ty.D, listAll] <;> (repeat' first | rfl | apply And.intro)) ⟨(keeps_back rfl), ?_⟩)
      (conv => whnf)
      refine ⟨⟨⟨rfl, rfl⟩, trivial⟩, ?_⟩; (conv => whnf)
      obtain ⟨v28, qv28, e⟩ := bnd e
      obtain ⟨qv28l, qv28e⟩ := app_some qv28
      refine ⟨(by first | exact qv28l | simpa [ATypeNode.Ds_all, Ty.Ds_all, intDs_i64_all, ATypeNode.D, Ty.D, listAll] using qv28l), rfl, (by first | rfl | simp [ATypeNode.Ds_all, Ty.Ds_all, intDs_i64_all, ATypeNode.D, Ty.D, listAll]), ?_⟩; (conv => whnf)
      refine ⟨((k0 + 1 : Nat) : Int), wrap64e (by omega) (by omega) (by omega), ?_⟩; (conv => whnf)
      refine (RunsL.weak ((ih_hash_table_typ_io_l0 _ _ e _ _ _ _ _ _ _ rfl) (k0 + 1) hd0) ?_)
      repeat' first | exact wk.of_eq rfl | exact wk.pure rfl | exact wk.un _ | exact wk.hold _ _ _ | exact rfl | exact trivial | refine ⟨?_, ?_⟩ | (refine wk.of_eq ?_; (conv => lhs; whnf); (simp [ATypeNode.Ds_all, Ty.Ds_all, intDs_i64_all, ATypeNode.D, Ty.D, listAll, qv28e] <;> (repeat' first | rfl | apply And.intro)); done) | (refine wk.pure ?_; (conv => lhs; whnf); (simp [ATypeNode.Ds_all, Ty.Ds_all, intDs_i64_all, ATypeNode.D, Ty.D, listAll, qv28e] <;> (repeat' first | rfl | apply And.intro)); done) | ((simp [ATypeNode.Ds_all, Ty.Ds_all, intDs_i64_all, ATypeNode.D, Ty.D, listAll, qv28e] <;> (repeat' first | rfl | apply And.intro)); done)
theorem P_hash_table_typ_io {a1 : Int} {b0_0 : (List ATypeNode)} {b0_1 : (List ATermNode)} {b3 : (List (HashTypeKey × Int))} {b4 : (List (HashTermKey × Int))} {r : (Ty × (List ATypeNode) × (List ATermNode) × (List (HashTypeKey × Int)) × (List (HashTermKey × Int)))} (e : hash_table_typ_io a1 b0_0 b0_1 b3 b4 = some r) : M_hash_table_typ_io a1 b0_0 b0_1 b3 b4 r := G_hash_table_typ_io.1 _ _ e _ _ _ _ _ rfl
theorem P_hash_table_typ_io_l0 {rest0 : (List Int)} {c0_0_0 : (List ATypeNode)} {c0_1_0 : (List ATermNode)} {m3_0 : (List (HashTypeKey × Int))} {m4_0 : (List (HashTermKey × Int))} {c7_2_0 : (List Ty)} {v1 : ATypeNode} {r : (Ty × (List ATypeNode) × (List ATermNode) × (List (HashTypeKey × Int)) × (List (HashTermKey × Int)))} (e : hash_table_typ_io_l0 rest0 c0_0_0 c0_1_0 m3_0 m4_0 c7_2_0 v1 = some r) : M_hash_table_typ_io_l0 rest0 c0_0_0 c0_1_0 m3_0 m4_0 c7_2_0 v1 r := G_hash_table_typ_io.2 _ _ e _ _ _ _ _ _ _ rfl

def M_hash_table_term_io (a1 : Int) (b0_0 : (List ATypeNode)) (b0_1 : (List ATermNode)) (b3 : (List (HashTypeKey × Int))) (b4 : (List (HashTermKey × Int))) (r : (Tm × (List ATypeNode) × (List ATermNode) × (List (HashTypeKey × Int)) × (List (HashTermKey × Int)))) : Prop := IoR Try.prog 60 [.ptr 0 0 0, .d (.int .i64 a1)] [.cells [.own 0 1 3 (ATypeNode.Ds b0_0), .own 0 2 5 (ATermNode.Ds b0_1), .map 0 3, .map 0 4], .grow 3 (ATypeNode.Ds b0_0).length, .grow 5 (ATermNode.Ds b0_1).length, .map (mapD HashTypeKey.D (D.int .i64) b3), .map (mapD HashTermKey.D (D.int .i64) b4)] (.d (Tm.D r.1)) ([.cells [.own 0 1 3 (ATypeNode.Ds r.2.1), .own 0 2 5 (ATermNode.Ds r.2.2.1), .map 0 3, .map 0 4], .grow 3 (ATypeNode.Ds r.2.1).length, .grow 5 (ATermNode.Ds r.2.2.1).length, .map (mapD HashTypeKey.D (D.int .i64) r.2.2.2.1), .map (mapD HashTermKey.D (D.int .i64) r.2.2.2.2)])
def M_hash_table_term_io_j0 (c0_0_1 : (List ATypeNode)) (c0_1_1 : (List ATermNode)) (m3_1 : (List (HashTypeKey × Int))) (m4_1 : (List (HashTermKey × Int))) (c7_2_1 : Bool) (c7_3_1 : ByteArray) (c7_4_1 : (List Ty)) (v1 : ATermNode) (r : (Tm × (List ATypeNode) × (List ATermNode) × (List (HashTypeKey × Int)) × (List (HashTermKey × Int)))) : Prop := JoinAt T Try.prog Try.f60 ⟨[], 5⟩ [5] [1, 1, 1, 1, 0, 0] (ES T Try.f60 5 (.d (Tm.D r.1)) ([.cells [.own 0 1 3 (ATypeNode.Ds r.2.1), .own 0 2 5 (ATermNode.Ds r.2.2.1), .map 0 3, .map 0 4], .grow 3 (ATypeNode.Ds r.2.1).length, .grow 5 (ATermNode.Ds r.2.2.1).length, .map (mapD HashTypeKey.D (D.int .i64) r.2.2.2.1), .map (mapD HashTermKey.D (D.int .i64) r.2.2.2.2)])) [(0, .ptr 0 0 0), (4, .ptr 0 5 0), (5, .ptr 0 6 0), (6, .ptr 0 7 0)] [[.cells [.own 0 1 3 (ATypeNode.Ds c0_0_1), .own 0 2 5 (ATermNode.Ds c0_1_1), .map 0 3, .map 0 4], .grow 3 (ATypeNode.Ds c0_0_1).length, .grow 5 (ATermNode.Ds c0_1_1).length, .map (mapD HashTypeKey.D (D.int .i64) m3_1), .map (mapD HashTermKey.D (D.int .i64) m4_1), .cells [.d (.int .u8 0), .d (.str ByteArray.empty), .d (.bool false), .d (.str ByteArray.empty), .nil 3, .d (.int .i64 0), .nil 7], .cells [.d (.int .u8 v1.kind), .d (.str v1.name), .d (.int .i64 v1.type_), .d (.int .i64 v1.index), .d (.slice 1 (intDs_i64 v1.sub))], .cells [.d (.int .u8 v1.kind), .d (.str v1.name), .d (.bool c7_2_1), .d (.str c7_3_1), .d (.slice 3 (Ty.Ds c7_4_1)), .d (.int .i64 v1.index), .nil 7]]]
def M_hash_table_term_io_l0 (rest0 : (List Int)) (c0_0_0 : (List ATypeNode)) (c0_1_0 : (List ATermNode)) (m3_0 : (List (HashTypeKey × Int))) (m4_0 : (List (HashTermKey × Int))) (c7_6_0 : (List Tm)) (c7_2_1 : Bool) (c7_3_1 : ByteArray) (c7_4_1 : (List Ty)) (v1 : ATermNode) (r : (Tm × (List ATypeNode) × (List ATermNode) × (List (HashTypeKey × Int)) × (List (HashTermKey × Int)))) : Prop := ∀ (k0 : Nat) (hd0 : rest0 = v1.sub.drop k0), LoopAt T Try.prog Try.f60 ⟨[], 5⟩ [5] [1, 1, 1, 1, 0, 1, 0] (ES T Try.f60 5 (.d (Tm.D r.1)) ([.cells [.own 0 1 3 (ATypeNode.Ds r.2.1), .own 0 2 5 (ATermNode.Ds r.2.2.1), .map 0 3, .map 0 4], .grow 3 (ATypeNode.Ds r.2.1).length, .grow 5 (ATermNode.Ds r.2.2.1).length, .map (mapD HashTypeKey.D (D.int .i64) r.2.2.2.1), .map (mapD HashTermKey.D (D.int .i64) r.2.2.2.2)])) [(0, .ptr 0 0 0), (4, .ptr 0 5 0), (6, .ptr 0 7 0), (33, .d (.slice 1 (intDs_i64 v1.sub))), (34, .d (.int .i64 ((intDs_i64 v1.sub).length : Int))), (35, .d (.int .i64 (k0 : Int)))] [[.cells [.own 0 1 3 (ATypeNode.Ds c0_0_0), .own 0 2 5 (ATermNode.Ds c0_1_0), .map 0 3, .map 0 4], .grow 3 (ATypeNode.Ds c0_0_0).length, .grow 5 (ATermNode.Ds c0_1_0).length, .map (mapD HashTypeKey.D (D.int .i64) m3_0), .map (mapD HashTermKey.D (D.int .i64) m4_0), .cells [.d (.int .u8 0), .d (.str ByteArray.empty), .d (.bool false), .d (.str ByteArray.empty), .nil 3, .d (.int .i64 0), .nil 7], .cells [.d (.int .u8 v1.kind), .d (.str v1.name), .d (.int .i64 v1.type_), .d (.int .i64 v1.index), .d (.slice 1 (intDs_i64 v1.sub))], .cells [.d (.int .u8 v1.kind), .d (.str v1.name), .d (.bool c7_2_1), .d (.str c7_3_1), .d (.slice 3 (Ty.Ds c7_4_1)), .d (.int .i64 v1.index), .own 0 8 7 (Tm.Ds c7_6_0)], .grow 7 (Tm.Ds c7_6_0).length]]
theorem G_hash_table_term_io : (∀ p r, hash_table_term_io' p = some r → ∀ a1 b0_0 b0_1 b3 b4, (a1, b0_0, b0_1, b3, b4) = p → M_hash_table_term_io a1 b0_0 b0_1 b3 b4 r) ∧
    (∀ p r, hash_table_term_io_j0' p = some r → ∀ c0_0_1 c0_1_1 m3_1 m4_1 c7_2_1 c7_3_1 c7_4_1 v1, (c0_0_1, c0_1_1, m3_1, m4_1, c7_2_1, c7_3_1, c7_4_1, v1) = p → M_hash_table_term_io_j0 c0_0_1 c0_1_1 m3_1 m4_1 c7_2_1 c7_3_1 c7_4_1 v1 r) ∧
    (∀ p r, hash_table_term_io_l0' p = some r → ∀ rest0 c0_0_0 c0_1_0 m3_0 m4_0 c7_6_0 c7_2_1 c7_3_1 c7_4_1 v1, (rest0, c0_0_0, c0_1_0, m3_0, m4_0, c7_6_0, c7_2_1, c7_3_1, c7_4_1, v1) = p → M_hash_table_term_io_l0 rest0 c0_0_0 c0_1_0 m3_0 m4_0 c7_6_0 c7_2_1 c7_3_1 c7_4_1 v1 r) := by
  refine hash_table_term_io'.mutual_partial_correctness (fun (p : (Int × (List ATypeNode) × (List ATermNode) × (List (HashTypeKey × Int)) × (List (HashTermKey × Int)))) (r : (Tm × (List ATypeNode) × (List ATermNode) × (List (HashTypeKey × Int)) × (List (HashTermKey × Int)))) => ∀ (a1 : Int) (b0_0 : (List ATypeNode)) (b0_1 : (List ATermNode)) (b3 : (List (HashTypeKey × Int))) (b4 : (List (HashTermKey × Int))), (a1, b0_0, b0_1, b3, b4) = p → M_hash_table_term_io a1 b0_0 b0_1 b3 b4 r) (fun (p : ((List ATypeNode) × (List ATermNode) × (List (HashTypeKey × Int)) × (List (HashTermKey × Int)) × Bool × ByteArray × (List Ty) × ATermNode)) (r : (Tm × (List ATypeNode) × (List ATermNode) × (List (HashTypeKey × Int)) × (List (HashTermKey × Int)))) => ∀ (c0_0_1 : (List ATypeNode)) (c0_1_1 : (List ATermNode)) (m3_1 : (List (HashTypeKey × Int))) (m4_1 : (List (HashTermKey × Int))) (c7_2_1 : Bool) (c7_3_1 : ByteArray) (c7_4_1 : (List Ty)) (v1 : ATermNode), (c0_0_1, c0_1_1, m3_1, m4_1, c7_2_1, c7_3_1, c7_4_1, v1) = p → M_hash_table_term_io_j0 c0_0_1 c0_1_1 m3_1 m4_1 c7_2_1 c7_3_1 c7_4_1 v1 r) (fun (p : ((List Int) × (List ATypeNode) × (List ATermNode) × (List (HashTypeKey × Int)) × (List (HashTermKey × Int)) × (List Tm) × Bool × ByteArray × (List Ty) × ATermNode)) (r : (Tm × (List ATypeNode) × (List ATermNode) × (List (HashTypeKey × Int)) × (List (HashTermKey × Int)))) => ∀ (rest0 : (List Int)) (c0_0_0 : (List ATypeNode)) (c0_1_0 : (List ATermNode)) (m3_0 : (List (HashTypeKey × Int))) (m4_0 : (List (HashTermKey × Int))) (c7_6_0 : (List Tm)) (c7_2_1 : Bool) (c7_3_1 : ByteArray) (c7_4_1 : (List Ty)) (v1 : ATermNode), (rest0, c0_0_0, c0_1_0, m3_0, m4_0, c7_6_0, c7_2_1, c7_3_1, c7_4_1, v1) = p → M_hash_table_term_io_l0 rest0 c0_0_0 c0_1_0 m3_0 m4_0 c7_6_0 c7_2_1 c7_3_1 c7_4_1 v1 r) ?_ ?_ ?_
  · intro f_hash_table_term_io_j0 ih_hash_table_term_io_j0 p r e a1 b0_0 b0_1 b3 b4 hp
    subst hp
    refine io_of_awp2 (js := [5]) T_ok Try.func60 rfl (by decide +kernel) rfl ?_; (conv => whnf)
    obtain ⟨v1, qv1, e⟩ := bnd e
    obtain ⟨qv1k, qv1a, qv1b⟩ := geti_some qv1
    refine ⟨qv1k, _, qv1a, (by first | exact ATermNode.Ds_get qv1b | simpa [ATermNode.Ds_all, Tm.Ds_all, Ty.Ds_all, intDs_i64_all, ATermNode.D, Tm.D, Ty.D, listAll] using ATermNode.Ds_get qv1b), ?_⟩; (conv => whnf)
    refine ⟨ATermNode.Ds_fit _ rfl rfl, ?_⟩; (conv => whnf)
    refine ⟨⟨fun h2 => ?_, fun h2 => ?_⟩⟩
    · replace e := ifp h2 e; (conv => whnf)
      obtain ⟨v3, qv3, e⟩ := bnd e
      first | (refine said_iorF (P_hash_table_typ_io qv3) [0, 1, 2, 3, 4] [.ptr 0 0 0, .d (.int .i64 v1.type_)] rfl ⟨wk.refl _, wk.pure rfl, trivial⟩ rfl rfl ?_) | (refine said_iorF2 (P_hash_table_typ_io qv3) [0, 1, 2, 3, 4] [.ptr 0 0 0, .d (.int .i64 v1.type_)] rfl ⟨wk.refl _, wk.pure rfl, trivial⟩ rfl rfl (by simp [ATermNode.Ds_all, Tm.Ds_all, Ty.Ds_all, intDs_i64_all, ATermNode.D, Tm.D, Ty.D, listAll] <;> (repeat' first | rfl | apply And.intro)) ?_)
      (conv => whnf)
      refine Runs.weak (ih_hash_table_term_io_j0 _ _ e _ _ _ _ _ _ _ _ rfl) ?_
      repeat' first | exact wk.of_eq rfl | exact wk.pure rfl | exact wk.un _ | exact wk.hold _ _ _ | exact rfl | exact trivial | refine ⟨?_, ?_⟩ | (refine wk.of_eq ?_; (conv => lhs; whnf); (simp [ATermNode.Ds_all, Tm.Ds_all, Ty.Ds_all, intDs_i64_all, ATermNode.D, Tm.D, Ty.D, listAll] <;> (repeat' first | rfl | apply And.intro)); done) | (refine wk.pure ?_; (conv => lhs; whnf); (simp [ATermNode.Ds_all, Tm.Ds_all, Ty.Ds_all, intDs_i64_all, ATermNode.D, Tm.D, Ty.D, listAll] <;> (repeat' first | rfl | apply And.intro)); done) | ((simp [ATermNode.Ds_all, Tm.Ds_all, Ty.Ds_all, intDs_i64_all, ATermNode.D, Tm.D, Ty.D, listAll] <;> (repeat' first | rfl | apply And.intro)); done)
    · replace e := ifn h2 e; (conv => whnf)
      refine Runs.weak (ih_hash_table_term_io_j0 _ _ e _ _ _ _ _ _ _ _ rfl) ?_
      repeat' first | exact wk.of_eq rfl | exact wk.pure rfl | exact wk.un _ | exact wk.hold _ _ _ | exact rfl | exact trivial | refine ⟨?_, ?_⟩ | (refine wk.of_eq ?_; (conv => lhs; whnf); (simp [ATermNode.Ds_all, Tm.Ds_all, Ty.Ds_all, intDs_i64_all, ATermNode.D, Tm.D, Ty.D, listAll] <;> (repeat' first | rfl | apply And.intro)); done) | (refine wk.pure ?_; (conv => lhs; whnf); (simp [ATermNode.Ds_all, Tm.Ds_all, Ty.Ds_all, intDs_i64_all, ATermNode.D, Tm.D, Ty.D, listAll] <;> (repeat' first | rfl | apply And.intro)); done) | ((simp [ATermNode.Ds_all, Tm.Ds_all, Ty.Ds_all, intDs_i64_all, ATermNode.D, Tm.D, Ty.D, listAll] <;> (repeat' first | rfl | apply And.intro)); done)
  · intro f_hash_table_term_io_l0 ih_hash_table_term_io_l0 p r e c0_0_1 c0_1_1 m3_1 m4_1 c7_2_1 c7_3_1 c7_4_1 v1 hp
    subst hp
    refine Runs.enter T_ok ?_; (conv => whnf)
    refine Runs.hold 7 ?_
    refine RunsL.runs (RunsL.weak ((ih_hash_table_term_io_l0 _ _ e _ _ _ _ _ _ _ _ _ _ rfl) 0 (by simp)) ?_)
    repeat' first | exact wk.of_eq rfl | exact wk.pure rfl | exact wk.un _ | exact wk.hold _ _ _ | exact rfl | exact trivial | refine ⟨?_, ?_⟩ | (refine wk.of_eq ?_; (conv => lhs; whnf); (simp [ATermNode.Ds_all, Tm.Ds_all, Ty.Ds_all, intDs_i64_all, ATermNode.D, Tm.D, Ty.D, listAll] <;> (repeat' first | rfl | apply And.intro)); done) | (refine wk.pure ?_; (conv => lhs; whnf); (simp [ATermNode.Ds_all, Tm.Ds_all, Ty.Ds_all, intDs_i64_all, ATermNode.D, Tm.D, Ty.D, listAll] <;> (repeat' first | rfl | apply And.intro)); done) | ((simp [ATermNode.Ds_all, Tm.Ds_all, Ty.Ds_all, intDs_i64_all, ATermNode.D, Tm.D, Ty.D, listAll] <;> (repeat' first | rfl | apply And.intro)); done)
  · intro f_hash_table_term_io f_hash_table_term_io_l0 ih_hash_table_term_io ih_hash_table_term_io_l0 p r e rest0 c0_0_0 c0_1_0 m3_0 m4_0 c7_6_0 c7_2_1 c7_3_1 c7_4_1 v1 hp
    subst hp
    intro k0 hd0
    refine RunsL.len_tmp 33 rfl fun hlenk0 => ?_
    refine RunsL.of_awp (js := [5]) T_ok ?_; (conv => whnf)
    have hls := intDs_i64_len v1.sub
    cases rest0 with
    | nil =>
      have hk := drop_nil hd0
      refine ⟨⟨fun h => absurd h (by omega), fun _ => ?_⟩⟩; (conv => whnf)
      obtain rfl := sm e
      refine ⟨[0, 1, 2, 3, 4], ⟨rfl, rfl⟩, ?_, ⟨⟨_, rfl, ⟨⟨?_, ?_, rfl, rfl, trivial⟩, rfl⟩⟩, ⟨_, rfl, ?_⟩, ⟨_, rfl, ?_⟩, ⟨_, rfl, rfl⟩, ⟨_, rfl, rfl⟩, trivial⟩⟩
      repeat' first | exact rfl | exact trivial | refine ⟨?_, ?_⟩ | (simp [ATermNode.Ds_all, Tm.Ds_all, Ty.Ds_all, intDs_i64_all, ATermNode.D, Tm.D, Ty.D, listAll] <;> (repeat' first | rfl | apply And.intro); done)
    | cons v36 rest0 =>
      obtain ⟨hxv36, hd0, hltv36⟩ := drop_head hd0
      refine ⟨⟨fun _ => ?_, fun h => absurd (by omega) h⟩⟩; (conv => whnf)
      refine ⟨k0, _, rfl, intDs_i64_get hxv36, ?_⟩; (conv => whnf)
      refine ⟨intDs_i64_fit _ rfl rfl, ?_⟩; (conv => whnf)
      refine draw_rule [0, 1, 2, 3, 4] T_ok mixed hash_table_term_io_pl8 (by decide +kernel) ?_; (conv => whnf)
      obtain ⟨v37, qv37, e⟩ := bnd e
      first | (refine said_iorF (ih_hash_table_term_io _ _ qv37 _ _ _ _ _ rfl) [0, 1, 2, 3, 4] [.ptr 0 0 0, .d (.int .i64 v36)] rfl ⟨wk.refl _, wk.pure rfl, trivial⟩ rfl rfl ⟨(keeps_back rfl), ?_⟩) | (refine said_iorF2 (ih_hash_table_term_io _ _ qv37 _ _ _ _ _ rfl) [0, 1, 2, 3, 4] [.ptr 0 0 0, .d (.int .i64 v36)] rfl ⟨wk.refl _, wk.pure rfl, trivial⟩ rfl rfl (by simp [ATermNode.Ds_all, Tm.Ds_all, Ty.Ds_all, intDs_i64_all, ATermNode.D, Tm.D, Ty.D, listAll] <;> (repeat' first | rfl | apply And.intro)) ⟨(keeps_back rfl), ?_⟩)
      (conv => whnf)
      refine ⟨⟨⟨rfl, rfl⟩, trivial⟩, ?_⟩; (conv => whnf)
      obtain ⟨v38, qv38, e⟩ := bnd e
      obtain ⟨qv38l, qv38e⟩ := app_some qv38
      refine ⟨(by first | exact qv38l | simpa [ATermNode.Ds_all, Tm.Ds_all, Ty.Ds_all, intDs_i64_all, ATermNode.D, Tm.D, Ty.D, listAll] using qv38l), rfl, (by first | rfl | simp [ATermNode.Ds_all, Tm.Ds_all, Ty.Ds_all, intDs_i64_all, ATermNode.D, Tm.D, Ty.D, listAll]), ?_⟩; (conv => whnf)
      refine ⟨((k0 + 1 : Nat) : Int), wrap64e (by omega) (by omega) (by omega), ?_⟩; (conv => whnf)
      refine (RunsL.weak ((ih_hash_table_term_io_l0 _ _ e _ _ _ _ _ _ _ _ _ _ rfl) (k0 + 1) hd0) ?_)
      repeat' first | exact wk.of_eq rfl | exact wk.pure rfl | exact wk.un _ | exact wk.hold _ _ _ | exact rfl | exact trivial | refine ⟨?_, ?_⟩ | (refine wk.of_eq ?_; (conv => lhs; whnf); (simp [ATermNode.Ds_all, Tm.Ds_all, Ty.Ds_all, intDs_i64_all, ATermNode.D, Tm.D, Ty.D, listAll, qv38e] <;> (repeat' first | rfl | apply And.intro)); done) | (refine wk.pure ?_; (conv => lhs; whnf); (simp [ATermNode.Ds_all, Tm.Ds_all, Ty.Ds_all, intDs_i64_all, ATermNode.D, Tm.D, Ty.D, listAll, qv38e] <;> (repeat' first | rfl | apply And.intro)); done) | ((simp [ATermNode.Ds_all, Tm.Ds_all, Ty.Ds_all, intDs_i64_all, ATermNode.D, Tm.D, Ty.D, listAll, qv38e] <;> (repeat' first | rfl | apply And.intro)); done)
theorem P_hash_table_term_io {a1 : Int} {b0_0 : (List ATypeNode)} {b0_1 : (List ATermNode)} {b3 : (List (HashTypeKey × Int))} {b4 : (List (HashTermKey × Int))} {r : (Tm × (List ATypeNode) × (List ATermNode) × (List (HashTypeKey × Int)) × (List (HashTermKey × Int)))} (e : hash_table_term_io a1 b0_0 b0_1 b3 b4 = some r) : M_hash_table_term_io a1 b0_0 b0_1 b3 b4 r := G_hash_table_term_io.1 _ _ e _ _ _ _ _ rfl
theorem P_hash_table_term_io_j0 {c0_0_1 : (List ATypeNode)} {c0_1_1 : (List ATermNode)} {m3_1 : (List (HashTypeKey × Int))} {m4_1 : (List (HashTermKey × Int))} {c7_2_1 : Bool} {c7_3_1 : ByteArray} {c7_4_1 : (List Ty)} {v1 : ATermNode} {r : (Tm × (List ATypeNode) × (List ATermNode) × (List (HashTypeKey × Int)) × (List (HashTermKey × Int)))} (e : hash_table_term_io_j0 c0_0_1 c0_1_1 m3_1 m4_1 c7_2_1 c7_3_1 c7_4_1 v1 = some r) : M_hash_table_term_io_j0 c0_0_1 c0_1_1 m3_1 m4_1 c7_2_1 c7_3_1 c7_4_1 v1 r := G_hash_table_term_io.2.1 _ _ e _ _ _ _ _ _ _ _ rfl
theorem P_hash_table_term_io_l0 {rest0 : (List Int)} {c0_0_0 : (List ATypeNode)} {c0_1_0 : (List ATermNode)} {m3_0 : (List (HashTypeKey × Int))} {m4_0 : (List (HashTermKey × Int))} {c7_6_0 : (List Tm)} {c7_2_1 : Bool} {c7_3_1 : ByteArray} {c7_4_1 : (List Ty)} {v1 : ATermNode} {r : (Tm × (List ATypeNode) × (List ATermNode) × (List (HashTypeKey × Int)) × (List (HashTermKey × Int)))} (e : hash_table_term_io_l0 rest0 c0_0_0 c0_1_0 m3_0 m4_0 c7_6_0 c7_2_1 c7_3_1 c7_4_1 v1 = some r) : M_hash_table_term_io_l0 rest0 c0_0_0 c0_1_0 m3_0 m4_0 c7_6_0 c7_2_1 c7_3_1 c7_4_1 v1 r := G_hash_table_term_io.2.2 _ _ e _ _ _ _ _ _ _ _ _ _ rfl

theorem P_hash_Get_j0 {r : (Tm × Int)} (e : hash_Get_j0 = some r) : ∀ (a0 : AStore) (a1 : Int), JoinAt T Try.prog Try.f25 Fx0 [2] [1, 1, 0, 0] (EP T Try.f25 (.tuple [(Tm.D r.1), (.int .i64 r.2)])) [(1, .d (.int .i64 a1)), (4, .ptr 0 1 0), (6, .d .nilptr), (7, .d (.int .i64 4))] [[.cells [.d (.slice 3 (ATypeNode.Ds a0.types)), .d (.slice 5 (ATermNode.Ds a0.terms))], .cells [.d (.int .u8 0), .d (.str ByteArray.empty), .d (.bool false), .d (.str ByteArray.empty), .nil 3, .d (.int .i64 0), .nil 7]]] := by
  unfold hash_Get_j0 at e
  intro a0 a1
  refine Runs.enter T_ok ?_; (conv => whnf)
  refine ⟨⟨fun h => absurd h (by decide), fun _ => ?_⟩⟩; (conv => whnf)
  refine ⟨⟨fun _ => ?_, fun h => absurd (by decide) h⟩⟩; (conv => whnf)
  obtain rfl := sm e
  repeat' first | exact rfl | exact trivial | refine ⟨?_, ?_⟩

theorem P_hash_Get_j0b {r : (Tm × Int)} (e : hash_Get_j0b = some r) : ∀ (a0 : AStore) (a1 : Int), JoinAt T Try.prog Try.f25 Fx0 [2] [1, 1, 0, 0] (EP T Try.f25 (.tuple [(Tm.D r.1), (.int .i64 r.2)])) [(1, .d (.int .i64 a1)), (4, .ptr 0 1 0), (6, .d .nilptr), (7, .d (.int .i64 8))] [[.cells [.d (.slice 3 (ATypeNode.Ds a0.types)), .d (.slice 5 (ATermNode.Ds a0.terms))], .cells [.d (.int .u8 0), .d (.str ByteArray.empty), .d (.bool false), .d (.str ByteArray.empty), .nil 3, .d (.int .i64 0), .nil 7]]] := by
  unfold hash_Get_j0b at e
  intro a0 a1
  refine Runs.enter T_ok ?_; (conv => whnf)
  refine ⟨⟨fun h => absurd h (by decide), fun _ => ?_⟩⟩; (conv => whnf)
  refine ⟨⟨fun _ => ?_, fun h => absurd (by decide) h⟩⟩; (conv => whnf)
  obtain rfl := sm e
  repeat' first | exact rfl | exact trivial | refine ⟨?_, ?_⟩

theorem P_hash_Get_j0c {a1 : Int} {v4 : ((List ATypeNode) × (List ATermNode) × (List (HashTypeKey × Int)) × (List (HashTermKey × Int)))} {r : (Tm × Int)} (e : hash_Get_j0c a1 v4 = some r) : ∀ (a0 : AStore), JoinAt T Try.prog Try.f25 Fx0 [2] [1, 1, 0, 0] (EP T Try.f25 (.tuple [(Tm.D r.1), (.int .i64 r.2)])) [(1, .d (.int .i64 a1)), (4, .ptr 0 1 0), (6, .ptr 0 2 0), (7, .d (.int .i64 0))] [[.cells [.d (.slice 3 (ATypeNode.Ds a0.types)), .d (.slice 5 (ATermNode.Ds a0.terms))], .cells [.d (.int .u8 0), .d (.str ByteArray.empty), .d (.bool false), .d (.str ByteArray.empty), .nil 3, .d (.int .i64 0), .nil 7], .cells [.own 0 3 3 (ATypeNode.Ds v4.1), .own 0 4 5 (ATermNode.Ds v4.2.1), .map 0 5, .map 0 6], .grow 3 (ATypeNode.Ds v4.1).length, .grow 5 (ATermNode.Ds v4.2.1).length, .map (mapD HashTypeKey.D (D.int .i64) v4.2.2.1), .map (mapD HashTermKey.D (D.int .i64) v4.2.2.2)]] := by
  unfold hash_Get_j0c at e
  intro a0
  refine Runs.enter T_ok ?_; (conv => whnf)
  refine ⟨⟨fun _ => ?_, fun h => absurd (by decide) h⟩⟩; (conv => whnf)
  obtain ⟨v5, qv5, e⟩ := bnd e
  first | (refine said_iorF (P_hash_table_size_io qv5) [2, 3, 4, 5, 6] [.ptr 0 2 0, .d (.int .i64 a1)] rfl ⟨wk.refl _, wk.pure rfl, trivial⟩ rfl rfl ?_) | (refine said_iorF2 (P_hash_table_size_io qv5) [2, 3, 4, 5, 6] [.ptr 0 2 0, .d (.int .i64 a1)] rfl ⟨wk.refl _, wk.pure rfl, trivial⟩ rfl rfl (by simp [ATermNode.Ds_all, ATypeNode.Ds_all, Tm.Ds_all, Ty.Ds_all, AStore.D, ATermNode.D, ATypeNode.D, Tm.D, Ty.D, listAll] <;> (repeat' first | rfl | apply And.intro)) ?_)
  (conv => whnf)
  refine ⟨⟨fun h6 => ?_, fun h6 => ?_⟩⟩
  · replace e := ifp h6 e; (conv => whnf)
    obtain rfl := sm e
    repeat' first | exact rfl | exact trivial | refine ⟨?_, ?_⟩
  · replace e := ifn h6 e; (conv => whnf)
    obtain ⟨v7, qv7, e⟩ := bnd e
    first | (refine said_iorF (P_hash_table_term_io qv7) [2, 3, 4, 5, 6] [.ptr 0 2 0, .d (.int .i64 a1)] rfl ⟨wk.refl _, wk.pure rfl, trivial⟩ rfl rfl ?_) | (refine said_iorF2 (P_hash_table_term_io qv7) [2, 3, 4, 5, 6] [.ptr 0 2 0, .d (.int .i64 a1)] rfl ⟨wk.refl _, wk.pure rfl, trivial⟩ rfl rfl (by simp [ATermNode.Ds_all, ATypeNode.Ds_all, Tm.Ds_all, Ty.Ds_all, AStore.D, ATermNode.D, ATypeNode.D, Tm.D, Ty.D, listAll] <;> (repeat' first | rfl | apply And.intro)) ?_)
    (conv => whnf)
    obtain ⟨v8, qv8, e⟩ := bnd e
    refine said_pure (P_terms_Check qv8) rfl ?_; (conv => whnf)
    refine ⟨⟨fun h9 => ?_, fun h9 => ?_⟩⟩
    · replace e := ifp h9 e; (conv => whnf)
      obtain rfl := sm e
      repeat' first | exact rfl | exact trivial | refine ⟨?_, ?_⟩
    · replace e := ifn h9 e; (conv => whnf)
      obtain rfl := sm e
      repeat' first | exact rfl | exact trivial | refine ⟨?_, ?_⟩

theorem P_hash_Get {a0 : AStore} {a1 : Int} {r : (Tm × Int)} (e : hash_Get a0 a1 = some r) : Pure Try.prog 25 [(AStore.D a0), (.int .i64 a1)] (.tuple [(Tm.D r.1), (.int .i64 r.2)]) := by
  unfold hash_Get at e
  refine pure_of_awp (js := [2]) T_ok Try.func25 rfl (by decide +kernel) rfl ?_; (conv => whnf)
  obtain ⟨v1, qv1, e⟩ := bnd e
  rcases v1 with v2 | v3 | v4
  · refine said_iorF (P_hash_open_io qv1) [] [.d (AStore.D a0)] rfl ⟨wk.pure rfl, trivial⟩ rfl rfl ?_; (conv => whnf)
    refine Runs.weak ((P_hash_Get_j0 e) a0 a1) ?_
    repeat' first | exact wk.of_eq rfl | exact wk.pure rfl | exact wk.un _ | exact wk.hold _ _ _ | exact rfl | exact trivial | refine ⟨?_, ?_⟩
  · refine said_iorF (P_hash_open_io qv1) [] [.d (AStore.D a0)] rfl ⟨wk.pure rfl, trivial⟩ rfl rfl ?_; (conv => whnf)
    refine Runs.weak ((P_hash_Get_j0b e) a0 a1) ?_
    repeat' first | exact wk.of_eq rfl | exact wk.pure rfl | exact wk.un _ | exact wk.hold _ _ _ | exact rfl | exact trivial | refine ⟨?_, ?_⟩
  · refine said_iorF (P_hash_open_io qv1) [] [.d (AStore.D a0)] rfl ⟨wk.pure rfl, trivial⟩ rfl rfl ?_; (conv => whnf)
    refine Runs.weak ((P_hash_Get_j0c e) a0) ?_
    repeat' first | exact wk.of_eq rfl | exact wk.pure rfl | exact wk.un _ | exact wk.hold _ _ _ | exact rfl | exact trivial | refine ⟨?_, ?_⟩ | (refine wk.of_eq ?_; (conv => lhs; whnf); (simp [ATermNode.Ds_all, ATypeNode.Ds_all, Tm.Ds_all, Ty.Ds_all, AStore.D, ATermNode.D, ATypeNode.D, Tm.D, Ty.D, listAll] <;> (repeat' first | rfl | apply And.intro)); done) | (refine wk.pure ?_; (conv => lhs; whnf); (simp [ATermNode.Ds_all, ATypeNode.Ds_all, Tm.Ds_all, Ty.Ds_all, AStore.D, ATermNode.D, ATypeNode.D, Tm.D, Ty.D, listAll] <;> (repeat' first | rfl | apply And.intro)); done) | ((simp [ATermNode.Ds_all, ATypeNode.Ds_all, Tm.Ds_all, Ty.Ds_all, AStore.D, ATermNode.D, ATypeNode.D, Tm.D, Ty.D, listAll] <;> (repeat' first | rfl | apply And.intro)); done)

theorem P_cmp_isNaN_uint8 {a0 : Int} {r : Bool} (e : cmp_isNaN_uint8 a0 = some r) : Pure Try.prog 129 [(.int .u8 a0)] (.bool r) := by
  unfold cmp_isNaN_uint8 at e
  refine pure_of_awp (js := []) T_ok Try.func129 rfl (by decide +kernel) rfl ?_; (conv => whnf)
  refine test.dec ?_; (conv => whnf)
  obtain rfl := sm e
  repeat' first | exact rfl | exact trivial | refine ⟨?_, ?_⟩

theorem P_cmp_Compare_uint8 {a0 : Int} {a1 : Int} {r : Int} (e : cmp_Compare_uint8 a0 a1 = some r) : Pure Try.prog 113 [(.int .u8 a0), (.int .u8 a1)] (.int .i64 r) := by
  unfold cmp_Compare_uint8 at e
  refine pure_of_awp (js := []) T_ok Try.func113 rfl (by decide +kernel) rfl ?_; (conv => whnf)
  obtain ⟨v1, qv1, e⟩ := bnd e
  refine said_pure (P_cmp_isNaN_uint8 qv1) rfl ?_; (conv => whnf)
  obtain ⟨v2, qv2, e⟩ := bnd e
  refine said_pure (P_cmp_isNaN_uint8 qv2) rfl ?_; (conv => whnf)
  refine brK.split (fun hb3 => ?_) (fun hb3 => ?_)
  · replace e := ifpb hb3 e; (conv => whnf)
    refine brK.split (fun hb4 => ?_) (fun hb4 => ?_)
    · replace e := ifpb hb4 e; (conv => whnf)
      obtain rfl := sm e
      repeat' first | exact rfl | exact trivial | refine ⟨?_, ?_⟩
    · replace e := ifnb hb4 e; (conv => whnf)
      obtain rfl := sm e
      repeat' first | exact rfl | exact trivial | refine ⟨?_, ?_⟩
  · replace e := ifnb hb3 e; (conv => whnf)
    refine brK.split (fun hb4 => ?_) (fun hb4 => ?_)
    · replace e := ifpb hb4 e; (conv => whnf)
      obtain rfl := sm e
      repeat' first | exact rfl | exact trivial | refine ⟨?_, ?_⟩
    · replace e := ifnb hb4 e; (conv => whnf)
      refine ⟨⟨fun h5 => ?_, fun h5 => ?_⟩⟩
      · replace e := ifp h5 e; (conv => whnf)
        obtain rfl := sm e
        repeat' first | exact rfl | exact trivial | refine ⟨?_, ?_⟩
      · replace e := ifn h5 e; (conv => whnf)
        refine ⟨⟨fun h6 => ?_, fun h6 => ?_⟩⟩
        · replace e := ifp h6 e; (conv => whnf)
          obtain rfl := sm e
          repeat' first | exact rfl | exact trivial | refine ⟨?_, ?_⟩
        · replace e := ifn h6 e; (conv => whnf)
          obtain rfl := sm e
          repeat' first | exact rfl | exact trivial | refine ⟨?_, ?_⟩
end Go.Proofs.Ytpgecpmonaldiaa.Fw
