/- The code computes the functions. -/
import Derived.Test.YtpgecpmonaldiaaGP1
set_option autoImplicit false
set_option linter.unusedVariables false
set_option linter.unusedSimpArgs false
set_option maxHeartbeats 4000000
namespace Go.Proofs.Ytpgecpmonaldiaa.Fw
open Go Go.Proofs Go.RowKit
def M_hash_table_addTypes_io_l0 (rest0 : (List YN)) (k0 : Nat) (t5_0 : (List Int)) (t6_0 : (List Int)) (m3_0 : (List (YK × Int))) (b0_0 : (List YN)) (b0_1 : (List XN)) (b4 : (List (XK × Int))) (r : (Bool × (List YN) × (List XN) × (List (YK × Int)) × (List (XK × Int)))) : Prop := ∀ (a1 : (List YN)) (hd0 : rest0 = a1.drop k0), LoopAt T Try.prog Try.f82 ⟨[], 5⟩ [8] [1, 1, 0, 1, 0] (ES T Try.f82 5 (.d (.bool r.1)) ([.cells [.own 0 1 3 (YN.Ds r.2.1), .own 0 2 5 (XN.Ds r.2.2.1), .map 0 3, .map 0 4], .grow 3 (YN.Ds r.2.1).length, .grow 5 (XN.Ds r.2.2.1).length, .map (mapD YK.D (D.int .i64) r.2.2.2.1), .map (mapD XK.D (D.int .i64) r.2.2.2.2)])) [(0, .ptr 0 0 0), (5, .own 0 5 1 (intDs_i64 t5_0)), (6, .own 0 6 1 (intDs_i64 t6_0)), (14, .d (.slice 3 (YN.Ds a1))), (15, .d (.int .i64 ((YN.Ds a1).length : Int))), (16, .d (.int .i64 (k0 : Int)))] [[.cells [.own 0 1 3 (YN.Ds b0_0), .own 0 2 5 (XN.Ds b0_1), .map 0 3, .map 0 4], .grow 3 (YN.Ds b0_0).length, .grow 5 (XN.Ds b0_1).length, .map (mapD YK.D (D.int .i64) m3_0), .map (mapD XK.D (D.int .i64) b4), .grow 1 (intDs_i64 t5_0).length, .grow 1 (intDs_i64 t6_0).length]]
def M_hash_table_addTypes_io_j0 (b0_0 : (List YN)) (b0_1 : (List XN)) (b4 : (List (XK × Int))) (k0 : Nat) (m3_0 : (List (YK × Int))) (rest0 : (List YN)) (t5_0 : (List Int)) (t6_0 : (List Int)) (v24 : YN) (r : (Bool × (List YN) × (List XN) × (List (YK × Int)) × (List (XK × Int)))) : Prop := ∀ (a1 : (List YN)) (hxv24 : a1[k0]? = some v24) (hd0 : rest0 = a1.drop (k0 + 1)) (hltv24 : k0 < a1.length) (hlenk0 : (YN.Ds a1).length ≤ 9223372036854775807), JoinAt T Try.prog Try.f82 ⟨[], 5⟩ [8] [1, 1, 0, 1, 0, 0, 1, 1, 0, 0, 1, 1, 1, 0] (ES T Try.f82 5 (.d (.bool r.1)) ([.cells [.own 0 1 3 (YN.Ds r.2.1), .own 0 2 5 (XN.Ds r.2.2.1), .map 0 3, .map 0 4], .grow 3 (YN.Ds r.2.1).length, .grow 5 (XN.Ds r.2.2.1).length, .map (mapD YK.D (D.int .i64) r.2.2.2.1), .map (mapD XK.D (D.int .i64) r.2.2.2.2)])) [(0, .ptr 0 0 0), (5, .own 0 5 1 (intDs_i64 t5_0)), (6, .own 0 6 1 (intDs_i64 t6_0)), (7, .d (.int .i64 (k0 : Int))), (8, .ptr 0 7 0), (14, .d (.slice 3 (YN.Ds a1))), (15, .d (.int .i64 ((YN.Ds a1).length : Int))), (16, .d (.int .i64 (k0 : Int)))] [[.cells [.own 0 1 3 (YN.Ds b0_0), .own 0 2 5 (XN.Ds b0_1), .map 0 3, .map 0 4], .grow 3 (YN.Ds b0_0).length, .grow 5 (XN.Ds b0_1).length, .map (mapD YK.D (D.int .i64) m3_0), .map (mapD XK.D (D.int .i64) b4), .grow 1 (intDs_i64 t5_0).length, .grow 1 (intDs_i64 t6_0).length, .cells [.d (.bool v24.var), .d (.str v24.name), .d (.slice 1 (intDs_i64 v24.args))]]]
theorem G_hash_table_addTypes_io_l0 : (∀ p r, hash_table_addTypes_io_l0' p = some r → ∀ rest0 k0 t5_0 t6_0 m3_0 b0_0 b0_1 b4, (rest0, k0, t5_0, t6_0, m3_0, b0_0, b0_1, b4) = p → M_hash_table_addTypes_io_l0 rest0 k0 t5_0 t6_0 m3_0 b0_0 b0_1 b4 r) ∧
    (∀ p r, hash_table_addTypes_io_j0' p = some r → ∀ b0_0 b0_1 b4 k0 m3_0 rest0 t5_0 t6_0 v24, (b0_0, b0_1, b4, k0, m3_0, rest0, t5_0, t6_0, v24) = p → M_hash_table_addTypes_io_j0 b0_0 b0_1 b4 k0 m3_0 rest0 t5_0 t6_0 v24 r) := by
  refine hash_table_addTypes_io_l0'.mutual_partial_correctness (fun (p : ((List YN) × Nat × (List Int) × (List Int) × (List (YK × Int)) × (List YN) × (List XN) × (List (XK × Int)))) (r : (Bool × (List YN) × (List XN) × (List (YK × Int)) × (List (XK × Int)))) => ∀ (rest0 : (List YN)) (k0 : Nat) (t5_0 : (List Int)) (t6_0 : (List Int)) (m3_0 : (List (YK × Int))) (b0_0 : (List YN)) (b0_1 : (List XN)) (b4 : (List (XK × Int))), (rest0, k0, t5_0, t6_0, m3_0, b0_0, b0_1, b4) = p → M_hash_table_addTypes_io_l0 rest0 k0 t5_0 t6_0 m3_0 b0_0 b0_1 b4 r) (fun (p : ((List YN) × (List XN) × (List (XK × Int)) × Nat × (List (YK × Int)) × (List YN) × (List Int) × (List Int) × YN)) (r : (Bool × (List YN) × (List XN) × (List (YK × Int)) × (List (XK × Int)))) => ∀ (b0_0 : (List YN)) (b0_1 : (List XN)) (b4 : (List (XK × Int))) (k0 : Nat) (m3_0 : (List (YK × Int))) (rest0 : (List YN)) (t5_0 : (List Int)) (t6_0 : (List Int)) (v24 : YN), (b0_0, b0_1, b4, k0, m3_0, rest0, t5_0, t6_0, v24) = p → M_hash_table_addTypes_io_j0 b0_0 b0_1 b4 k0 m3_0 rest0 t5_0 t6_0 v24 r) ?_ ?_
  · intro f_hash_table_addTypes_io_j0 ih_hash_table_addTypes_io_j0 p r e rest0 k0 t5_0 t6_0 m3_0 b0_0 b0_1 b4 hp
    subst hp
    intro a1 hd0
    refine RunsL.len_tmp 14 rfl fun hlenk0 => ?_
    refine RunsL.of_awp (js := [8]) T_ok ?_; conv => whnf
    have hls := YN.Ds_len a1
    cases rest0 with
    | nil =>
      have hk := drop_nil hd0
      refine ⟨⟨fun h => absurd h (by omega), fun _ => ?_⟩⟩; conv => whnf
      obtain rfl := sm e
      refine ⟨[0, 1, 2, 3, 4], ⟨rfl, rfl, rfl⟩, rfl, ⟨⟨_, rfl, ⟨⟨?_, ?_, rfl, rfl, trivial⟩, rfl⟩⟩, ⟨_, rfl, ?_⟩, ⟨_, rfl, ?_⟩, ⟨_, rfl, rfl⟩, ⟨_, rfl, rfl⟩, trivial⟩⟩
      repeat' first | exact rfl | refine ⟨?_, ?_⟩
    | cons v24 rest0 =>
      obtain ⟨hxv24, hd0, hltv24⟩ := drop_head hd0
      refine ⟨⟨fun _ => ?_, fun h => absurd (by omega) h⟩⟩; conv => whnf
      refine ⟨k0, _, rfl, YN.Ds_get hxv24, ?_⟩; conv => whnf
      refine ⟨YN.Ds_fit _ rfl rfl, ?_⟩; conv => whnf
      refine ⟨⟨fun h25 => ?_, fun h25 => ?_⟩⟩
      · replace e := ifp h25 e; conv => whnf
        obtain rfl := sm e
        refine ⟨[0, 1, 2, 3, 4], ⟨rfl, rfl, rfl⟩, rfl, ⟨⟨_, rfl, ⟨⟨?_, ?_, rfl, rfl, trivial⟩, rfl⟩⟩, ⟨_, rfl, ?_⟩, ⟨_, rfl, ?_⟩, ⟨_, rfl, rfl⟩, ⟨_, rfl, rfl⟩, trivial⟩⟩
        repeat' first | exact rfl | refine ⟨?_, ?_⟩
      · replace e := ifn h25 e; conv => whnf
        refine brK.split (fun hb26 => ?_) (fun hb26 => ?_)
        · replace e := ifpb hb26 e; conv => whnf
          refine brK.tt hb26 ?_; conv => whnf
          refine brK.tt hb26 ?_; conv => whnf
          refine brK.tt hb26 ?_; conv => whnf
          refine ⟨⟨fun h27 => ?_, fun h27 => ?_⟩⟩
          · replace e := ifp h27 e; conv => whnf
            refine brK.tt hb26 ?_; conv => whnf
            obtain rfl := sm e
            refine ⟨[0, 1, 2, 3, 4], ⟨rfl, rfl, rfl⟩, rfl, ⟨⟨_, rfl, ⟨⟨?_, ?_, rfl, rfl, trivial⟩, rfl⟩⟩, ⟨_, rfl, ?_⟩, ⟨_, rfl, ?_⟩, ⟨_, rfl, rfl⟩, ⟨_, rfl, rfl⟩, trivial⟩⟩
            repeat' first | exact rfl | refine ⟨?_, ?_⟩
          · replace e := ifn h27 e; conv => whnf
            refine brK.tt hb26 ?_; conv => whnf
            obtain ⟨v28, qv28, e⟩ := bnd e
            refine said_pure (P_types_Check qv28) rfl ?_; conv => whnf
            refine ⟨⟨fun h29 => ?_, fun h29 => ?_⟩⟩
            · replace e := ifp h29 e; conv => whnf
              obtain rfl := sm e
              refine ⟨[0, 1, 2, 3, 4], ⟨rfl, rfl, rfl⟩, rfl, ⟨⟨_, rfl, ⟨⟨?_, ?_, rfl, rfl, trivial⟩, rfl⟩⟩, ⟨_, rfl, ?_⟩, ⟨_, rfl, ?_⟩, ⟨_, rfl, rfl⟩, ⟨_, rfl, rfl⟩, trivial⟩⟩
              repeat' first | exact rfl | refine ⟨?_, ?_⟩
            · replace e := ifn h29 e; conv => whnf
              obtain ⟨v30, qv30, e⟩ := bnd e
              refine said_pure (P_hash_below qv30) rfl ?_; conv => whnf
              refine brK.nsplit (fun hb31 => ?_) (fun hb31 => ?_)
              · replace e := ifpb hb31 e; conv => whnf
                refine Runs.weak ((ih_hash_table_addTypes_io_j0 _ _ e _ _ _ _ _ _ _ _ _ rfl) a1 hxv24 hd0 hltv24 hlenk0) ?_
                repeat' first | exact wk.of_eq rfl | exact rfl | exact trivial | refine ⟨?_, ?_⟩
              · replace e := ifnb hb31 e; conv => whnf
                obtain rfl := sm e
                refine ⟨[0, 1, 2, 3, 4], ⟨rfl, rfl, rfl⟩, rfl, ⟨⟨_, rfl, ⟨⟨?_, ?_, rfl, rfl, trivial⟩, rfl⟩⟩, ⟨_, rfl, ?_⟩, ⟨_, rfl, ?_⟩, ⟨_, rfl, rfl⟩, ⟨_, rfl, rfl⟩, trivial⟩⟩
                repeat' first | exact rfl | refine ⟨?_, ?_⟩
        · replace e := ifnb hb26 e; conv => whnf
          refine brK.ff hb26 ?_; conv => whnf
          refine brK.ff hb26 ?_; conv => whnf
          refine brK.ff hb26 ?_; conv => whnf
          refine brK.ff hb26 ?_; conv => whnf
          obtain ⟨v27, qv27, e⟩ := bnd e
          refine said_pure (P_types_Check qv27) rfl ?_; conv => whnf
          refine ⟨⟨fun h28 => ?_, fun h28 => ?_⟩⟩
          · replace e := ifp h28 e; conv => whnf
            obtain rfl := sm e
            refine ⟨[0, 1, 2, 3, 4], ⟨rfl, rfl, rfl⟩, rfl, ⟨⟨_, rfl, ⟨⟨?_, ?_, rfl, rfl, trivial⟩, rfl⟩⟩, ⟨_, rfl, ?_⟩, ⟨_, rfl, ?_⟩, ⟨_, rfl, rfl⟩, ⟨_, rfl, rfl⟩, trivial⟩⟩
            repeat' first | exact rfl | refine ⟨?_, ?_⟩
          · replace e := ifn h28 e; conv => whnf
            obtain ⟨v29, qv29, e⟩ := bnd e
            refine said_pure (P_hash_below qv29) rfl ?_; conv => whnf
            refine brK.nsplit (fun hb30 => ?_) (fun hb30 => ?_)
            · replace e := ifpb hb30 e; conv => whnf
              refine Runs.weak ((ih_hash_table_addTypes_io_j0 _ _ e _ _ _ _ _ _ _ _ _ rfl) a1 hxv24 hd0 hltv24 hlenk0) ?_
              repeat' first | exact wk.of_eq rfl | exact rfl | exact trivial | refine ⟨?_, ?_⟩
            · replace e := ifnb hb30 e; conv => whnf
              obtain rfl := sm e
              refine ⟨[0, 1, 2, 3, 4], ⟨rfl, rfl, rfl⟩, rfl, ⟨⟨_, rfl, ⟨⟨?_, ?_, rfl, rfl, trivial⟩, rfl⟩⟩, ⟨_, rfl, ?_⟩, ⟨_, rfl, ?_⟩, ⟨_, rfl, rfl⟩, ⟨_, rfl, rfl⟩, trivial⟩⟩
              repeat' first | exact rfl | refine ⟨?_, ?_⟩
  · intro f_hash_table_addTypes_io_l0 ih_hash_table_addTypes_io_l0 p r e b0_0 b0_1 b4 k0 m3_0 rest0 t5_0 t6_0 v24 hp
    subst hp
    intro a1 hxv24 hd0 hltv24 hlenk0
    have hlsv24 := YN.Ds_len a1
    refine Runs.enter T_ok ?_; conv => whnf
    obtain ⟨v32, qv32, e⟩ := bnd e
    first | (refine said_pure (P_hash_measure qv32) rfl ?_) | (refine said_pure2 (P_hash_measure qv32) rfl (by simp [YN.Ds_all, ia, YN.D, Arr8_i64.D, YK.D, listAll] <;> (repeat' first | rfl | apply And.intro)) ?_)
    (conv => whnf)
    refine ⟨⟨fun h33 => ?_, fun h33 => ?_⟩⟩
    · replace e := ifp h33 e; conv => whnf
      obtain rfl := sm e
      refine ⟨[0, 1, 2, 3, 4], ⟨rfl, rfl, rfl⟩, rfl, ⟨⟨_, rfl, ⟨⟨?_, ?_, rfl, rfl, trivial⟩, rfl⟩⟩, ⟨_, rfl, ?_⟩, ⟨_, rfl, ?_⟩, ⟨_, rfl, rfl⟩, ⟨_, rfl, rfl⟩, trivial⟩⟩
      repeat' first | exact rfl | refine ⟨?_, ?_⟩
    · replace e := ifn h33 e; conv => whnf
      refine ⟨⟨fun h34 => ?_, fun h34 => ?_⟩⟩
      · replace e := ifp h34 e; conv => whnf
        obtain rfl := sm e
        refine ⟨[0, 1, 2, 3, 4], ⟨rfl, rfl, rfl⟩, rfl, ⟨⟨_, rfl, ⟨⟨?_, ?_, rfl, rfl, trivial⟩, rfl⟩⟩, ⟨_, rfl, ?_⟩, ⟨_, rfl, ?_⟩, ⟨_, rfl, rfl⟩, ⟨_, rfl, rfl⟩, trivial⟩⟩
        repeat' first | exact rfl | refine ⟨?_, ?_⟩
      · replace e := ifn h34 e; conv => whnf
        refine ⟨⟨⟨rfl, rfl⟩, trivial⟩, ?_⟩; conv => whnf
        obtain ⟨v35, qv35, e⟩ := bnd e
        obtain ⟨qv35l, qv35e⟩ := app_some qv35
        refine ⟨(by simpa [YN.Ds_all, ia, YN.D, Arr8_i64.D, YK.D, listAll] using qv35l), rfl, (by rfl), ?_⟩; conv => whnf
        refine ⟨⟨⟨rfl, rfl⟩, trivial⟩, ?_⟩; conv => whnf
        obtain ⟨v36, qv36, e⟩ := bnd e
        obtain ⟨qv36l, qv36e⟩ := app_some qv36
        refine ⟨(by simpa [YN.Ds_all, ia, YN.D, Arr8_i64.D, YK.D, listAll] using qv36l), rfl, (by rfl), ?_⟩; conv => whnf
        refine draw_rule [] T_ok mixed hash_table_addTypes_io_pl12 (by decide +kernel) ?_; conv => whnf
        obtain ⟨v37, qv37, e⟩ := bnd e
        refine said_pure (P_hash_keyType qv37) rfl ⟨Keeps.refl _ _, ?_⟩; conv => whnf
        refine mlook_of KF_127 (fun v38 hv38 => ?_) (fun hv38 => ?_)
        · rw [hv38] at e; conv => whnf
          obtain rfl := sm e
          refine ⟨[0, 1, 2, 3, 4], ⟨rfl, rfl, rfl⟩, rfl, ⟨⟨_, rfl, ⟨⟨?_, ?_, rfl, rfl, trivial⟩, rfl⟩⟩, ⟨_, rfl, ?_⟩, ⟨_, rfl, ?_⟩, ⟨_, rfl, rfl⟩, ⟨_, rfl, rfl⟩, trivial⟩⟩
          repeat' first | exact rfl | refine ⟨?_, ?_⟩
        · rw [hv38] at e; conv => whnf
          refine draw_rule [] T_ok mixed hash_table_addTypes_io_pl15 (by decide +kernel) ?_; conv => whnf
          obtain ⟨v39, qv39, e⟩ := bnd e
          refine said_pure (P_hash_keyType qv39) rfl ⟨Keeps.refl _ _, ?_⟩; conv => whnf
          obtain ⟨v40, qv40, e⟩ := bnd e
          refine mupd_of KF_127 (sm qv40) ?_; conv => whnf
          refine ⟨((k0 + 1 : Nat) : Int), wrap64e (by omega) (by omega) (by omega), ?_⟩; conv => whnf
          refine (RunsL.weak ((ih_hash_table_addTypes_io_l0 _ _ e _ _ _ _ _ _ _ _ rfl) a1 hd0) ?_)
          repeat' first | exact wk.of_eq rfl | exact rfl | exact trivial | refine ⟨?_, ?_⟩ | (refine wk.of_eq ?_; (conv => lhs; whnf); (simp [YN.Ds_all, ia, YN.D, Arr8_i64.D, YK.D, listAll, qv35e, qv36e] <;> (repeat' first | rfl | apply And.intro)); done) | ((simp [YN.Ds_all, ia, YN.D, Arr8_i64.D, YK.D, listAll, qv35e, qv36e] <;> (repeat' first | rfl | apply And.intro)); done)
theorem P_hash_table_addTypes_io_l0 {rest0 : (List YN)} {k0 : Nat} {t5_0 : (List Int)} {t6_0 : (List Int)} {m3_0 : (List (YK × Int))} {b0_0 : (List YN)} {b0_1 : (List XN)} {b4 : (List (XK × Int))} {r : (Bool × (List YN) × (List XN) × (List (YK × Int)) × (List (XK × Int)))} (e : hash_table_addTypes_io_l0 rest0 k0 t5_0 t6_0 m3_0 b0_0 b0_1 b4 = some r) : M_hash_table_addTypes_io_l0 rest0 k0 t5_0 t6_0 m3_0 b0_0 b0_1 b4 r := G_hash_table_addTypes_io_l0.1 _ _ e _ _ _ _ _ _ _ _ rfl
theorem P_hash_table_addTypes_io {a1 : (List YN)} {b0_0 : (List YN)} {b0_1 : (List XN)} {b3 : (List (YK × Int))} {b4 : (List (XK × Int))} {r : (Bool × (List YN) × (List XN) × (List (YK × Int)) × (List (XK × Int)))} (e : hash_table_addTypes_io a1 b0_0 b0_1 b3 b4 = some r) : IoR Try.prog 82 [.ptr 0 0 0, .d (.slice 3 (YN.Ds a1))] [.cells [.own 0 1 3 (YN.Ds b0_0), .own 0 2 5 (XN.Ds b0_1), .map 0 3, .map 0 4], .grow 3 (YN.Ds b0_0).length, .grow 5 (XN.Ds b0_1).length, .map (mapD YK.D (D.int .i64) b3), .map (mapD XK.D (D.int .i64) b4)] (.d (.bool r.1)) ([.cells [.own 0 1 3 (YN.Ds r.2.1), .own 0 2 5 (XN.Ds r.2.2.1), .map 0 3, .map 0 4], .grow 3 (YN.Ds r.2.1).length, .grow 5 (XN.Ds r.2.2.1).length, .map (mapD YK.D (D.int .i64) r.2.2.2.1), .map (mapD XK.D (D.int .i64) r.2.2.2.2)]) := by
  unfold hash_table_addTypes_io at e
  refine io_of_awp2 (js := [8]) T_ok Try.func82 rfl (by decide +kernel) rfl ?_; conv => whnf
  refine Runs.hold 1 ?_
  refine Runs.hold 1 ?_
  refine RunsL.runs (RunsL.weak ((P_hash_table_addTypes_io_l0 e) a1 (by simp)) ?_)
  repeat' first | exact wk.of_eq rfl | exact wk.hold _ _ _ | exact rfl | exact trivial | refine ⟨?_, ?_⟩
theorem P_types_Bool {r : Ty} (e : types_Bool = some r) : Pure Try.prog 79 [] (Ty.D r) := by
  unfold types_Bool at e
  refine pure_of_awp (js := []) T_ok Try.func79 rfl (by decide +kernel) rfl ?_; conv => whnf
  obtain rfl := sm e
  repeat' first | exact rfl | exact trivial | refine ⟨?_, ?_⟩
theorem P_terms_named {a0 : ByteArray} {r : Bool} (e : terms_named a0 = some r) : Pure Try.prog 119 [(.str a0)] (.bool r) := by
  unfold terms_named at e
  refine pure_of_awp (js := []) T_ok Try.func119 rfl (by decide +kernel) rfl ?_; conv => whnf
  obtain ⟨v1, qv1, e⟩ := bnd e
  refine said_pure (P_types_Check qv1) rfl ?_; conv => whnf
  refine test.dec ?_; conv => whnf
  obtain rfl := sm e
  exact rfl
def M_types_Twin (a0 : Ty) (r : Ty) : Prop := Pure Try.prog 101 [(Ty.D a0)] (Ty.D r)
def M_types_Twin_j0 (a0 : Ty) (v2 : (List Ty)) (r : Ty) : Prop := ∀ (nv2 : Nat) (hlv2 : v2.length = nv2), JoinAt T Try.prog Try.f101 Fx0 [5] [1, 1, 1, 1, 0, 0] (EP T Try.f101 (Ty.D r)) [(1, .ptr 0 0 0), (2, .ptr 0 1 0), (3, .d (.slice 3 (Ty.Ds a0.args)))] [[.cells [.d (.bool a0.v), .d (.str a0.name), .arr 0 2 0 nv2 3], .cells [.d (.bool false), .d (.str ByteArray.empty), .nil 3], .arr 3 (Ty.Ds v2)]]
def M_types_Twin_l0 (t18_0 : Int) (a2_0 : (List Ty)) (a0 : Ty) (r : Ty) : Prop := ∀ (nv2 : Nat) (hla2_0 : a2_0.length = nv2), LoopAt T Try.prog Try.f101 Fx0 [5] [1, 1, 1, 1, 0, 1, 0] (EP T Try.f101 (Ty.D r)) [(1, .ptr 0 0 0), (2, .ptr 0 1 0), (16, .d (.slice 3 (Ty.Ds a0.args))), (17, .d (.int .i64 ((Ty.Ds a0.args).length : Int))), (18, .d (.int .i64 t18_0))] [[.cells [.d (.bool a0.v), .d (.str a0.name), .arr 0 2 0 nv2 3], .cells [.d (.bool false), .d (.str ByteArray.empty), .nil 3], .arr 3 (Ty.Ds a2_0)]]
def M_types_Twin_j0b (a0 : Ty) (r : Ty) : Prop := JoinAt T Try.prog Try.f101 Fx0 [5] [1, 1, 1, 1, 0, 0] (EP T Try.f101 (Ty.D r)) [(1, .ptr 0 0 0), (2, .ptr 0 1 0), (3, .d (.slice 3 (Ty.Ds a0.args)))] [[.cells [.d (.bool a0.v), .d (.str a0.name), .nil 3], .cells [.d (.bool false), .d (.str ByteArray.empty), .nil 3]]]
def M_types_Twin_l0b (a0 : Ty) (r : Ty) : Prop := LoopAt T Try.prog Try.f101 Fx0 [5] [1, 1, 1, 1, 0, 1, 0] (EP T Try.f101 (Ty.D r)) [(1, .ptr 0 0 0), (2, .ptr 0 1 0), (16, .d (.slice 3 (Ty.Ds a0.args))), (17, .d (.int .i64 ((Ty.Ds a0.args).length : Int))), (18, .d (.int .i64 0))] [[.cells [.d (.bool a0.v), .d (.str a0.name), .nil 3], .cells [.d (.bool false), .d (.str ByteArray.empty), .nil 3]]]
theorem G_types_Twin : (∀ p r, types_Twin' p = some r → ∀ a0, a0 = p → M_types_Twin a0 r) ∧
    (∀ p r, types_Twin_j0b' p = some r → ∀ a0, a0 = p → M_types_Twin_j0b a0 r) ∧
    (∀ p r, types_Twin_l0b' p = some r → ∀ a0, a0 = p → M_types_Twin_l0b a0 r) ∧
    (∀ p r, types_Twin_j0' p = some r → ∀ a0 v2, (a0, v2) = p → M_types_Twin_j0 a0 v2 r) ∧
    (∀ p r, types_Twin_l0' p = some r → ∀ t18_0 a2_0 a0, (t18_0, a2_0, a0) = p → M_types_Twin_l0 t18_0 a2_0 a0 r) := by
  refine types_Twin'.mutual_partial_correctness (fun (p : Ty) (r : Ty) => ∀ (a0 : Ty), a0 = p → M_types_Twin a0 r) (fun (p : Ty) (r : Ty) => ∀ (a0 : Ty), a0 = p → M_types_Twin_j0b a0 r) (fun (p : Ty) (r : Ty) => ∀ (a0 : Ty), a0 = p → M_types_Twin_l0b a0 r) (fun (p : (Ty × (List Ty))) (r : Ty) => ∀ (a0 : Ty) (v2 : (List Ty)), (a0, v2) = p → M_types_Twin_j0 a0 v2 r) (fun (p : (Int × (List Ty) × Ty)) (r : Ty) => ∀ (t18_0 : Int) (a2_0 : (List Ty)) (a0 : Ty), (t18_0, a2_0, a0) = p → M_types_Twin_l0 t18_0 a2_0 a0 r) ?_ ?_ ?_ ?_ ?_
  · intro f_types_Twin_j0b f_types_Twin_j0 ih_types_Twin_j0b ih_types_Twin_j0 p r e a0 hp
    subst hp
    refine pure_of_awp (js := [5]) T_ok Try.func101 rfl (by decide +kernel) rfl ?_; conv => whnf
    refine ⟨⟨fun h1 => ?_, fun h1 => ?_⟩⟩
    · replace e := ifp h1 e; conv => whnf
      obtain ⟨v2, qv2, e⟩ := bnd e
      obtain ⟨nv2, qv2a, qv2b, qv2c⟩ := mkn_some qv2
      have hlv2 : v2.length = nv2 := by rw [qv2c]; simp
      refine ⟨nv2, nv2, congrArg (fun z => AV.d (D.int .i64 z)) qv2a, congrArg (fun z => AV.d (D.int .i64 z)) qv2a, Nat.le_refl _, qv2b, .inr (.inl ⟨rfl, ?_⟩)⟩; conv => whnf
      refine Runs.weak ((ih_types_Twin_j0 _ _ e _ _ rfl) nv2 hlv2) ?_
      repeat' first | exact wk.of_eq rfl | exact rfl | exact trivial | refine ⟨?_, ?_⟩ | ((simp [Ty.Ds_all, Ty.D, listAll, qv2c, hlv2] <;> (repeat' first | rfl | apply And.intro)); done)
    · replace e := ifn h1 e; conv => whnf
      refine Runs.weak (ih_types_Twin_j0b _ _ e _ rfl) ?_
      repeat' first | exact wk.of_eq rfl | exact rfl | exact trivial | refine ⟨?_, ?_⟩
  · intro f_types_Twin_l0b ih_types_Twin_l0b p r e a0 hp
    subst hp
    refine Runs.enter T_ok ?_; conv => whnf
    refine RunsL.runs (RunsL.weak (ih_types_Twin_l0b _ _ e _ rfl) ?_)
    repeat' first | exact wk.of_eq rfl | exact rfl | exact trivial | refine ⟨?_, ?_⟩
  · intro f_types_Twin ih_types_Twin p r e a0 hp
    subst hp
    refine RunsL.of_awp (js := [5]) T_ok ?_; conv => whnf
    refine ⟨⟨fun h19 => ?_, fun h19 => ?_⟩⟩
    · replace e := ifp h19 e; conv => whnf
      obtain ⟨v20, qv20, e⟩ := bnd e
      obtain ⟨qv20k, qv20a, qv20b⟩ := geti_some qv20
      refine ⟨qv20k, _, qv20a, Ty.Ds_get qv20b, ?_⟩; conv => whnf
      refine ⟨Ty.Ds_fit _ rfl rfl, ?_⟩; conv => whnf
      refine draw_rule [] T_ok mixed types_Twin_pl8 (by decide +kernel) ?_; conv => whnf
      obtain ⟨v21, qv21, e⟩ := bnd e
      refine said_pure (ih_types_Twin _ _ qv21 _ rfl) rfl ⟨Keeps.refl _ _, ?_⟩; conv => whnf
      cases e
    · replace e := ifn h19 e; conv => whnf
      obtain rfl := sm e
      repeat' first | exact rfl | exact trivial | refine ⟨?_, ?_⟩
  · intro f_types_Twin_l0 ih_types_Twin_l0 p r e a0 v2 hp
    subst hp
    intro nv2 hlv2
    refine Runs.enter T_ok ?_; conv => whnf
    refine RunsL.runs (RunsL.weak ((ih_types_Twin_l0 _ _ e _ _ _ rfl) nv2 hlv2) ?_)
    repeat' first | exact wk.of_eq rfl | exact rfl | exact trivial | refine ⟨?_, ?_⟩
  · intro f_types_Twin f_types_Twin_l0 ih_types_Twin ih_types_Twin_l0 p r e t18_0 a2_0 a0 hp
    subst hp
    intro nv2 hla2_0
    refine RunsL.of_awp (js := [5]) T_ok ?_; conv => whnf
    refine ⟨⟨fun h19 => ?_, fun h19 => ?_⟩⟩
    · replace e := ifp h19 e; conv => whnf
      obtain ⟨v20, qv20, e⟩ := bnd e
      obtain ⟨qv20k, qv20a, qv20b⟩ := geti_some qv20
      refine ⟨qv20k, _, qv20a, Ty.Ds_get qv20b, ?_⟩; conv => whnf
      refine ⟨Ty.Ds_fit _ rfl rfl, ?_⟩; conv => whnf
      refine draw_rule [] T_ok mixed types_Twin_pl8 (by decide +kernel) ?_; conv => whnf
      obtain ⟨v21, qv21, e⟩ := bnd e
      refine said_pure (ih_types_Twin _ _ qv21 _ rfl) rfl ⟨Keeps.refl _ _, ?_⟩; conv => whnf
      obtain ⟨g23, qg23, e⟩ := bnd e
      obtain ⟨k22, k22a⟩ : ∃ k22 : Nat, t18_0 = k22 := ⟨(t18_0).toNat, by have := wantb_some qg23; omega⟩
      refine ⟨k22, k22a, by have := wantb_some qg23; omega, ?_⟩; simp only [Nat.zero_add]; conv => whnf
      obtain ⟨v24, qv24, e⟩ := bnd e
      obtain ⟨qv24k, qv24a, qv24b, qv24c⟩ := seti_some qv24
      obtain rfl : k22 = qv24k := by omega
      have hlv24 : v24.length = nv2 := by rw [qv24c]; simp [hla2_0]
      refine .inl ⟨rfl, (by simpa [Ty.Ds_all, Ty.D, listAll, hla2_0] using qv24b), Ty.Ds_fit _ rfl rfl, rfl, ?_⟩
      (conv => whnf)
      obtain ⟨v25, qv25, e⟩ := bnd e
      refine ⟨v25, sm qv25, ?_⟩; conv => whnf
      refine (RunsL.weak ((ih_types_Twin_l0 _ _ e _ _ _ rfl) nv2 hlv24) ?_)
      repeat' first | exact wk.of_eq rfl | exact rfl | exact trivial | refine ⟨?_, ?_⟩ | ((simp [Ty.Ds_all, Ty.D, listAll, qv24c, hlv24] <;> (repeat' first | rfl | apply And.intro)); done)
    · replace e := ifn h19 e; conv => whnf
      obtain rfl := sm e
      repeat' first | exact rfl | exact trivial | exact ⟨_, rfl, (by first | exact rfl | (simp [Ty.Ds_all, Ty.D, listAll, hla2_0] <;> (repeat' first | rfl | apply And.intro))), (by first | exact rfl | (simp [Ty.Ds_all, Ty.D, listAll, hla2_0] <;> (repeat' first | rfl | apply And.intro)))⟩ | refine ⟨?_, ?_⟩
theorem P_types_Twin {a0 : Ty} {r : Ty} (e : types_Twin a0 = some r) : M_types_Twin a0 r := G_types_Twin.1 _ _ e _ rfl
theorem P_terms_leaf {a0 : Int} {a1 : ByteArray} {a2 : Ty} {r : (Tm × Int)} (e : terms_leaf a0 a1 a2 = some r) : Pure Try.prog 124 [(.int .u8 a0), (.str a1), (Ty.D a2)] (.tuple [(Tm.D r.1), (.int .i64 r.2)]) := by
  unfold terms_leaf at e
  refine pure_of_awp (js := []) T_ok Try.func124 rfl (by decide +kernel) rfl ?_; conv => whnf
  obtain ⟨v1, qv1, e⟩ := bnd e
  refine said_pure (P_types_Check qv1) rfl ?_; conv => whnf
  refine ⟨⟨fun h2 => ?_, fun h2 => ?_⟩⟩
  · replace e := ifp h2 e; conv => whnf
    obtain rfl := sm e
    repeat' first | exact rfl | exact trivial | refine ⟨?_, ?_⟩
  · replace e := ifn h2 e; conv => whnf
    obtain ⟨v3, qv3, e⟩ := bnd e
    refine said_pure (P_terms_named qv3) rfl ?_; conv => whnf
    refine brK.nsplit (fun hb4 => ?_) (fun hb4 => ?_)
    · replace e := ifpb hb4 e; conv => whnf
      obtain ⟨v5, qv5, e⟩ := bnd e
      refine said_pure (P_types_Twin qv5) rfl ?_; conv => whnf
      obtain rfl := sm e
      repeat' first | exact rfl | exact trivial | refine ⟨?_, ?_⟩
    · replace e := ifnb hb4 e; conv => whnf
      obtain rfl := sm e
      repeat' first | exact rfl | exact trivial | refine ⟨?_, ?_⟩
theorem P_terms_Var {a0 : ByteArray} {a1 : Ty} {r : (Tm × Int)} (e : terms_Var a0 a1 = some r) : Pure Try.prog 104 [(.str a0), (Ty.D a1)] (.tuple [(Tm.D r.1), (.int .i64 r.2)]) := by
  unfold terms_Var at e
  refine pure_of_awp (js := []) T_ok Try.func104 rfl (by decide +kernel) rfl ?_; conv => whnf
  obtain ⟨v1, qv1, e⟩ := bnd e
  refine said_pure (P_terms_leaf qv1) rfl ?_; conv => whnf
  obtain rfl := sm e
  repeat' first | exact rfl | exact trivial | refine ⟨?_, ?_⟩
theorem P_hash_fine_j2 {a0 : XN} {a2 : Int} {v21 : (Tm × Int)} {r : Bool} (e : hash_fine_j2 a0 a2 v21 = some r) : JoinAt T Try.prog Try.f83 Fx0 [2, 4, 11] [1, 1, 1, 1, 1, 1, 1, 1, 0] (EP T Try.f83 (.bool r)) [(2, .d (.int .i64 a2)), (3, .ptr 0 0 0), (12, .d (.int .i64 v21.2))] [[.cells [.d (.int .u8 a0.kind), .d (.str a0.name), .d (.int .i64 a0.type_), .d (.int .i64 a0.index), .d (.slice 1 (intDs_i64 a0.sub))]]] := by
  unfold hash_fine_j2 at e
  refine Runs.enter T_ok ?_; conv => whnf
  refine ⟨⟨fun h22 => ?_, fun h22 => ?_⟩⟩
  · replace e := ifp h22 e; conv => whnf
    refine ⟨⟨fun h23 => ?_, fun h23 => ?_⟩⟩
    · replace e := ifp h23 e; conv => whnf
      refine ⟨⟨fun h24 => ?_, fun h24 => ?_⟩⟩
      · replace e := ifp h24 e; conv => whnf
        refine test.dec ?_; conv => whnf
        obtain rfl := sm e
        exact rfl
      · replace e := ifn h24 e; conv => whnf
        obtain rfl := sm e
        exact rfl
    · replace e := ifn h23 e; conv => whnf
      obtain rfl := sm e
      exact rfl
  · replace e := ifn h22 e; conv => whnf
    obtain rfl := sm e
    exact rfl
theorem P_hash_fine_j1 {t9_1 : Int} {t10_1 : Bool} {a0 : XN} {a1 : Int} {a2 : Int} {t7_0 : Bool} {r : Bool} (e : hash_fine_j1 t9_1 t10_1 a0 a1 a2 t7_0 = some r) : JoinAt T Try.prog Try.f83 Fx0 [2, 4, 11] [1, 1, 1, 1, 0, 0] (EP T Try.f83 (.bool r)) [(1, .d (.int .i64 a1)), (2, .d (.int .i64 a2)), (3, .ptr 0 0 0), (7, .d (.bool t7_0)), (9, .d (.int .i64 t9_1)), (10, .d (.bool t10_1))] [[.cells [.d (.int .u8 a0.kind), .d (.str a0.name), .d (.int .i64 a0.type_), .d (.int .i64 a0.index), .d (.slice 1 (intDs_i64 a0.sub))]]] := by
  unfold hash_fine_j1 at e
  refine Runs.enter T_ok ?_; conv => whnf
  refine brK.nsplit (fun hb14 => ?_) (fun hb14 => ?_)
  · replace e := ifpb hb14 e; conv => whnf
    refine brK.ntt hb14 ?_; conv => whnf
    refine brK.ntt hb14 ?_; conv => whnf
    refine brK.ntt hb14 ?_; conv => whnf
    refine brK.ntt hb14 ?_; conv => whnf
    refine ⟨⟨fun h15 => ?_, fun h15 => ?_⟩⟩
    · replace e := ifp h15 e; conv => whnf
      refine brK.ntt hb14 ?_; conv => whnf
      obtain rfl := sm e
      exact rfl
    · replace e := ifn h15 e; conv => whnf
      refine brK.ntt hb14 ?_; conv => whnf
      obtain ⟨v16, qv16, e⟩ := bnd e
      refine said_pure (P_hash_below qv16) rfl ?_; conv => whnf
      refine brK.nsplit (fun hb17 => ?_) (fun hb17 => ?_)
      · replace e := ifpb hb17 e; conv => whnf
        refine ⟨⟨fun h18 => ?_, fun h18 => ?_⟩⟩
        · replace e := ifp h18 e; conv => whnf
          refine ⟨⟨fun h19 => ?_, fun h19 => ?_⟩⟩
          · replace e := ifp h19 e; conv => whnf
            refine ⟨⟨fun h20 => ?_, fun h20 => ?_⟩⟩
            · replace e := ifp h20 e; conv => whnf
              refine ⟨⟨fun h21 => ?_, fun h21 => ?_⟩⟩
              · replace e := ifp h21 e; conv => whnf
                refine test.dec ?_; conv => whnf
                obtain rfl := sm e
                exact rfl
              · replace e := ifn h21 e; conv => whnf
                obtain rfl := sm e
                exact rfl
            · replace e := ifn h20 e; conv => whnf
              obtain rfl := sm e
              exact rfl
          · replace e := ifn h19 e; conv => whnf
            obtain rfl := sm e
            exact rfl
        · replace e := ifn h18 e; conv => whnf
          refine brK.nsplit (fun hb19 => ?_) (fun hb19 => ?_)
          · replace e := ifpb hb19 e; conv => whnf
            refine draw_rule [] T_ok mixed hash_fine_pl10 (by decide +kernel) ?_; conv => whnf
            obtain ⟨v20, qv20, e⟩ := bnd e
            obtain ⟨v21, qv21, e⟩ := bnd e
            refine ⟨?_, ?_⟩
            · (conv => whnf)
              refine said_pure (P_types_Bool qv20) rfl ⟨Keeps.refl _ _, ?_⟩; conv => whnf
              refine ⟨?_, ?_⟩
              · (conv => whnf)
                refine said_pure (P_terms_Var qv21) rfl ⟨Keeps.refl _ _, ?_⟩; conv => whnf
                refine Runs.weak (P_hash_fine_j2 e) ?_
                repeat' first | exact wk.of_eq rfl | exact rfl | exact trivial | refine ⟨?_, ?_⟩
              · (conv => whnf)
                refine said_pure (P_terms_Var qv21) rfl ⟨Keeps.refl _ _, ?_⟩; conv => whnf
                refine Runs.weak (P_hash_fine_j2 e) ?_
                repeat' first | exact wk.of_eq rfl | exact rfl | exact trivial | refine ⟨?_, ?_⟩
            · (conv => whnf)
              refine said_pure (P_types_Bool qv20) rfl ⟨Keeps.refl _ _, ?_⟩; conv => whnf
              refine said_pure (P_terms_Var qv21) rfl ⟨Keeps.refl _ _, ?_⟩; conv => whnf
              refine Runs.weak (P_hash_fine_j2 e) ?_
              repeat' first | exact wk.of_eq rfl | exact rfl | exact trivial | refine ⟨?_, ?_⟩
          · replace e := ifnb hb19 e; conv => whnf
            refine ⟨⟨fun h20 => ?_, fun h20 => ?_⟩⟩
            · replace e := ifp h20 e; conv => whnf
              refine ⟨⟨fun h21 => ?_, fun h21 => ?_⟩⟩
              · replace e := ifp h21 e; conv => whnf
                refine test.dec ?_; conv => whnf
                obtain rfl := sm e
                exact rfl
              · replace e := ifn h21 e; conv => whnf
                obtain rfl := sm e
                exact rfl
            · replace e := ifn h20 e; conv => whnf
              obtain rfl := sm e
              exact rfl
      · replace e := ifnb hb17 e; conv => whnf
        obtain rfl := sm e
        exact rfl
  · replace e := ifnb hb14 e; conv => whnf
    refine brK.nff hb14 ?_; conv => whnf
    refine brK.nff hb14 ?_; conv => whnf
    refine brK.nff hb14 ?_; conv => whnf
    refine brK.nff hb14 ?_; conv => whnf
    refine brK.nff hb14 ?_; conv => whnf
    obtain rfl := sm e
    exact rfl
theorem P_hash_fine_j0 {t7_0 : Bool} {a0 : XN} {a1 : Int} {a2 : Int} {r : Bool} (e : hash_fine_j0 t7_0 a0 a1 a2 = some r) : JoinAt T Try.prog Try.f83 Fx0 [2, 4, 11] [1, 1, 0] (EP T Try.f83 (.bool r)) [(1, .d (.int .i64 a1)), (2, .d (.int .i64 a2)), (3, .ptr 0 0 0), (7, .d (.bool t7_0))] [[.cells [.d (.int .u8 a0.kind), .d (.str a0.name), .d (.int .i64 a0.type_), .d (.int .i64 a0.index), .d (.slice 1 (intDs_i64 a0.sub))]]] := by
  unfold hash_fine_j0 at e
  refine Runs.enter T_ok ?_; conv => whnf
  obtain ⟨v8, qv8, e⟩ := bnd e
  refine mupd_of KF_5 (sm qv8) ?_; conv => whnf
  obtain ⟨v9, qv9, e⟩ := bnd e
  refine mupd_of KF_5 (sm qv9) ?_; conv => whnf
  obtain ⟨v10, qv10, e⟩ := bnd e
  refine mupd_of KF_5 (sm qv10) ?_; conv => whnf
  obtain ⟨v11, qv11, e⟩ := bnd e
  refine mupd_of KF_5 (sm qv11) ?_; conv => whnf
  obtain ⟨v12, qv12, e⟩ := bnd e
  refine mupd_of KF_5 (sm qv12) ?_; conv => whnf
  refine mlook_of KF_5 (fun v13 hv13 => ?_) (fun hv13 => ?_)
  · rw [hv13] at e; conv => whnf
    refine Runs.weak (P_hash_fine_j1 e) ?_
    repeat' first | exact wk.of_eq rfl | exact rfl | exact trivial | refine ⟨?_, ?_⟩
  · rw [hv13] at e; conv => whnf
    refine Runs.weak (P_hash_fine_j1 e) ?_
    repeat' first | exact wk.of_eq rfl | exact rfl | exact trivial | refine ⟨?_, ?_⟩
theorem P_hash_fine {a0 : XN} {a1 : Int} {a2 : Int} {r : Bool} (e : hash_fine a0 a1 a2 = some r) : Pure Try.prog 83 [(XN.D a0), (.int .i64 a1), (.int .i64 a2)] (.bool r) := by
  unfold hash_fine at e
  refine pure_of_awp (js := [2, 4, 11]) T_ok Try.func83 rfl (by decide +kernel) rfl ?_; conv => whnf
  refine ⟨⟨fun h1 => ?_, fun h1 => ?_⟩⟩
  · replace e := ifp h1 e; conv => whnf
    refine ⟨⟨fun h2 => ?_, fun h2 => ?_⟩⟩
    · replace e := ifp h2 e; conv => whnf
      refine Runs.weak (P_hash_fine_j0 e) ?_
      repeat' first | exact wk.of_eq rfl | exact rfl | exact trivial | refine ⟨?_, ?_⟩
    · replace e := ifn h2 e; conv => whnf
      refine Runs.weak (P_hash_fine_j0 e) ?_
      repeat' first | exact wk.of_eq rfl | exact rfl | exact trivial | refine ⟨?_, ?_⟩
  · replace e := ifn h1 e; conv => whnf
    refine Runs.weak (P_hash_fine_j0 e) ?_
    repeat' first | exact wk.of_eq rfl | exact rfl | exact trivial | refine ⟨?_, ?_⟩
theorem P_hash_keyTerm_j1 {c2_5_1 : Int} {a0 : XN} {c2_1_0 : ByteArray} {r : XK} (e : hash_keyTerm_j1 c2_5_1 a0 c2_1_0 = some r) : JoinAt T Try.prog Try.f84 Fx0 [4, 6] [1, 1, 1, 1, 0, 0] (EP T Try.f84 (XK.D r)) [(1, .ptr 0 0 0), (2, .ptr 0 1 0), (3, .ptr 0 2 0)] [[.cells [.d (.int .u8 a0.kind), .d (.str a0.name), .d (.int .i64 a0.type_), .d (.int .i64 a0.index), .d (.slice 1 (intDs_i64 a0.sub))], .cells [.d (.int .u8 0), .d (.str ByteArray.empty), .d (.int .i64 0), .d (.int .i64 0), .d (.int .i64 0), .d (.int .i64 0), .d (.int .i64 0)], .cells [.d (.int .u8 a0.kind), .d (.str c2_1_0), .d (.int .i64 a0.type_), .d (.int .i64 a0.index), .d (.int .i64 ((intDs_i64 a0.sub).length : Int)), .d (.int .i64 c2_5_1), .d (.int .i64 0)]]] := by
  unfold hash_keyTerm_j1 at e
  refine Runs.enter T_ok ?_; conv => whnf
  refine ⟨⟨fun h6 => ?_, fun h6 => ?_⟩⟩
  · replace e := ifp h6 e; conv => whnf
    obtain ⟨v7, qv7, e⟩ := bnd e
    obtain ⟨qv7k, qv7a, qv7b⟩ := geti_some qv7
    refine ⟨qv7k, _, qv7a, intDs_i64_get qv7b, ?_⟩; conv => whnf
    refine ⟨intDs_i64_fit _ rfl rfl, ?_⟩; conv => whnf
    obtain rfl := sm e
    repeat' first | exact rfl | exact trivial | refine ⟨?_, ?_⟩
  · replace e := ifn h6 e; conv => whnf
    obtain rfl := sm e
    repeat' first | exact rfl | exact trivial | refine ⟨?_, ?_⟩
theorem P_hash_keyTerm_j0 {c2_1_0 : ByteArray} {a0 : XN} {r : XK} (e : hash_keyTerm_j0 c2_1_0 a0 = some r) : JoinAt T Try.prog Try.f84 Fx0 [4, 6] [1, 1, 1, 0, 0] (EP T Try.f84 (XK.D r)) [(1, .ptr 0 0 0), (2, .ptr 0 1 0), (3, .ptr 0 2 0)] [[.cells [.d (.int .u8 a0.kind), .d (.str a0.name), .d (.int .i64 a0.type_), .d (.int .i64 a0.index), .d (.slice 1 (intDs_i64 a0.sub))], .cells [.d (.int .u8 0), .d (.str ByteArray.empty), .d (.int .i64 0), .d (.int .i64 0), .d (.int .i64 0), .d (.int .i64 0), .d (.int .i64 0)], .cells [.d (.int .u8 a0.kind), .d (.str c2_1_0), .d (.int .i64 a0.type_), .d (.int .i64 a0.index), .d (.int .i64 ((intDs_i64 a0.sub).length : Int)), .d (.int .i64 0), .d (.int .i64 0)]]] := by
  unfold hash_keyTerm_j0 at e
  refine Runs.enter T_ok ?_; conv => whnf
  refine ⟨⟨fun h3 => ?_, fun h3 => ?_⟩⟩
  · replace e := ifp h3 e; conv => whnf
    obtain ⟨v4, qv4, e⟩ := bnd e
    obtain ⟨qv4k, qv4a, qv4b⟩ := geti_some qv4
    refine ⟨qv4k, _, qv4a, intDs_i64_get qv4b, ?_⟩; conv => whnf
    refine ⟨intDs_i64_fit _ rfl rfl, ?_⟩; conv => whnf
    refine Runs.weak (P_hash_keyTerm_j1 e) ?_
    repeat' first | exact wk.of_eq rfl | exact rfl | exact trivial | refine ⟨?_, ?_⟩
  · replace e := ifn h3 e; conv => whnf
    refine Runs.weak (P_hash_keyTerm_j1 e) ?_
    repeat' first | exact wk.of_eq rfl | exact rfl | exact trivial | refine ⟨?_, ?_⟩
theorem P_hash_keyTerm {a0 : XN} {r : XK} (e : hash_keyTerm a0 = some r) : Pure Try.prog 84 [(XN.D a0)] (XK.D r) := by
  unfold hash_keyTerm at e
  refine pure_of_awp (js := [4, 6]) T_ok Try.func84 rfl (by decide +kernel) rfl ?_; conv => whnf
  refine ⟨⟨fun h1 => ?_, fun h1 => ?_⟩⟩
  · replace e := ifp h1 e; conv => whnf
    refine Runs.weak (P_hash_keyTerm_j0 e) ?_
    repeat' first | exact wk.of_eq rfl | exact rfl | exact trivial | refine ⟨?_, ?_⟩
  · replace e := ifn h1 e; conv => whnf
    refine Runs.weak (P_hash_keyTerm_j0 e) ?_
    repeat' first | exact wk.of_eq rfl | exact rfl | exact trivial | refine ⟨?_, ?_⟩
def M_hash_open_io_l0 (rest0 : (List XN)) (k0 : Nat) (m4_0 : (List (XK × Int))) (a0 : AStore) (v4 : (Bool × (List YN) × (List XN) × (List (YK × Int)) × (List (XK × Int)))) (r : (Unit ⊕ (Unit ⊕ ((List YN) × (List XN) × (List (YK × Int)) × (List (XK × Int)))))) : Prop := ∀ (hd0 : rest0 = a0.terms.drop k0), LoopAt T Try.prog Try.f44 ⟨[], 0⟩ [] [1, 1, 1, 1, 0, 1, 0] (ES T Try.f44 0 ((Y_hash_open_io r)) ((L_hash_open_io r))) [(1, .ptr 0 0 0), (4, .ptr 0 5 0), (31, .d (.slice 5 (XN.Ds a0.terms))), (32, .d (.int .i64 ((XN.Ds a0.terms).length : Int))), (33, .d (.int .i64 (k0 : Int)))] [[.cells [.d (.slice 3 (YN.Ds a0.types)), .d (.slice 5 (XN.Ds a0.terms))], .grow 3 (YN.Ds v4.2.1).length, .grow 5 (XN.Ds v4.2.2.1).length, .map (mapD YK.D (D.int .i64) v4.2.2.2.1), .map (mapD XK.D (D.int .i64) m4_0), .cells [.own 0 1 3 (YN.Ds v4.2.1), .own 0 2 5 (XN.Ds v4.2.2.1), .map 0 3, .map 0 4]]]
theorem G_hash_open_io_l0 : (∀ p r, hash_open_io_l0' p = some r → ∀ rest0 k0 m4_0 a0 v4, (rest0, k0, m4_0, a0, v4) = p → M_hash_open_io_l0 rest0 k0 m4_0 a0 v4 r) := by
  refine hash_open_io_l0'.partial_correctness (fun (p : ((List XN) × Nat × (List (XK × Int)) × AStore × (Bool × (List YN) × (List XN) × (List (YK × Int)) × (List (XK × Int))))) (r : (Unit ⊕ (Unit ⊕ ((List YN) × (List XN) × (List (YK × Int)) × (List (XK × Int)))))) => ∀ (rest0 : (List XN)) (k0 : Nat) (m4_0 : (List (XK × Int))) (a0 : AStore) (v4 : (Bool × (List YN) × (List XN) × (List (YK × Int)) × (List (XK × Int)))), (rest0, k0, m4_0, a0, v4) = p → M_hash_open_io_l0 rest0 k0 m4_0 a0 v4 r) ?_
  · intro f_hash_open_io_l0 ih_hash_open_io_l0 p r e rest0 k0 m4_0 a0 v4 hp
    subst hp
    intro hd0
    refine RunsL.len_tmp 31 rfl fun hlenk0 => ?_
    refine RunsL.of_awp (js := []) T_ok ?_; conv => whnf
    have hls := XN.Ds_len a0.terms
    cases rest0 with
    | nil =>
      have hk := drop_nil hd0
      refine ⟨⟨fun h => absurd h (by omega), fun _ => ?_⟩⟩; conv => whnf
      obtain rfl := sm e
      refine ⟨[5, 1, 2, 3, 4], ⟨rfl, rfl, rfl⟩, ⟨⟨rfl, rfl⟩, rfl, trivial⟩, ⟨⟨_, rfl, ⟨⟨?_, ?_, rfl, rfl, trivial⟩, rfl⟩⟩, ⟨_, rfl, ?_⟩, ⟨_, rfl, ?_⟩, ⟨_, rfl, rfl⟩, ⟨_, rfl, rfl⟩, trivial⟩⟩
      repeat' first | exact rfl | refine ⟨?_, ?_⟩
    | cons v34 rest0 =>
      obtain ⟨hxv34, hd0, hltv34⟩ := drop_head hd0
      refine ⟨⟨fun _ => ?_, fun h => absurd (by omega) h⟩⟩; conv => whnf
      refine ⟨k0, _, rfl, XN.Ds_get hxv34, ?_⟩; conv => whnf
      refine ⟨XN.Ds_fit _ rfl rfl, ?_⟩; conv => whnf
      obtain ⟨v35, qv35, e⟩ := bnd e
      first | (refine said_pure (P_hash_fine qv35) rfl ?_) | (refine said_pure2 (P_hash_fine qv35) rfl (by simp [XN.Ds_all, YN.Ds_all, AStore.D, XN.D, YN.D, XK.D, listAll] <;> (repeat' first | rfl | apply And.intro)) ?_)
      (conv => whnf)
      refine brK.nsplit (fun hb36 => ?_) (fun hb36 => ?_)
      · replace e := ifpb hb36 e; conv => whnf
        refine draw_rule [] T_ok mixed hash_open_io_pl11 (by decide +kernel) ?_; conv => whnf
        obtain ⟨v37, qv37, e⟩ := bnd e
        refine said_pure (P_hash_keyTerm qv37) rfl ⟨Keeps.refl _ _, ?_⟩; conv => whnf
        refine mlook_of KF_121 (fun v38 hv38 => ?_) (fun hv38 => ?_)
        · rw [hv38] at e; conv => whnf
          obtain rfl := sm e
          refine ⟨[], ⟨rfl, rfl, rfl⟩, ⟨rfl, rfl, trivial⟩, trivial⟩
          repeat' first | exact rfl | exact trivial | refine ⟨?_, ?_⟩
        · rw [hv38] at e; conv => whnf
          refine draw_rule [] T_ok mixed hash_open_io_pl14 (by decide +kernel) ?_; conv => whnf
          obtain ⟨v39, qv39, e⟩ := bnd e
          refine said_pure (P_hash_keyTerm qv39) rfl ⟨Keeps.refl _ _, ?_⟩; conv => whnf
          obtain ⟨v40, qv40, e⟩ := bnd e
          refine mupd_of KF_121 (sm qv40) ?_; conv => whnf
          refine ⟨((k0 + 1 : Nat) : Int), wrap64e (by omega) (by omega) (by omega), ?_⟩; conv => whnf
          refine (RunsL.weak ((ih_hash_open_io_l0 _ _ e _ _ _ _ _ rfl) hd0) ?_)
          repeat' first | exact wk.of_eq rfl | exact rfl | exact trivial | refine ⟨?_, ?_⟩
      · replace e := ifnb hb36 e; conv => whnf
        obtain rfl := sm e
        refine ⟨[], ⟨rfl, rfl, rfl⟩, ⟨rfl, rfl, trivial⟩, trivial⟩
        repeat' first | exact rfl | exact trivial | refine ⟨?_, ?_⟩
theorem P_hash_open_io_l0 {rest0 : (List XN)} {k0 : Nat} {m4_0 : (List (XK × Int))} {a0 : AStore} {v4 : (Bool × (List YN) × (List XN) × (List (YK × Int)) × (List (XK × Int)))} {r : (Unit ⊕ (Unit ⊕ ((List YN) × (List XN) × (List (YK × Int)) × (List (XK × Int)))))} (e : hash_open_io_l0 rest0 k0 m4_0 a0 v4 = some r) : M_hash_open_io_l0 rest0 k0 m4_0 a0 v4 r := G_hash_open_io_l0 _ _ e _ _ _ _ _ rfl
theorem P_hash_open_io {a0 : AStore} {r : (Unit ⊕ (Unit ⊕ ((List YN) × (List XN) × (List (YK × Int)) × (List (XK × Int)))))} (e : hash_open_io a0 = some r) : IoR Try.prog 44 [.d (AStore.D a0)] [] ((Y_hash_open_io r)) ((L_hash_open_io r)) := by
  unfold hash_open_io at e
  refine io_of_awp2 (js := []) T_ok Try.func44 rfl (by decide +kernel) rfl ?_; conv => whnf
  refine ⟨⟨fun h1 => ?_, fun h1 => ?_⟩⟩
  · replace e := ifp h1 e; conv => whnf
    obtain rfl := sm e
    refine ⟨[], ⟨rfl, rfl, rfl⟩, ⟨rfl, rfl, trivial⟩, trivial⟩
    repeat' first | exact rfl | exact trivial | refine ⟨?_, ?_⟩
  · replace e := ifn h1 e; conv => whnf
    refine ⟨⟨fun h2 => ?_, fun h2 => ?_⟩⟩
    · replace e := ifp h2 e; conv => whnf
      obtain rfl := sm e
      refine ⟨[], ⟨rfl, rfl, rfl⟩, ⟨rfl, rfl, trivial⟩, trivial⟩
      repeat' first | exact rfl | exact trivial | refine ⟨?_, ?_⟩
    · replace e := ifn h2 e; conv => whnf
      obtain ⟨v3, qv3, e⟩ := bnd e
      refine said_iorF (P_hash_Twin_io qv3) [] [.d (AStore.D a0)] rfl ⟨wk.pure rfl, trivial⟩ rfl rfl ?_; conv => whnf
      obtain ⟨v4, qv4, e⟩ := bnd e
      first | (refine said_iorF (P_hash_table_addTypes_io qv4) [5, 1, 2, 3, 4] [.ptr 0 5 0, .d (.slice 3 (YN.Ds a0.types))] rfl ⟨wk.refl _, wk.pure rfl, trivial⟩ rfl rfl ?_) | (refine said_iorF2 (P_hash_table_addTypes_io qv4) [5, 1, 2, 3, 4] [.ptr 0 5 0, .d (.slice 3 (YN.Ds a0.types))] rfl ⟨wk.refl _, wk.pure rfl, trivial⟩ rfl rfl (by simp [XN.Ds_all, YN.Ds_all, AStore.D, XN.D, YN.D, XK.D, listAll] <;> (repeat' first | rfl | apply And.intro)) ?_)
      (conv => whnf)
      refine brK.nsplit (fun hb5 => ?_) (fun hb5 => ?_)
      · replace e := ifpb hb5 e; conv => whnf
        refine RunsL.runs (RunsL.weak ((P_hash_open_io_l0 e) (by simp)) ?_)
        repeat' first | exact wk.of_eq rfl | exact rfl | exact trivial | refine ⟨?_, ?_⟩
      · replace e := ifnb hb5 e; conv => whnf
        obtain rfl := sm e
        refine ⟨[], ⟨rfl, rfl, rfl⟩, ⟨rfl, rfl, trivial⟩, trivial⟩
        repeat' first | exact rfl | exact trivial | refine ⟨?_, ?_⟩
def M_hash_table_typ_io (a1 : Int) (b0_0 : (List YN)) (b0_1 : (List XN)) (b3 : (List (YK × Int))) (b4 : (List (XK × Int))) (r : (Ty × (List YN) × (List XN) × (List (YK × Int)) × (List (XK × Int)))) : Prop := IoR Try.prog 57 [.ptr 0 0 0, .d (.int .i64 a1)] [.cells [.own 0 1 3 (YN.Ds b0_0), .own 0 2 5 (XN.Ds b0_1), .map 0 3, .map 0 4], .grow 3 (YN.Ds b0_0).length, .grow 5 (XN.Ds b0_1).length, .map (mapD YK.D (D.int .i64) b3), .map (mapD XK.D (D.int .i64) b4)] (.d (Ty.D r.1)) ([.cells [.own 0 1 3 (YN.Ds r.2.1), .own 0 2 5 (XN.Ds r.2.2.1), .map 0 3, .map 0 4], .grow 3 (YN.Ds r.2.1).length, .grow 5 (XN.Ds r.2.2.1).length, .map (mapD YK.D (D.int .i64) r.2.2.2.1), .map (mapD XK.D (D.int .i64) r.2.2.2.2)])
def M_hash_table_typ_io_l0 (rest0 : (List Int)) (c0_0_0 : (List YN)) (c0_1_0 : (List XN)) (m3_0 : (List (YK × Int))) (m4_0 : (List (XK × Int))) (c7_2_0 : (List Ty)) (v1 : YN) (r : (Ty × (List YN) × (List XN) × (List (YK × Int)) × (List (XK × Int)))) : Prop := ∀ (k0 : Nat) (hd0 : rest0 = v1.args.drop k0), LoopAt T Try.prog Try.f57 ⟨[], 5⟩ [] [1, 1, 1, 0, 1, 0] (ES T Try.f57 5 (.d (Ty.D r.1)) ([.cells [.own 0 1 3 (YN.Ds r.2.1), .own 0 2 5 (XN.Ds r.2.2.1), .map 0 3, .map 0 4], .grow 3 (YN.Ds r.2.1).length, .grow 5 (XN.Ds r.2.2.1).length, .map (mapD YK.D (D.int .i64) r.2.2.2.1), .map (mapD XK.D (D.int .i64) r.2.2.2.2)])) [(0, .ptr 0 0 0), (4, .ptr 0 5 0), (6, .ptr 0 7 0), (23, .d (.slice 1 (intDs_i64 v1.args))), (24, .d (.int .i64 ((intDs_i64 v1.args).length : Int))), (25, .d (.int .i64 (k0 : Int)))] [[.cells [.own 0 1 3 (YN.Ds c0_0_0), .own 0 2 5 (XN.Ds c0_1_0), .map 0 3, .map 0 4], .grow 3 (YN.Ds c0_0_0).length, .grow 5 (XN.Ds c0_1_0).length, .map (mapD YK.D (D.int .i64) m3_0), .map (mapD XK.D (D.int .i64) m4_0), .cells [.d (.bool false), .d (.str ByteArray.empty), .nil 3], .cells [.d (.bool v1.var), .d (.str v1.name), .d (.slice 1 (intDs_i64 v1.args))], .cells [.d (.bool v1.var), .d (.str v1.name), .own 0 8 3 (Ty.Ds c7_2_0)], .grow 3 (Ty.Ds c7_2_0).length]]
theorem G_hash_table_typ_io : (∀ p r, hash_table_typ_io' p = some r → ∀ a1 b0_0 b0_1 b3 b4, (a1, b0_0, b0_1, b3, b4) = p → M_hash_table_typ_io a1 b0_0 b0_1 b3 b4 r) ∧
    (∀ p r, hash_table_typ_io_l0' p = some r → ∀ rest0 c0_0_0 c0_1_0 m3_0 m4_0 c7_2_0 v1, (rest0, c0_0_0, c0_1_0, m3_0, m4_0, c7_2_0, v1) = p → M_hash_table_typ_io_l0 rest0 c0_0_0 c0_1_0 m3_0 m4_0 c7_2_0 v1 r) := by
  refine hash_table_typ_io'.mutual_partial_correctness (fun (p : (Int × (List YN) × (List XN) × (List (YK × Int)) × (List (XK × Int)))) (r : (Ty × (List YN) × (List XN) × (List (YK × Int)) × (List (XK × Int)))) => ∀ (a1 : Int) (b0_0 : (List YN)) (b0_1 : (List XN)) (b3 : (List (YK × Int))) (b4 : (List (XK × Int))), (a1, b0_0, b0_1, b3, b4) = p → M_hash_table_typ_io a1 b0_0 b0_1 b3 b4 r) (fun (p : ((List Int) × (List YN) × (List XN) × (List (YK × Int)) × (List (XK × Int)) × (List Ty) × YN)) (r : (Ty × (List YN) × (List XN) × (List (YK × Int)) × (List (XK × Int)))) => ∀ (rest0 : (List Int)) (c0_0_0 : (List YN)) (c0_1_0 : (List XN)) (m3_0 : (List (YK × Int))) (m4_0 : (List (XK × Int))) (c7_2_0 : (List Ty)) (v1 : YN), (rest0, c0_0_0, c0_1_0, m3_0, m4_0, c7_2_0, v1) = p → M_hash_table_typ_io_l0 rest0 c0_0_0 c0_1_0 m3_0 m4_0 c7_2_0 v1 r) ?_ ?_
  · intro f_hash_table_typ_io_l0 ih_hash_table_typ_io_l0 p r e a1 b0_0 b0_1 b3 b4 hp
    subst hp
    refine io_of_awp2 (js := []) T_ok Try.func57 rfl (by decide +kernel) rfl ?_; conv => whnf
    obtain ⟨v1, qv1, e⟩ := bnd e
    obtain ⟨qv1k, qv1a, qv1b⟩ := geti_some qv1
    refine ⟨qv1k, _, qv1a, (YN.Ds_get qv1b), ?_⟩; conv => whnf
    refine ⟨YN.Ds_fit _ rfl rfl, ?_⟩; conv => whnf
    refine Runs.hold 3 ?_
    refine RunsL.runs (RunsL.weak ((ih_hash_table_typ_io_l0 _ _ e _ _ _ _ _ _ _ rfl) 0 (by simp)) ?_)
    repeat' first | exact wk.of_eq rfl | exact wk.hold _ _ _ | exact rfl | exact trivial | refine ⟨?_, ?_⟩
  · intro f_hash_table_typ_io f_hash_table_typ_io_l0 ih_hash_table_typ_io ih_hash_table_typ_io_l0 p r e rest0 c0_0_0 c0_1_0 m3_0 m4_0 c7_2_0 v1 hp
    subst hp
    intro k0 hd0
    refine RunsL.len_tmp 23 rfl fun hlenk0 => ?_
    refine RunsL.of_awp (js := []) T_ok ?_; conv => whnf
    have hls := intDs_i64_len v1.args
    cases rest0 with
    | nil =>
      have hk := drop_nil hd0
      refine ⟨⟨fun h => absurd h (by omega), fun _ => ?_⟩⟩; conv => whnf
      obtain rfl := sm e
      refine ⟨[0, 1, 2, 3, 4], ⟨rfl, rfl, rfl⟩, ?_, ⟨⟨_, rfl, ⟨⟨?_, ?_, rfl, rfl, trivial⟩, rfl⟩⟩, ⟨_, rfl, ?_⟩, ⟨_, rfl, ?_⟩, ⟨_, rfl, rfl⟩, ⟨_, rfl, rfl⟩, trivial⟩⟩
      repeat' first | exact rfl | exact trivial | refine ⟨?_, ?_⟩
    | cons v26 rest0 =>
      obtain ⟨hxv26, hd0, hltv26⟩ := drop_head hd0
      refine ⟨⟨fun _ => ?_, fun h => absurd (by omega) h⟩⟩; conv => whnf
      refine ⟨k0, _, rfl, intDs_i64_get hxv26, ?_⟩; conv => whnf
      refine ⟨intDs_i64_fit _ rfl rfl, ?_⟩; conv => whnf
      refine draw_rule [0, 1, 2, 3, 4] T_ok mixed hash_table_typ_io_pl6 (by decide +kernel) ?_; conv => whnf
      obtain ⟨v27, qv27, e⟩ := bnd e
      first | (refine said_iorF (ih_hash_table_typ_io _ _ qv27 _ _ _ _ _ rfl) [0, 1, 2, 3, 4] [.ptr 0 0 0, .d (.int .i64 v26)] rfl ⟨wk.refl _, wk.pure rfl, trivial⟩ rfl rfl ⟨(keeps_back rfl), ?_⟩) | (refine said_iorF2 (ih_hash_table_typ_io _ _ qv27 _ _ _ _ _ rfl) [0, 1, 2, 3, 4] [.ptr 0 0 0, .d (.int .i64 v26)] rfl ⟨wk.refl _, wk.pure rfl, trivial⟩ rfl rfl (by simp [YN.Ds_all, Ty.Ds_all, ia, YN.D, Ty.D, listAll] <;> (repeat' first | rfl | apply And.intro)) ⟨(keeps_back rfl), ?_⟩)
      (conv => whnf)
      refine ⟨⟨⟨rfl, rfl⟩, trivial⟩, ?_⟩; conv => whnf
      obtain ⟨v28, qv28, e⟩ := bnd e
      obtain ⟨qv28l, qv28e⟩ := app_some qv28
      refine ⟨(by simpa [YN.Ds_all, Ty.Ds_all, ia, YN.D, Ty.D, listAll] using qv28l), rfl, (by rfl), ?_⟩; conv => whnf
      refine ⟨((k0 + 1 : Nat) : Int), wrap64e (by omega) (by omega) (by omega), ?_⟩; conv => whnf
      refine (RunsL.weak ((ih_hash_table_typ_io_l0 _ _ e _ _ _ _ _ _ _ rfl) (k0 + 1) hd0) ?_)
      repeat' first | exact wk.of_eq rfl | exact rfl | exact trivial | refine ⟨?_, ?_⟩ | (refine wk.of_eq ?_; (conv => lhs; whnf); (simp [YN.Ds_all, Ty.Ds_all, ia, YN.D, Ty.D, listAll, qv28e] <;> (repeat' first | rfl | apply And.intro)); done) | ((simp [YN.Ds_all, Ty.Ds_all, ia, YN.D, Ty.D, listAll, qv28e] <;> (repeat' first | rfl | apply And.intro)); done)
theorem P_hash_table_typ_io {a1 : Int} {b0_0 : (List YN)} {b0_1 : (List XN)} {b3 : (List (YK × Int))} {b4 : (List (XK × Int))} {r : (Ty × (List YN) × (List XN) × (List (YK × Int)) × (List (XK × Int)))} (e : hash_table_typ_io a1 b0_0 b0_1 b3 b4 = some r) : M_hash_table_typ_io a1 b0_0 b0_1 b3 b4 r := G_hash_table_typ_io.1 _ _ e _ _ _ _ _ rfl
theorem P_hash_GetType_j0 {r : (Ty × Int)} (e : hash_GetType_j0 = some r) : ∀ (a0 : AStore) (a1 : Int), JoinAt T Try.prog Try.f23 Fx0 [2] [1, 1, 0, 0] (EP T Try.f23 (.tuple [(Ty.D r.1), (.int .i64 r.2)])) [(1, .d (.int .i64 a1)), (4, .ptr 0 1 0), (6, .d .nilptr), (7, .d (.int .i64 4))] [[.cells [.d (.slice 3 (YN.Ds a0.types)), .d (.slice 5 (XN.Ds a0.terms))], .cells [.d (.bool false), .d (.str ByteArray.empty), .nil 3]]] := by
  unfold hash_GetType_j0 at e
  intro a0 a1
  refine Runs.enter T_ok ?_; conv => whnf
  refine ⟨⟨fun _ => ?_, fun h => absurd (by decide) h⟩⟩; conv => whnf
  obtain rfl := sm e
  repeat' first | exact rfl | exact trivial | refine ⟨?_, ?_⟩
theorem P_hash_GetType_j0b {r : (Ty × Int)} (e : hash_GetType_j0b = some r) : ∀ (a0 : AStore) (a1 : Int), JoinAt T Try.prog Try.f23 Fx0 [2] [1, 1, 0, 0] (EP T Try.f23 (.tuple [(Ty.D r.1), (.int .i64 r.2)])) [(1, .d (.int .i64 a1)), (4, .ptr 0 1 0), (6, .d .nilptr), (7, .d (.int .i64 8))] [[.cells [.d (.slice 3 (YN.Ds a0.types)), .d (.slice 5 (XN.Ds a0.terms))], .cells [.d (.bool false), .d (.str ByteArray.empty), .nil 3]]] := by
  unfold hash_GetType_j0b at e
  intro a0 a1
  refine Runs.enter T_ok ?_; conv => whnf
  refine ⟨⟨fun _ => ?_, fun h => absurd (by decide) h⟩⟩; conv => whnf
  obtain rfl := sm e
  repeat' first | exact rfl | exact trivial | refine ⟨?_, ?_⟩
theorem P_hash_GetType_j0c {a1 : Int} {v4 : ((List YN) × (List XN) × (List (YK × Int)) × (List (XK × Int)))} {r : (Ty × Int)} (e : hash_GetType_j0c a1 v4 = some r) : ∀ (a0 : AStore), JoinAt T Try.prog Try.f23 Fx0 [2] [1, 1, 0, 0] (EP T Try.f23 (.tuple [(Ty.D r.1), (.int .i64 r.2)])) [(1, .d (.int .i64 a1)), (4, .ptr 0 1 0), (6, .ptr 0 2 0), (7, .d (.int .i64 0))] [[.cells [.d (.slice 3 (YN.Ds a0.types)), .d (.slice 5 (XN.Ds a0.terms))], .cells [.d (.bool false), .d (.str ByteArray.empty), .nil 3], .cells [.own 0 3 3 (YN.Ds v4.1), .own 0 4 5 (XN.Ds v4.2.1), .map 0 5, .map 0 6], .grow 3 (YN.Ds v4.1).length, .grow 5 (XN.Ds v4.2.1).length, .map (mapD YK.D (D.int .i64) v4.2.2.1), .map (mapD XK.D (D.int .i64) v4.2.2.2)]] := by
  unfold hash_GetType_j0c at e
  intro a0
  refine Runs.enter T_ok ?_; conv => whnf
  refine ⟨⟨fun h => absurd h (by decide), fun _ => ?_⟩⟩; conv => whnf
  refine ⟨⟨fun h5 => ?_, fun h5 => ?_⟩⟩
  · replace e := ifp h5 e; conv => whnf
    obtain rfl := sm e
    repeat' first | exact rfl | exact trivial | refine ⟨?_, ?_⟩
  · replace e := ifn h5 e; conv => whnf
    refine ⟨⟨fun h6 => ?_, fun h6 => ?_⟩⟩
    · replace e := ifp h6 e; conv => whnf
      obtain rfl := sm e
      repeat' first | exact rfl | exact trivial | refine ⟨?_, ?_⟩
    · replace e := ifn h6 e; conv => whnf
      obtain ⟨v7, qv7, e⟩ := bnd e
      first | (refine said_iorF (P_hash_table_typ_io qv7) [2, 3, 4, 5, 6] [.ptr 0 2 0, .d (.int .i64 a1)] rfl ⟨wk.refl _, wk.pure rfl, trivial⟩ rfl rfl ?_) | (refine said_iorF2 (P_hash_table_typ_io qv7) [2, 3, 4, 5, 6] [.ptr 0 2 0, .d (.int .i64 a1)] rfl ⟨wk.refl _, wk.pure rfl, trivial⟩ rfl rfl (by simp [XN.Ds_all, YN.Ds_all, Ty.Ds_all, AStore.D, XN.D, YN.D, Ty.D, listAll] <;> (repeat' first | rfl | apply And.intro)) ?_)
      (conv => whnf)
      obtain rfl := sm e
      repeat' first | exact rfl | exact trivial | refine ⟨?_, ?_⟩
theorem P_hash_GetType {a0 : AStore} {a1 : Int} {r : (Ty × Int)} (e : hash_GetType a0 a1 = some r) : Pure Try.prog 23 [(AStore.D a0), (.int .i64 a1)] (.tuple [(Ty.D r.1), (.int .i64 r.2)]) := by
  unfold hash_GetType at e
  refine pure_of_awp (js := [2]) T_ok Try.func23 rfl (by decide +kernel) rfl ?_; conv => whnf
  obtain ⟨v1, qv1, e⟩ := bnd e
  rcases v1 with v2 | v3 | v4
  · refine said_iorF (P_hash_open_io qv1) [] [.d (AStore.D a0)] rfl ⟨wk.pure rfl, trivial⟩ rfl rfl ?_; conv => whnf
    refine Runs.weak ((P_hash_GetType_j0 e) a0 a1) ?_
    repeat' first | exact wk.of_eq rfl | exact rfl | exact trivial | refine ⟨?_, ?_⟩
  · refine said_iorF (P_hash_open_io qv1) [] [.d (AStore.D a0)] rfl ⟨wk.pure rfl, trivial⟩ rfl rfl ?_; conv => whnf
    refine Runs.weak ((P_hash_GetType_j0b e) a0 a1) ?_
    repeat' first | exact wk.of_eq rfl | exact rfl | exact trivial | refine ⟨?_, ?_⟩
  · refine said_iorF (P_hash_open_io qv1) [] [.d (AStore.D a0)] rfl ⟨wk.pure rfl, trivial⟩ rfl rfl ?_; conv => whnf
    refine Runs.weak ((P_hash_GetType_j0c e) a0) ?_
    repeat' first | exact wk.of_eq rfl | exact rfl | exact trivial | refine ⟨?_, ?_⟩
def M_r31_TypeAt (a0 : AStore) (a1 : Int) (r : Ty) : Prop := Pure Try.prog 58 [(AStore.D a0), (.int .i64 a1)] (Ty.D r)
def M_r31_TypeAt_l0 (t6_0 : Int) (c2_2_0 : (List Ty)) (a0 : AStore) (a1 : Int) (v1 : YN) (v2 : YN) (r : Ty) : Prop := LoopAt T Try.prog Try.f58 Fx0 [] [1, 1, 0, 1, 0] (EP T Try.f58 (Ty.D r)) [(1, .d (.int .i64 a1)), (2, .ptr 0 0 0), (4, .ptr 0 1 0), (5, .ptr 0 2 0), (6, .d (.int .i64 t6_0))] [[.cells [.d (.slice 3 (YN.Ds a0.types)), .d (.slice 5 (XN.Ds a0.terms))], .cells [.d (.bool false), .d (.str ByteArray.empty), .nil 3], .cells [.d (.bool v1.var), .d (.str v2.name), .own 0 3 3 (Ty.Ds c2_2_0)], .grow 3 (Ty.Ds c2_2_0).length]]
theorem G_r31_TypeAt : (∀ p r, r31_TypeAt' p = some r → ∀ a0 a1, (a0, a1) = p → M_r31_TypeAt a0 a1 r) ∧
    (∀ p r, r31_TypeAt_l0' p = some r → ∀ t6_0 c2_2_0 a0 a1 v1 v2, (t6_0, c2_2_0, a0, a1, v1, v2) = p → M_r31_TypeAt_l0 t6_0 c2_2_0 a0 a1 v1 v2 r) := by
  refine r31_TypeAt'.mutual_partial_correctness (fun (p : (AStore × Int)) (r : Ty) => ∀ (a0 : AStore) (a1 : Int), (a0, a1) = p → M_r31_TypeAt a0 a1 r) (fun (p : (Int × (List Ty) × AStore × Int × YN × YN)) (r : Ty) => ∀ (t6_0 : Int) (c2_2_0 : (List Ty)) (a0 : AStore) (a1 : Int) (v1 : YN) (v2 : YN), (t6_0, c2_2_0, a0, a1, v1, v2) = p → M_r31_TypeAt_l0 t6_0 c2_2_0 a0 a1 v1 v2 r) ?_ ?_
  · intro f_r31_TypeAt_l0 ih_r31_TypeAt_l0 p r e a0 a1 hp
    subst hp
    refine pure_of_awp (js := []) T_ok Try.func58 rfl (by decide +kernel) rfl ?_; conv => whnf
    refine draw_rule [] T_ok mixed r31_TypeAt_pl1 (by decide +kernel) ?_; conv => whnf
    obtain ⟨v1, qv1, e⟩ := bnd e
    obtain ⟨qv1k, qv1a, qv1b⟩ := geti_some qv1
    refine ⟨qv1k, _, qv1a, YN.Ds_get qv1b, ?_⟩; conv => whnf
    obtain ⟨v2, qv2, e⟩ := bnd e
    obtain ⟨qv2k, qv2a, qv2b⟩ := geti_some qv2
    refine ⟨qv2k, _, qv2a, YN.Ds_get qv2b, ?_⟩; conv => whnf
    refine Runs.hold 3 ?_
    refine RunsL.runs (RunsL.weak (ih_r31_TypeAt_l0 _ _ e _ _ _ _ _ _ rfl) ?_)
    repeat' first | exact wk.of_eq rfl | exact wk.hold _ _ _ | exact rfl | exact trivial | refine ⟨?_, ?_⟩
  · intro f_r31_TypeAt f_r31_TypeAt_l0 ih_r31_TypeAt ih_r31_TypeAt_l0 p r e t6_0 c2_2_0 a0 a1 v1 v2 hp
    subst hp
    refine RunsL.of_awp (js := []) T_ok ?_; conv => whnf
    obtain ⟨v10, qv10, e⟩ := bnd e
    obtain ⟨qv10k, qv10a, qv10b⟩ := geti_some qv10
    refine ⟨qv10k, _, qv10a, YN.Ds_get qv10b, ?_⟩; conv => whnf
    refine ⟨⟨fun h11 => ?_, fun h11 => ?_⟩⟩
    · replace e := ifp h11 e; conv => whnf
      refine draw_rule [] T_ok mixed r31_TypeAt_pl5 (by decide +kernel) ?_; conv => whnf
      obtain ⟨v12, qv12, e⟩ := bnd e
      obtain ⟨qv12k, qv12a, qv12b⟩ := geti_some qv12
      refine ⟨qv12k, _, qv12a, YN.Ds_get qv12b, ?_⟩; conv => whnf
      obtain ⟨v13, qv13, e⟩ := bnd e
      obtain ⟨qv13k, qv13a, qv13b⟩ := geti_some qv13
      refine ⟨qv13k, _, qv13a, intDs_i64_get qv13b, ?_⟩; conv => whnf
      refine ⟨intDs_i64_fit _ rfl rfl, ?_⟩; conv => whnf
      obtain ⟨v14, qv14, e⟩ := bnd e
      refine said_pure (ih_r31_TypeAt _ _ qv14 _ _ rfl) rfl ⟨Keeps.refl _ _, ?_⟩; conv => whnf
      refine ⟨⟨⟨rfl, rfl⟩, trivial⟩, ?_⟩; conv => whnf
      obtain ⟨v15, qv15, e⟩ := bnd e
      obtain ⟨qv15l, qv15e⟩ := app_some qv15
      refine ⟨(by simpa [XN.Ds_all, YN.Ds_all, Ty.Ds_all, ia, AStore.D, XN.D, YN.D, Ty.D, listAll] using qv15l), rfl, (by rfl), ?_⟩; conv => whnf
      obtain ⟨v16, qv16, e⟩ := bnd e
      refine ⟨v16, sm qv16, ?_⟩; conv => whnf
      refine (RunsL.weak (ih_r31_TypeAt_l0 _ _ e _ _ _ _ _ _ rfl) ?_)
      repeat' first | exact wk.of_eq rfl | exact rfl | exact trivial | refine ⟨?_, ?_⟩ | (refine wk.of_eq ?_; (conv => lhs; whnf); (simp [XN.Ds_all, YN.Ds_all, Ty.Ds_all, ia, AStore.D, XN.D, YN.D, Ty.D, listAll, qv15e] <;> (repeat' first | rfl | apply And.intro)); done) | ((simp [XN.Ds_all, YN.Ds_all, Ty.Ds_all, ia, AStore.D, XN.D, YN.D, Ty.D, listAll, qv15e] <;> (repeat' first | rfl | apply And.intro)); done)
    · replace e := ifn h11 e; conv => whnf
      obtain rfl := sm e
      repeat' first | exact rfl | exact trivial | refine ⟨?_, ?_⟩
theorem P_r31_TypeAt {a0 : AStore} {a1 : Int} {r : Ty} (e : r31_TypeAt a0 a1 = some r) : M_r31_TypeAt a0 a1 r := G_r31_TypeAt.1 _ _ e _ _ rfl
theorem P_r31_GetType_j0 {t6_0 : Int} {a0 : AStore} {a1 : Int} {r : (Ty × Int)} (e : r31_GetType_j0 t6_0 a0 a1 = some r) : JoinAt T Try.prog Try.f24 Fx0 [4] [1, 1, 1, 0, 0] (EP T Try.f24 (.tuple [(Ty.D r.1), (.int .i64 r.2)])) [(1, .d (.int .i64 a1)), (2, .ptr 0 0 0), (4, .ptr 0 1 0), (6, .d (.int .i64 t6_0))] [[.cells [.d (.slice 3 (YN.Ds a0.types)), .d (.slice 5 (XN.Ds a0.terms))], .cells [.d (.bool false), .d (.str ByteArray.empty), .nil 3]]] := by
  unfold r31_GetType_j0 at e
  refine Runs.enter T_ok ?_; conv => whnf
  refine ⟨⟨fun h7 => ?_, fun h7 => ?_⟩⟩
  · replace e := ifp h7 e; conv => whnf
    obtain rfl := sm e
    repeat' first | exact rfl | exact trivial | refine ⟨?_, ?_⟩
  · replace e := ifn h7 e; conv => whnf
    obtain ⟨v8, qv8, e⟩ := bnd e
    refine said_pure (P_r31_TypeAt qv8) rfl ?_; conv => whnf
    obtain rfl := sm e
    repeat' first | exact rfl | exact trivial | refine ⟨?_, ?_⟩
theorem P_r31_GetType {a0 : AStore} {a1 : Int} {r : (Ty × Int)} (e : r31_GetType a0 a1 = some r) : Pure Try.prog 24 [(AStore.D a0), (.int .i64 a1)] (.tuple [(Ty.D r.1), (.int .i64 r.2)]) := by
  unfold r31_GetType at e
  refine pure_of_awp (js := [4]) T_ok Try.func24 rfl (by decide +kernel) rfl ?_; conv => whnf
  obtain ⟨v1, qv1, e⟩ := bnd e
  refine said_pure (P_r31_Check qv1) rfl ?_; conv => whnf
  refine ⟨⟨fun h2 => ?_, fun h2 => ?_⟩⟩
  · replace e := ifp h2 e; conv => whnf
    refine ⟨⟨fun h3 => ?_, fun h3 => ?_⟩⟩
    · replace e := ifp h3 e; conv => whnf
      refine Runs.weak (P_r31_GetType_j0 e) ?_
      repeat' first | exact wk.of_eq rfl | exact rfl | exact trivial | refine ⟨?_, ?_⟩
    · replace e := ifn h3 e; conv => whnf
      refine ⟨⟨fun h4 => ?_, fun h4 => ?_⟩⟩
      · replace e := ifp h4 e; conv => whnf
        refine Runs.weak (P_r31_GetType_j0 e) ?_
        repeat' first | exact wk.of_eq rfl | exact rfl | exact trivial | refine ⟨?_, ?_⟩
      · replace e := ifn h4 e; conv => whnf
        refine Runs.weak (P_r31_GetType_j0 e) ?_
        repeat' first | exact wk.of_eq rfl | exact rfl | exact trivial | refine ⟨?_, ?_⟩
  · replace e := ifn h2 e; conv => whnf
    refine Runs.weak (P_r31_GetType_j0 e) ?_
    repeat' first | exact wk.of_eq rfl | exact rfl | exact trivial | refine ⟨?_, ?_⟩
theorem P_hash_table_size_io_j0 {a1 : Int} {b0_0 : (List YN)} {b0_1 : (List XN)} {b3 : (List (YK × Int))} {b4 : (List (XK × Int))} {t6_0 : (List Int)} {t7_0 : (List Int)} {r : (Int × Int × (List YN) × (List XN) × (List (YK × Int)) × (List (XK × Int)))} (e : hash_table_size_io_j0 a1 b0_0 b0_1 b3 b4 t6_0 t7_0 = some r) : JoinAt T Try.prog Try.f59 ⟨[], 5⟩ [10] [1, 1, 1, 1, 0, 0] (ES T Try.f59 5 (.tuple [.d (.int .i64 r.1), .d (.int .i64 r.2.1)]) ([.cells [.own 0 1 3 (YN.Ds r.2.2.1), .own 0 2 5 (XN.Ds r.2.2.2.1), .map 0 3, .map 0 4], .grow 3 (YN.Ds r.2.2.1).length, .grow 5 (XN.Ds r.2.2.2.1).length, .map (mapD YK.D (D.int .i64) r.2.2.2.2.1), .map (mapD XK.D (D.int .i64) r.2.2.2.2.2)])) [(1, .d (.int .i64 a1)), (6, .own 0 5 1 (intDs_i64 t6_0)), (7, .own 0 6 1 (intDs_i64 t7_0))] [[.cells [.own 0 1 3 (YN.Ds b0_0), .own 0 2 5 (XN.Ds b0_1), .map 0 3, .map 0 4], .grow 3 (YN.Ds b0_0).length, .grow 5 (XN.Ds b0_1).length, .map (mapD YK.D (D.int .i64) b3), .map (mapD XK.D (D.int .i64) b4), .grow 1 (intDs_i64 t6_0).length, .grow 1 (intDs_i64 t7_0).length]] := by
  unfold hash_table_size_io_j0 at e
  refine Runs.enter T_ok ?_; conv => whnf
  obtain ⟨v34, qv34, e⟩ := bnd e
  obtain ⟨qv34k, qv34a, qv34b⟩ := geti_some qv34
  refine ⟨qv34k, _, qv34a, (intDs_i64_get qv34b), ?_⟩; conv => whnf
  refine ⟨intDs_i64_fit _ rfl rfl, ?_⟩; conv => whnf
  refine ⟨⟨fun h35 => ?_, fun h35 => ?_⟩⟩
  · replace e := ifp h35 e; conv => whnf
    obtain rfl := sm e
    refine ⟨[0, 1, 2, 3, 4], ⟨rfl, rfl, rfl⟩, ?_, ⟨⟨_, rfl, ⟨⟨?_, ?_, rfl, rfl, trivial⟩, rfl⟩⟩, ⟨_, rfl, ?_⟩, ⟨_, rfl, ?_⟩, ⟨_, rfl, rfl⟩, ⟨_, rfl, rfl⟩, trivial⟩⟩
    repeat' first | exact rfl | exact trivial | refine ⟨?_, ?_⟩
  · replace e := ifn h35 e; conv => whnf
    obtain ⟨v36, qv36, e⟩ := bnd e
    obtain ⟨qv36k, qv36a, qv36b⟩ := geti_some qv36
    refine ⟨qv36k, _, qv36a, (intDs_i64_get qv36b), ?_⟩; conv => whnf
    refine ⟨intDs_i64_fit _ rfl rfl, ?_⟩; conv => whnf
    refine ⟨⟨fun h37 => ?_, fun h37 => ?_⟩⟩
    · replace e := ifp h37 e; conv => whnf
      obtain rfl := sm e
      refine ⟨[0, 1, 2, 3, 4], ⟨rfl, rfl, rfl⟩, ?_, ⟨⟨_, rfl, ⟨⟨?_, ?_, rfl, rfl, trivial⟩, rfl⟩⟩, ⟨_, rfl, ?_⟩, ⟨_, rfl, ?_⟩, ⟨_, rfl, rfl⟩, ⟨_, rfl, rfl⟩, trivial⟩⟩
      repeat' first | exact rfl | exact trivial | refine ⟨?_, ?_⟩
    · replace e := ifn h37 e; conv => whnf
      obtain ⟨v38, qv38, e⟩ := bnd e
      obtain ⟨qv38k, qv38a, qv38b⟩ := geti_some qv38
      refine ⟨qv38k, _, qv38a, (intDs_i64_get qv38b), ?_⟩; conv => whnf
      refine ⟨intDs_i64_fit _ rfl rfl, ?_⟩; conv => whnf
      obtain rfl := sm e
      refine ⟨[0, 1, 2, 3, 4], ⟨rfl, rfl, rfl⟩, ?_, ⟨⟨_, rfl, ⟨⟨?_, ?_, rfl, rfl, trivial⟩, rfl⟩⟩, ⟨_, rfl, ?_⟩, ⟨_, rfl, ?_⟩, ⟨_, rfl, rfl⟩, ⟨_, rfl, rfl⟩, trivial⟩⟩
      repeat' first | exact rfl | exact trivial | refine ⟨?_, ?_⟩
end Go.Proofs.Ytpgecpmonaldiaa.Fw

