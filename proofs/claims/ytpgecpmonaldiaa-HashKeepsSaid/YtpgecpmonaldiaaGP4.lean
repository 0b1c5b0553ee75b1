/- The code computes the functions. -/
import Derived.Test.YtpgecpmonaldiaaGP3
set_option autoImplicit false
set_option linter.unusedVariables false
set_option linter.unusedSimpArgs false
set_option maxHeartbeats 4000000
namespace Go.Proofs.Ytpgecpmonaldiaa.Fw
open Go Go.Proofs Go.RowKit
theorem P_sequentlaw31_HashOnce {a0 : AStore} {a1 : Tm} {a2 : Tm} {r : Bool} (e : sequentlaw31_HashOnce a0 a1 a2 = some r) : Pure Try.prog 8 [(AStore.D a0), (Tm.D a1), (Tm.D a2)] (.bool r) := by
  unfold sequentlaw31_HashOnce at e
  refine pure_of_awp (js := []) T_ok Try.func8 rfl (by decide +kernel) rfl ?_; (conv => whnf)
  obtain ⟨v1, qv1, e⟩ := bnd e
  refine said_pure (P_sequentlaw31_alive qv1) rfl ?_; (conv => whnf)
  obtain ⟨v2, qv2, e⟩ := bnd e
  refine said_pure (P_sequentref31_Great qv2) rfl ?_; (conv => whnf)
  refine brK.split (fun hb3 => ?_) (fun hb3 => ?_)
  · replace e := ifpb hb3 e; (conv => whnf)
    refine brK.tt hb3 ?_; (conv => whnf)
    refine brK.tt hb3 ?_; (conv => whnf)
    obtain rfl := sm e
    repeat' first | exact rfl | exact trivial | refine ⟨?_, ?_⟩
  · replace e := ifnb hb3 e; (conv => whnf)
    refine brK.ff hb3 ?_; (conv => whnf)
    obtain ⟨v4, qv4, e⟩ := bnd e
    refine said_pure (P_sequentref31_Wide qv4) rfl ?_; (conv => whnf)
    refine brK.ff hb3 ?_; (conv => whnf)
    refine brK.split (fun hb5 => ?_) (fun hb5 => ?_)
    · replace e := ifpb hb5 e; (conv => whnf)
      refine brK.tt hb5 ?_; (conv => whnf)
      refine brK.tt hb5 ?_; (conv => whnf)
      obtain rfl := sm e
      repeat' first | exact rfl | exact trivial | refine ⟨?_, ?_⟩
    · replace e := ifnb hb5 e; (conv => whnf)
      refine brK.ff hb5 ?_; (conv => whnf)
      obtain ⟨v6, qv6, e⟩ := bnd e
      refine said_pure (P_sequentref31_Wide qv6) rfl ?_; (conv => whnf)
      refine brK.ff hb5 ?_; (conv => whnf)
      refine brK.split (fun hb7 => ?_) (fun hb7 => ?_)
      · replace e := ifpb hb7 e; (conv => whnf)
        refine brK.tt hb7 ?_; (conv => whnf)
        refine brK.tt hb7 ?_; (conv => whnf)
        obtain rfl := sm e
        repeat' first | exact rfl | exact trivial | refine ⟨?_, ?_⟩
      · replace e := ifnb hb7 e; (conv => whnf)
        refine brK.ff hb7 ?_; (conv => whnf)
        refine brK.ff hb7 ?_; (conv => whnf)
        refine brK.nsplit (fun hb8 => ?_) (fun hb8 => ?_)
        · replace e := ifpb hb8 e; (conv => whnf)
          obtain ⟨v9, qv9, e⟩ := bnd e
          refine said_pure (P_hash_Add qv9) rfl ?_; (conv => whnf)
          obtain ⟨v10, qv10, e⟩ := bnd e
          refine said_pure (P_hash_Add qv10) rfl ?_; (conv => whnf)
          refine ⟨⟨fun h11 => ?_, fun h11 => ?_⟩⟩
          · replace e := ifp h11 e; (conv => whnf)
            obtain rfl := sm e
            repeat' first | exact rfl | exact trivial | refine ⟨?_, ?_⟩
          · replace e := ifn h11 e; (conv => whnf)
            refine ⟨⟨fun h12 => ?_, fun h12 => ?_⟩⟩
            · replace e := ifp h12 e; (conv => whnf)
              obtain rfl := sm e
              repeat' first | exact rfl | exact trivial | refine ⟨?_, ?_⟩
            · replace e := ifn h12 e; (conv => whnf)
              obtain ⟨v13, qv13, e⟩ := bnd e
              refine said_pure (P_hash_Add qv13) rfl ?_; (conv => whnf)
              obtain ⟨v14, qv14, e⟩ := bnd e
              refine said_pure (P_hash_Find qv14) rfl ?_; (conv => whnf)
              refine brK.tt hb8 ?_; (conv => whnf)
              refine brK.tt hb8 ?_; (conv => whnf)
              refine brK.tt hb8 ?_; (conv => whnf)
              refine test.dec ?_; (conv => whnf)
              refine brK.tt hb8 ?_; (conv => whnf)
              refine brK.tt hb8 ?_; (conv => whnf)
              refine brK.tt hb8 ?_; (conv => whnf)
              obtain ⟨v15, qv15, e⟩ := bnd e
              refine said_pure (P_sequentref02_Same qv15) rfl ?_; (conv => whnf)
              refine brK.tt hb8 ?_; (conv => whnf)
              refine ⟨⟨fun h16 => ?_, fun h16 => ?_⟩⟩
              · replace e := ifp h16 e; (conv => whnf)
                refine brK.tt hb8 ?_; (conv => whnf)
                refine ⟨⟨fun h17 => ?_, fun h17 => ?_⟩⟩
                · replace e := ifp h17 e; (conv => whnf)
                  refine ⟨⟨fun h18 => ?_, fun h18 => ?_⟩⟩
                  · replace e := ifp h18 e; (conv => whnf)
                    obtain ⟨v19, qv19, e⟩ := bnd e
                    refine said_pure (P_sequentref31_Same qv19) rfl ?_; (conv => whnf)
                    refine brK.split (fun hb20 => ?_) (fun hb20 => ?_)
                    · replace e := ifpb hb20 e; (conv => whnf)
                      refine brK.tt hb20 ?_; (conv => whnf)
                      refine ⟨⟨fun h21 => ?_, fun h21 => ?_⟩⟩
                      · replace e := ifp h21 e; (conv => whnf)
                        refine brK.tt hb20 ?_; (conv => whnf)
                        refine brK.split (fun hb22 => ?_) (fun hb22 => ?_)
                        · replace e := ifpb hb22 e; (conv => whnf)
                          refine brK.tt hb22 ?_; (conv => whnf)
                          refine brK.tt hb22 ?_; (conv => whnf)
                          refine test.dec ?_; (conv => whnf)
                          refine brK.tt hb22 ?_; (conv => whnf)
                          obtain rfl := sm e
                          repeat' first | exact rfl | exact trivial | refine ⟨?_, ?_⟩
                        · replace e := ifnb hb22 e; (conv => whnf)
                          refine brK.ff hb22 ?_; (conv => whnf)
                          refine brK.ff hb22 ?_; (conv => whnf)
                          refine brK.ff hb22 ?_; (conv => whnf)
                          obtain rfl := sm e
                          repeat' first | exact rfl | exact trivial | refine ⟨?_, ?_⟩
                      · replace e := ifn h21 e; (conv => whnf)
                        refine brK.tt hb20 ?_; (conv => whnf)
                        obtain rfl := sm e
                        repeat' first | exact rfl | exact trivial | refine ⟨?_, ?_⟩
                    · replace e := ifnb hb20 e; (conv => whnf)
                      refine brK.ff hb20 ?_; (conv => whnf)
                      refine brK.ff hb20 ?_; (conv => whnf)
                      obtain rfl := sm e
                      repeat' first | exact rfl | exact trivial | refine ⟨?_, ?_⟩
                  · replace e := ifn h18 e; (conv => whnf)
                    obtain rfl := sm e
                    repeat' first | exact rfl | exact trivial | refine ⟨?_, ?_⟩
                · replace e := ifn h17 e; (conv => whnf)
                  obtain rfl := sm e
                  repeat' first | exact rfl | exact trivial | refine ⟨?_, ?_⟩
              · replace e := ifn h16 e; (conv => whnf)
                refine brK.tt hb8 ?_; (conv => whnf)
                obtain rfl := sm e
                repeat' first | exact rfl | exact trivial | refine ⟨?_, ?_⟩
        · replace e := ifnb hb8 e; (conv => whnf)
          obtain rfl := sm e
          repeat' first | exact rfl | exact trivial | refine ⟨?_, ?_⟩

theorem P_hash_Check {a0 : AStore} {r : Int} (e : hash_Check a0 = some r) : Pure Try.prog 31 [(AStore.D a0)] (.int .i64 r) := by
  unfold hash_Check at e
  refine pure_of_awp (js := []) T_ok Try.func31 rfl (by decide +kernel) rfl ?_; (conv => whnf)
  obtain ⟨v1, qv1, e⟩ := bnd e
  rcases v1 with v2 | v3 | v4
  · refine said_iorF (P_hash_open_io qv1) [] [.d (AStore.D a0)] rfl ⟨wk.pure rfl, trivial⟩ rfl rfl ?_; (conv => whnf)
    obtain rfl := sm e
    repeat' first | exact rfl | exact trivial | refine ⟨?_, ?_⟩
  · refine said_iorF (P_hash_open_io qv1) [] [.d (AStore.D a0)] rfl ⟨wk.pure rfl, trivial⟩ rfl rfl ?_; (conv => whnf)
    obtain rfl := sm e
    repeat' first | exact rfl | exact trivial | refine ⟨?_, ?_⟩
  · refine said_iorF (P_hash_open_io qv1) [] [.d (AStore.D a0)] rfl ⟨wk.pure rfl, trivial⟩ rfl rfl ?_; (conv => whnf)
    obtain rfl := sm e
    repeat' first | exact rfl | exact trivial | refine ⟨?_, ?_⟩

theorem P_sequentlaw31_HashKeeps {a0 : AStore} {a1 : Tm} {r : Bool} (e : sequentlaw31_HashKeeps a0 a1 = some r) : Pure Try.prog 7 [(AStore.D a0), (Tm.D a1)] (.bool r) := by
  unfold sequentlaw31_HashKeeps at e
  refine pure_of_awp (js := []) T_ok Try.func7 rfl (by decide +kernel) rfl ?_; (conv => whnf)
  obtain ⟨v1, qv1, e⟩ := bnd e
  refine said_pure (P_sequentlaw31_alive qv1) rfl ?_; (conv => whnf)
  obtain ⟨v2, qv2, e⟩ := bnd e
  refine said_pure (P_sequentref31_Great qv2) rfl ?_; (conv => whnf)
  refine brK.split (fun hb3 => ?_) (fun hb3 => ?_)
  · replace e := ifpb hb3 e; (conv => whnf)
    refine brK.tt hb3 ?_; (conv => whnf)
    refine brK.tt hb3 ?_; (conv => whnf)
    obtain rfl := sm e
    repeat' first | exact rfl | exact trivial | refine ⟨?_, ?_⟩
  · replace e := ifnb hb3 e; (conv => whnf)
    refine brK.ff hb3 ?_; (conv => whnf)
    obtain ⟨v4, qv4, e⟩ := bnd e
    refine said_pure (P_sequentref31_Wide qv4) rfl ?_; (conv => whnf)
    refine brK.ff hb3 ?_; (conv => whnf)
    refine brK.split (fun hb5 => ?_) (fun hb5 => ?_)
    · replace e := ifpb hb5 e; (conv => whnf)
      refine brK.tt hb5 ?_; (conv => whnf)
      refine brK.tt hb5 ?_; (conv => whnf)
      obtain rfl := sm e
      repeat' first | exact rfl | exact trivial | refine ⟨?_, ?_⟩
    · replace e := ifnb hb5 e; (conv => whnf)
      refine brK.ff hb5 ?_; (conv => whnf)
      refine brK.ff hb5 ?_; (conv => whnf)
      refine brK.nsplit (fun hb6 => ?_) (fun hb6 => ?_)
      · replace e := ifpb hb6 e; (conv => whnf)
        obtain ⟨v7, qv7, e⟩ := bnd e
        refine said_pure (P_hash_Add qv7) rfl ?_; (conv => whnf)
        refine ⟨⟨fun h8 => ?_, fun h8 => ?_⟩⟩
        · replace e := ifp h8 e; (conv => whnf)
          refine brK.tt hb6 ?_; (conv => whnf)
          refine brK.tt hb6 ?_; (conv => whnf)
          refine brK.tt hb6 ?_; (conv => whnf)
          refine brK.tt hb6 ?_; (conv => whnf)
          refine test.dec ?_; (conv => whnf)
          refine brK.tt hb6 ?_; (conv => whnf)
          obtain rfl := sm e
          repeat' first | exact rfl | exact trivial | refine ⟨?_, ?_⟩
        · replace e := ifn h8 e; (conv => whnf)
          refine ⟨⟨fun h9 => ?_, fun h9 => ?_⟩⟩
          · replace e := ifp (by first | exact h9 | simpa [ATermNode.Ds_all, ATypeNode.Ds_all, Tm.Ds_all, Ty.Ds_all, AStore.D, ATermNode.D, ATypeNode.D, Tm.D, Ty.D, listAll] using h9) e; (conv => whnf)
            obtain rfl := sm e
            repeat' first | exact rfl | exact trivial | refine ⟨?_, ?_⟩
          · replace e := ifn (by first | exact h9 | simpa [ATermNode.Ds_all, ATypeNode.Ds_all, Tm.Ds_all, Ty.Ds_all, AStore.D, ATermNode.D, ATypeNode.D, Tm.D, Ty.D, listAll] using h9) e; (conv => whnf)
            refine ⟨⟨fun h10 => ?_, fun h10 => ?_⟩⟩
            · replace e := ifp (by first | exact h10 | simpa [ATermNode.Ds_all, ATypeNode.Ds_all, Tm.Ds_all, Ty.Ds_all, AStore.D, ATermNode.D, ATypeNode.D, Tm.D, Ty.D, listAll] using h10) e; (conv => whnf)
              obtain rfl := sm e
              repeat' first | exact rfl | exact trivial | refine ⟨?_, ?_⟩
            · replace e := ifn (by first | exact h10 | simpa [ATermNode.Ds_all, ATypeNode.Ds_all, Tm.Ds_all, Ty.Ds_all, AStore.D, ATermNode.D, ATypeNode.D, Tm.D, Ty.D, listAll] using h10) e; (conv => whnf)
              refine draw_rule [] T_ok mixed sequentlaw31_HashKeeps_pl9 (by decide +kernel) ?_; (conv => whnf)
              obtain ⟨v11, qv11, e⟩ := bnd e
              obtain ⟨qv11l, qv11h, qv11a, qv11b, qv11c, qv11d, qv11e⟩ := cut_some qv11
              refine ⟨qv11l, qv11h, (by show _ = _; omega), (by first | exact congrArg (fun z => AV.d (D.int .i64 z)) qv11b | exact congrArg (fun z => AV.d (D.int .i64 z)) (by simpa [ATermNode.Ds_all, ATypeNode.Ds_all, Tm.Ds_all, Ty.Ds_all, AStore.D, ATermNode.D, ATypeNode.D, Tm.D, Ty.D, listAll] using qv11b)), qv11c, (by first | exact qv11d | simpa [ATermNode.Ds_all, ATypeNode.Ds_all, Tm.Ds_all, Ty.Ds_all, AStore.D, ATermNode.D, ATypeNode.D, Tm.D, Ty.D, listAll] using qv11d), ?_⟩; rw [ATypeNode.Ds_cut, ← qv11e]; (conv => whnf)
              obtain ⟨v12, qv12, e⟩ := bnd e
              obtain ⟨qv12l, qv12h, qv12a, qv12b, qv12c, qv12d, qv12e⟩ := cut_some qv12
              refine ⟨qv12l, qv12h, (by show _ = _; omega), (by first | exact congrArg (fun z => AV.d (D.int .i64 z)) qv12b | exact congrArg (fun z => AV.d (D.int .i64 z)) (by simpa [ATermNode.Ds_all, ATypeNode.Ds_all, Tm.Ds_all, Ty.Ds_all, AStore.D, ATermNode.D, ATypeNode.D, Tm.D, Ty.D, listAll] using qv12b)), qv12c, (by first | exact qv12d | simpa [ATermNode.Ds_all, ATypeNode.Ds_all, Tm.Ds_all, Ty.Ds_all, AStore.D, ATermNode.D, ATypeNode.D, Tm.D, Ty.D, listAll] using qv12d), ?_⟩; rw [ATermNode.Ds_cut, ← qv12e]; (conv => whnf)
              obtain ⟨v13, qv13, e⟩ := bnd e
              refine said_pure (P_hash_Get qv13) rfl ?_; (conv => whnf)
              refine brK.tt hb6 ?_; (conv => whnf)
              refine brK.tt hb6 ?_; (conv => whnf)
              refine brK.tt hb6 ?_; (conv => whnf)
              obtain ⟨v14, qv14, e⟩ := bnd e
              refine said_pure (P_sequentref31_Same qv14) rfl ?_; (conv => whnf)
              refine brK.tt hb6 ?_; (conv => whnf)
              refine brK.split (fun hb15 => ?_) (fun hb15 => ?_)
              · replace e := ifpb hb15 e; (conv => whnf)
                refine brK.tt hb15 ?_; (conv => whnf)
                obtain ⟨v16, qv16, e⟩ := bnd e
                refine said_pure (P_hash_Check qv16) rfl ?_; (conv => whnf)
                refine brK.tt hb15 ?_; (conv => whnf)
                refine ⟨⟨fun h17 => ?_, fun h17 => ?_⟩⟩
                · replace e := ifp h17 e; (conv => whnf)
                  refine brK.tt hb15 ?_; (conv => whnf)
                  refine ⟨⟨fun h18 => ?_, fun h18 => ?_⟩⟩
                  · replace e := ifp h18 e; (conv => whnf)
                    obtain ⟨v19, qv19, e⟩ := bnd e
                    refine said_pure (P_sequentref02_Same qv19) rfl ?_; (conv => whnf)
                    obtain rfl := sm e
                    repeat' first | exact rfl | exact trivial | refine ⟨?_, ?_⟩
                  · replace e := ifn h18 e; (conv => whnf)
                    obtain rfl := sm e
                    repeat' first | exact rfl | exact trivial | refine ⟨?_, ?_⟩
                · replace e := ifn h17 e; (conv => whnf)
                  refine brK.tt hb15 ?_; (conv => whnf)
                  obtain rfl := sm e
                  repeat' first | exact rfl | exact trivial | refine ⟨?_, ?_⟩
              · replace e := ifnb hb15 e; (conv => whnf)
                refine brK.ff hb15 ?_; (conv => whnf)
                refine brK.ff hb15 ?_; (conv => whnf)
                refine brK.ff hb15 ?_; (conv => whnf)
                obtain rfl := sm e
                repeat' first | exact rfl | exact trivial | refine ⟨?_, ?_⟩
      · replace e := ifnb hb6 e; (conv => whnf)
        obtain rfl := sm e
        repeat' first | exact rfl | exact trivial | refine ⟨?_, ?_⟩

end Go.Proofs.Ytpgecpmonaldiaa.Fw
