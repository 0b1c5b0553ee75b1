/- The code computes the functions. -/
import Derived.Test.YtpgecpmonaldiaaGP3
set_option autoImplicit false
set_option linter.unusedVariables false
set_option linter.unusedSimpArgs false
set_option maxHeartbeats 4000000
namespace Go.Proofs.Ytpgecpmonaldiaa.Fw
open Go Go.Proofs Go.RowKit
theorem P_hash_Find_j0c {a1 : Tm} {v4 : ((List ATypeNode) × (List ATermNode) × (List (HashTypeKey × Int)) × (List (HashTermKey × Int)))} {r : (Int × Bool × Int)} (e : hash_Find_j0c a1 v4 = some r) : ∀ (a0 : AStore), JoinAt T Try.prog Try.f20 Fx0 [2] [1, 1, 0, 0] (EP T Try.f20 (.tuple [(.int .i64 r.1), (.bool r.2.1), (.int .i64 r.2.2)])) [(3, .ptr 0 1 0), (7, .ptr 0 2 0), (8, .d (.int .i64 0))] [[.cells [.d (.slice 3 (ATypeNode.Ds a0.types)), .d (.slice 5 (ATermNode.Ds a0.terms))], .cells [.d (.int .u8 a1.kind), .d (.str a1.name), .d (.bool a1.ty.v), .d (.str a1.ty.name), .d (.slice 3 (Ty.Ds a1.ty.args)), .d (.int .i64 a1.index), .d (.slice 7 (Tm.Ds a1.sub))], .cells [.own 0 3 3 (ATypeNode.Ds v4.1), .own 0 4 5 (ATermNode.Ds v4.2.1), .map 0 5, .map 0 6], .grow 3 (ATypeNode.Ds v4.1).length, .grow 5 (ATermNode.Ds v4.2.1).length, .map (mapD HashTypeKey.D (D.int .i64) v4.2.2.1), .map (mapD HashTermKey.D (D.int .i64) v4.2.2.2)]] := by
  unfold hash_Find_j0c at e
  intro a0
  refine Runs.enter T_ok ?_; (conv => whnf)
  refine ⟨⟨fun _ => ?_, fun h => absurd (by decide) h⟩⟩; (conv => whnf)
  obtain ⟨v5, qv5, e⟩ := bnd e
  refine said_pure (P_terms_Check qv5) rfl ?_; (conv => whnf)
  refine ⟨⟨fun h6 => ?_, fun h6 => ?_⟩⟩
  · replace e := ifp h6 e; (conv => whnf)
    obtain rfl := sm e
    repeat' first | exact rfl | exact trivial | refine ⟨?_, ?_⟩
  · replace e := ifn h6 e; (conv => whnf)
    obtain ⟨v7, qv7, e⟩ := bnd e
    first | (refine said_iorF (P_hash_table_add_io qv7) [2, 3, 4, 5, 6] [.ptr 0 2 0, .d (Tm.D a1)] rfl ⟨wk.refl _, wk.pure rfl, trivial⟩ rfl rfl ?_) | (refine said_iorF2 (P_hash_table_add_io qv7) [2, 3, 4, 5, 6] [.ptr 0 2 0, .d (Tm.D a1)] rfl ⟨wk.refl _, wk.pure rfl, trivial⟩ rfl rfl (by simp [ATermNode.Ds_all, ATypeNode.Ds_all, Tm.Ds_all, Ty.Ds_all, AStore.D, ATermNode.D, ATypeNode.D, Tm.D, Ty.D, listAll] <;> (repeat' first | rfl | apply And.intro)) ?_)
    (conv => whnf)
    refine ⟨⟨fun h8 => ?_, fun h8 => ?_⟩⟩
    · replace e := ifp (by first | exact h8 | simpa [ATermNode.Ds_all, ATypeNode.Ds_all, Tm.Ds_all, Ty.Ds_all, AStore.D, ATermNode.D, ATypeNode.D, Tm.D, Ty.D, listAll] using h8) e; (conv => whnf)
      obtain rfl := sm e
      repeat' first | exact rfl | exact trivial | refine ⟨?_, ?_⟩
    · replace e := ifn (by first | exact h8 | simpa [ATermNode.Ds_all, ATypeNode.Ds_all, Tm.Ds_all, Ty.Ds_all, AStore.D, ATermNode.D, ATypeNode.D, Tm.D, Ty.D, listAll] using h8) e; (conv => whnf)
      obtain rfl := sm e
      repeat' first | exact rfl | exact trivial | refine ⟨?_, ?_⟩

theorem P_hash_Find {a0 : AStore} {a1 : Tm} {r : (Int × Bool × Int)} (e : hash_Find a0 a1 = some r) : Pure Try.prog 20 [(AStore.D a0), (Tm.D a1)] (.tuple [(.int .i64 r.1), (.bool r.2.1), (.int .i64 r.2.2)]) := by
  unfold hash_Find at e
  refine pure_of_awp (js := [2]) T_ok Try.func20 rfl (by decide +kernel) rfl ?_; (conv => whnf)
  obtain ⟨v1, qv1, e⟩ := bnd e
  rcases v1 with v2 | v3 | v4
  · refine said_iorF (P_hash_open_io qv1) [] [.d (AStore.D a0)] rfl ⟨wk.pure rfl, trivial⟩ rfl rfl ?_; (conv => whnf)
    refine Runs.weak ((P_hash_Find_j0 e) a0 a1) ?_
    repeat' first | exact wk.of_eq rfl | exact wk.pure rfl | exact wk.un _ | exact wk.hold _ _ _ | exact rfl | exact trivial | refine ⟨?_, ?_⟩
  · refine said_iorF (P_hash_open_io qv1) [] [.d (AStore.D a0)] rfl ⟨wk.pure rfl, trivial⟩ rfl rfl ?_; (conv => whnf)
    refine Runs.weak ((P_hash_Find_j0b e) a0 a1) ?_
    repeat' first | exact wk.of_eq rfl | exact wk.pure rfl | exact wk.un _ | exact wk.hold _ _ _ | exact rfl | exact trivial | refine ⟨?_, ?_⟩
  · refine said_iorF (P_hash_open_io qv1) [] [.d (AStore.D a0)] rfl ⟨wk.pure rfl, trivial⟩ rfl rfl ?_; (conv => whnf)
    refine Runs.weak ((P_hash_Find_j0c e) a0) ?_
    repeat' first | exact wk.of_eq rfl | exact wk.pure rfl | exact wk.un _ | exact wk.hold _ _ _ | exact rfl | exact trivial | refine ⟨?_, ?_⟩ | (refine wk.of_eq ?_; (conv => lhs; whnf); (simp [ATermNode.Ds_all, ATypeNode.Ds_all, Tm.Ds_all, Ty.Ds_all, AStore.D, ATermNode.D, ATypeNode.D, Tm.D, Ty.D, listAll] <;> (repeat' first | rfl | apply And.intro)); done) | (refine wk.pure ?_; (conv => lhs; whnf); (simp [ATermNode.Ds_all, ATypeNode.Ds_all, Tm.Ds_all, Ty.Ds_all, AStore.D, ATermNode.D, ATypeNode.D, Tm.D, Ty.D, listAll] <;> (repeat' first | rfl | apply And.intro)); done) | ((simp [ATermNode.Ds_all, ATypeNode.Ds_all, Tm.Ds_all, Ty.Ds_all, AStore.D, ATermNode.D, ATypeNode.D, Tm.D, Ty.D, listAll] <;> (repeat' first | rfl | apply And.intro)); done)

theorem P_sequentlaw31_HashParts {a0 : AStore} {a1 : Tm} {a2 : Tm} {r : Bool} (e : sequentlaw31_HashParts a0 a1 a2 = some r) : Pure Try.prog 9 [(AStore.D a0), (Tm.D a1), (Tm.D a2)] (.bool r) := by
  unfold sequentlaw31_HashParts at e
  refine pure_of_awp (js := []) T_ok Try.func9 rfl (by decide +kernel) rfl ?_; (conv => whnf)
  obtain ⟨v1, qv1, e⟩ := bnd e
  refine said_pure (P_sequentlaw31_alive qv1) rfl ?_; (conv => whnf)
  obtain ⟨v2, qv2, e⟩ := bnd e
  refine said_pure (P_sequentref31_Great qv2) rfl ?_; (conv => whnf)
  refine brK.split (fun hb3 => ?_) (fun hb3 => ?_)
  · replace e := ifpb hb3 e; (conv => whnf)
    refine brK.tt hb3 ?_; (conv => whnf)
    refine brK.tt hb3 ?_; (conv => whnf)
    obtain rfl := sm e
    repeat' first | exact rfl | exact trivial | refine ⟨?_, ?_⟩
  · replace e := ifnb hb3 e; (conv => whnf)
    refine brK.ff hb3 ?_; (conv => whnf)
    obtain ⟨v4, qv4, e⟩ := bnd e
    refine said_pure (P_sequentref31_Wide qv4) rfl ?_; (conv => whnf)
    refine brK.ff hb3 ?_; (conv => whnf)
    refine brK.split (fun hb5 => ?_) (fun hb5 => ?_)
    · replace e := ifpb hb5 e; (conv => whnf)
      refine brK.tt hb5 ?_; (conv => whnf)
      refine brK.tt hb5 ?_; (conv => whnf)
      obtain rfl := sm e
      repeat' first | exact rfl | exact trivial | refine ⟨?_, ?_⟩
    · replace e := ifnb hb5 e; (conv => whnf)
      refine brK.ff hb5 ?_; (conv => whnf)
      obtain ⟨v6, qv6, e⟩ := bnd e
      refine said_pure (P_sequentref31_Wide qv6) rfl ?_; (conv => whnf)
      refine brK.ff hb5 ?_; (conv => whnf)
      refine brK.split (fun hb7 => ?_) (fun hb7 => ?_)
      · replace e := ifpb hb7 e; (conv => whnf)
        refine brK.tt hb7 ?_; (conv => whnf)
        refine brK.tt hb7 ?_; (conv => whnf)
        obtain rfl := sm e
        repeat' first | exact rfl | exact trivial | refine ⟨?_, ?_⟩
      · replace e := ifnb hb7 e; (conv => whnf)
        refine brK.ff hb7 ?_; (conv => whnf)
        refine brK.ff hb7 ?_; (conv => whnf)
        refine brK.nsplit (fun hb8 => ?_) (fun hb8 => ?_)
        · replace e := ifpb hb8 e; (conv => whnf)
          obtain ⟨v9, qv9, e⟩ := bnd e
          refine said_pure (P_terms_Comb qv9) rfl ?_; (conv => whnf)
          obtain ⟨v10, qv10, e⟩ := bnd e
          refine said_pure (P_hash_Add qv10) rfl ?_; (conv => whnf)
          obtain ⟨v11, qv11, e⟩ := bnd e
          refine said_pure (P_hash_Add qv11) rfl ?_; (conv => whnf)
          refine ⟨⟨fun h12 => ?_, fun h12 => ?_⟩⟩
          · replace e := ifp h12 e; (conv => whnf)
            obtain rfl := sm e
            repeat' first | exact rfl | exact trivial | refine ⟨?_, ?_⟩
          · replace e := ifn h12 e; (conv => whnf)
            refine ⟨⟨fun h13 => ?_, fun h13 => ?_⟩⟩
            · replace e := ifp h13 e; (conv => whnf)
              obtain rfl := sm e
              repeat' first | exact rfl | exact trivial | refine ⟨?_, ?_⟩
            · replace e := ifn h13 e; (conv => whnf)
              refine ⟨⟨fun h14 => ?_, fun h14 => ?_⟩⟩
              · replace e := ifp h14 e; (conv => whnf)
                obtain rfl := sm e
                repeat' first | exact rfl | exact trivial | refine ⟨?_, ?_⟩
              · replace e := ifn h14 e; (conv => whnf)
                obtain ⟨v15, qv15, e⟩ := bnd e
                refine said_pure (P_hash_Add qv15) rfl ?_; (conv => whnf)
                refine ⟨⟨fun h16 => ?_, fun h16 => ?_⟩⟩
                · replace e := ifp h16 e; (conv => whnf)
                  refine ⟨⟨fun h17 => ?_, fun h17 => ?_⟩⟩
                  · replace e := ifp h17 e; (conv => whnf)
                    refine test.dec ?_; (conv => whnf)
                    obtain rfl := sm e
                    repeat' first | exact rfl | exact trivial | refine ⟨?_, ?_⟩
                  · replace e := ifn h17 e; (conv => whnf)
                    obtain rfl := sm e
                    repeat' first | exact rfl | exact trivial | refine ⟨?_, ?_⟩
                · replace e := ifn h16 e; (conv => whnf)
                  obtain ⟨v17, qv17, e⟩ := bnd e
                  refine ⟨v17, (by have := sm qv17; first | exact this | simpa [ATermNode.Ds_all, ATypeNode.Ds_all, Tm.Ds_all, Ty.Ds_all, AStore.D, ATermNode.D, ATypeNode.D, Tm.D, Ty.D, listAll] using this), ?_⟩; (conv => whnf)
                  refine ⟨⟨fun h18 => ?_, fun h18 => ?_⟩⟩
                  · replace e := ifp (by first | exact h18 | simpa [ATermNode.Ds_all, ATypeNode.Ds_all, Tm.Ds_all, Ty.Ds_all, AStore.D, ATermNode.D, ATypeNode.D, Tm.D, Ty.D, listAll] using h18) e; (conv => whnf)
                    refine ⟨⟨fun h19 => ?_, fun h19 => ?_⟩⟩
                    · replace e := ifp h19 e; (conv => whnf)
                      refine test.dec ?_; (conv => whnf)
                      obtain rfl := sm e
                      repeat' first | exact rfl | exact trivial | refine ⟨?_, ?_⟩
                    · replace e := ifn h19 e; (conv => whnf)
                      obtain rfl := sm e
                      repeat' first | exact rfl | exact trivial | refine ⟨?_, ?_⟩
                  · replace e := ifn (by first | exact h18 | simpa [ATermNode.Ds_all, ATypeNode.Ds_all, Tm.Ds_all, Ty.Ds_all, AStore.D, ATermNode.D, ATypeNode.D, Tm.D, Ty.D, listAll] using h18) e; (conv => whnf)
                    refine ⟨⟨fun h19 => ?_, fun h19 => ?_⟩⟩
                    · replace e := ifp (by first | exact h19 | simpa [ATermNode.Ds_all, ATypeNode.Ds_all, Tm.Ds_all, Ty.Ds_all, AStore.D, ATermNode.D, ATypeNode.D, Tm.D, Ty.D, listAll] using h19) e; (conv => whnf)
                      refine ⟨⟨fun h20 => ?_, fun h20 => ?_⟩⟩
                      · replace e := ifp h20 e; (conv => whnf)
                        refine test.dec ?_; (conv => whnf)
                        obtain rfl := sm e
                        repeat' first | exact rfl | exact trivial | refine ⟨?_, ?_⟩
                      · replace e := ifn h20 e; (conv => whnf)
                        obtain rfl := sm e
                        repeat' first | exact rfl | exact trivial | refine ⟨?_, ?_⟩
                    · replace e := ifn (by first | exact h19 | simpa [ATermNode.Ds_all, ATypeNode.Ds_all, Tm.Ds_all, Ty.Ds_all, AStore.D, ATermNode.D, ATypeNode.D, Tm.D, Ty.D, listAll] using h19) e; (conv => whnf)
                      obtain ⟨v20, qv20, e⟩ := bnd e
                      refine said_pure (P_hash_Find qv20) rfl ?_; (conv => whnf)
                      obtain ⟨v21, qv21, e⟩ := bnd e
                      refine said_pure (P_hash_Find qv21) rfl ?_; (conv => whnf)
                      refine brK.tt hb8 ?_; (conv => whnf)
                      refine brK.tt hb8 ?_; (conv => whnf)
                      refine brK.tt hb8 ?_; (conv => whnf)
                      refine brK.tt hb8 ?_; (conv => whnf)
                      refine brK.tt hb8 ?_; (conv => whnf)
                      refine ⟨⟨fun h22 => ?_, fun h22 => ?_⟩⟩
                      · replace e := ifp (by first | exact h22 | simpa [ATermNode.Ds_all, ATypeNode.Ds_all, Tm.Ds_all, Ty.Ds_all, AStore.D, ATermNode.D, ATypeNode.D, Tm.D, Ty.D, listAll] using h22) e; (conv => whnf)
                        refine brK.tt hb8 ?_; (conv => whnf)
                        refine brK.split (fun hb23 => ?_) (fun hb23 => ?_)
                        · replace e := ifpb hb23 e; (conv => whnf)
                          refine brK.tt hb23 ?_; (conv => whnf)
                          refine brK.split (fun hb24 => ?_) (fun hb24 => ?_)
                          · replace e := ifpb hb24 e; (conv => whnf)
                            refine brK.tt hb24 ?_; (conv => whnf)
                            refine ⟨⟨fun h25 => ?_, fun h25 => ?_⟩⟩
                            · replace e := ifp h25 e; (conv => whnf)
                              refine brK.tt hb24 ?_; (conv => whnf)
                              refine ⟨⟨fun h26 => ?_, fun h26 => ?_⟩⟩
                              · replace e := ifp h26 e; (conv => whnf)
                                refine ⟨⟨fun h27 => ?_, fun h27 => ?_⟩⟩
                                · replace e := ifp h27 e; (conv => whnf)
                                  refine test.dec ?_; (conv => whnf)
                                  obtain rfl := sm e
                                  repeat' first | exact rfl | exact trivial | refine ⟨?_, ?_⟩
                                · replace e := ifn h27 e; (conv => whnf)
                                  obtain rfl := sm e
                                  repeat' first | exact rfl | exact trivial | refine ⟨?_, ?_⟩
                              · replace e := ifn h26 e; (conv => whnf)
                                obtain rfl := sm e
                                repeat' first | exact rfl | exact trivial | refine ⟨?_, ?_⟩
                            · replace e := ifn h25 e; (conv => whnf)
                              refine brK.tt hb24 ?_; (conv => whnf)
                              obtain rfl := sm e
                              repeat' first | exact rfl | exact trivial | refine ⟨?_, ?_⟩
                          · replace e := ifnb hb24 e; (conv => whnf)
                            refine brK.ff hb24 ?_; (conv => whnf)
                            refine brK.ff hb24 ?_; (conv => whnf)
                            obtain rfl := sm e
                            repeat' first | exact rfl | exact trivial | refine ⟨?_, ?_⟩
                        · replace e := ifnb hb23 e; (conv => whnf)
                          refine brK.ff hb23 ?_; (conv => whnf)
                          obtain rfl := sm e
                          repeat' first | exact rfl | exact trivial | refine ⟨?_, ?_⟩
                      · replace e := ifn (by first | exact h22 | simpa [ATermNode.Ds_all, ATypeNode.Ds_all, Tm.Ds_all, Ty.Ds_all, AStore.D, ATermNode.D, ATypeNode.D, Tm.D, Ty.D, listAll] using h22) e; (conv => whnf)
                        refine brK.tt hb8 ?_; (conv => whnf)
                        obtain rfl := sm e
                        repeat' first | exact rfl | exact trivial | refine ⟨?_, ?_⟩
        · replace e := ifnb hb8 e; (conv => whnf)
          obtain rfl := sm e
          repeat' first | exact rfl | exact trivial | refine ⟨?_, ?_⟩

end Go.Proofs.Ytpgecpmonaldiaa.Fw
