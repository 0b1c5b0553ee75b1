/- The code computes the functions. -/
import Derived.Test.YtdjmibbgoajcaaaGP3
set_option autoImplicit false
set_option linter.unusedVariables false
set_option linter.unusedSimpArgs false
set_option maxHeartbeats 4000000
namespace Go.Proofs.Ytdjmibbgoajcaaa.Fw
open Go Go.Proofs Go.RowKit
def M_sequentref08_thin (a0 : Tm) (a1 : (List Ty)) (r : (Ty × Bool)) : Prop := Pure Try.prog 155 [(Tm.D a0), (.slice 3 (Ty.Ds a1))] (.tuple [(Ty.D r.1), (.bool r.2)])
theorem G_sequentref08_thin : (∀ p r, sequentref08_thin' p = some r → ∀ a0 a1, (a0, a1) = p → M_sequentref08_thin a0 a1 r) := by
  refine sequentref08_thin'.partial_correctness (fun (p : (Tm × (List Ty))) (r : (Ty × Bool)) => ∀ (a0 : Tm) (a1 : (List Ty)), (a0, a1) = p → M_sequentref08_thin a0 a1 r) ?_
  · intro f_sequentref08_thin ih_sequentref08_thin p r e a0 a1 hp
    subst hp
    refine pure_of_awp (js := [13]) T_ok Try.func155 rfl (by decide +kernel) rfl ?_; (conv => whnf)
    refine ⟨⟨fun h1 => ?_, fun h1 => ?_⟩⟩
    · replace e := ifp h1 e; (conv => whnf)
      obtain ⟨v2, qv2, e⟩ := bnd e
      obtain ⟨qv2k, qv2a, qv2b⟩ := geti_some qv2
      refine ⟨qv2k, _, qv2a, Ty.Ds_get qv2b, ?_⟩; (conv => whnf)
      refine ⟨Ty.Ds_fit _ rfl rfl, ?_⟩; (conv => whnf)
      refine draw_rule [] T_ok mixed sequentref08_thin_pl16 (by decide +kernel) ?_; (conv => whnf)
      obtain ⟨v3, qv3, e⟩ := bnd e
      refine said_pure (P_sequentref01_Size qv3) rfl ⟨Keeps.refl _ _, ?_⟩; (conv => whnf)
      refine test.dec ?_; (conv => whnf)
      obtain rfl := sm e
      repeat' first | exact rfl | exact trivial | refine ⟨?_, ?_⟩
    · replace e := ifn h1 e; (conv => whnf)
      refine ⟨⟨fun h2 => ?_, fun h2 => ?_⟩⟩
      · replace e := ifp h2 e; (conv => whnf)
        obtain ⟨v3, qv3, e⟩ := bnd e
        obtain ⟨qv3k, qv3a, qv3b⟩ := geti_some qv3
        refine ⟨qv3k, _, qv3a, Tm.Ds_get qv3b, ?_⟩; (conv => whnf)
        refine ⟨Tm.Ds_fit _ rfl rfl, ?_⟩; (conv => whnf)
        obtain ⟨v4, qv4, e⟩ := bnd e
        refine said_pure (ih_sequentref08_thin _ _ qv4 _ _ rfl) rfl ?_; (conv => whnf)
        obtain ⟨v5, qv5, e⟩ := bnd e
        obtain ⟨qv5k, qv5a, qv5b⟩ := geti_some qv5
        refine ⟨qv5k, _, qv5a, Tm.Ds_get qv5b, ?_⟩; (conv => whnf)
        refine ⟨Tm.Ds_fit _ rfl rfl, ?_⟩; (conv => whnf)
        obtain ⟨v6, qv6, e⟩ := bnd e
        refine said_pure (ih_sequentref08_thin _ _ qv6 _ _ rfl) rfl ?_; (conv => whnf)
        refine brK.nsplit (fun hb7 => ?_) (fun hb7 => ?_)
        · replace e := ifpb hb7 e; (conv => whnf)
          refine brK.ntt hb7 ?_; (conv => whnf)
          refine brK.ntt hb7 ?_; (conv => whnf)
          refine brK.nsplit (fun hb8 => ?_) (fun hb8 => ?_)
          · replace e := ifpb hb8 e; (conv => whnf)
            obtain ⟨v9, qv9, e⟩ := bnd e
            obtain ⟨qv9k, qv9a, qv9b⟩ := geti_some qv9
            refine ⟨qv9k, _, qv9a, Ty.Ds_get qv9b, ?_⟩; (conv => whnf)
            refine ⟨Ty.Ds_fit _ rfl rfl, ?_⟩; (conv => whnf)
            refine draw_rule [] T_ok mixed sequentref08_thin_pl16 (by decide +kernel) ?_; (conv => whnf)
            obtain ⟨v10, qv10, e⟩ := bnd e
            refine said_pure (P_sequentref01_Size qv10) rfl ⟨Keeps.refl _ _, ?_⟩; (conv => whnf)
            refine test.dec ?_; (conv => whnf)
            obtain rfl := sm e
            repeat' first | exact rfl | exact trivial | refine ⟨?_, ?_⟩
          · replace e := ifnb hb8 e; (conv => whnf)
            obtain rfl := sm e
            repeat' first | exact rfl | exact trivial | refine ⟨?_, ?_⟩
        · replace e := ifnb hb7 e; (conv => whnf)
          refine brK.nff hb7 ?_; (conv => whnf)
          refine brK.nff hb7 ?_; (conv => whnf)
          obtain rfl := sm e
          repeat' first | exact rfl | exact trivial | refine ⟨?_, ?_⟩
      · replace e := ifn h2 e; (conv => whnf)
        refine ⟨⟨fun h3 => ?_, fun h3 => ?_⟩⟩
        · replace e := ifp h3 e; (conv => whnf)
          refine draw_rule [] T_ok mixed sequentref08_thin_pl12 (by decide +kernel) ?_; (conv => whnf)
          obtain ⟨v4, qv4, e⟩ := bnd e
          obtain ⟨qv4k, qv4a, qv4b⟩ := geti_some qv4
          refine ⟨qv4k, _, qv4a, Tm.Ds_get qv4b, ?_⟩; (conv => whnf)
          refine ⟨Tm.Ds_fit _ rfl rfl, ?_⟩; (conv => whnf)
          refine ⟨⟨⟨rfl, rfl⟩, trivial⟩, ?_⟩; (conv => whnf)
          obtain ⟨v5, qv5, e⟩ := bnd e
          obtain ⟨v6, qv6, e⟩ := bnd e
          refine ⟨?_, ?_⟩
          · (conv => whnf)
            obtain ⟨qv5l, qv5e⟩ := app_some qv5
            refine ⟨(by first | exact qv5l | simpa [Tm.Ds_all, Ty.Ds_all, Tm.D, Ty.D, listAll] using qv5l), rfl, fun hz => ?_, fun hz => ?_⟩
            · have hyv5 : a1 = [] := by simpa [Ty.Ds_map, List.map_eq_nil_iff, Tm.Ds_all, Ty.Ds_all, Tm.D, Ty.D, listAll] using hz
              have hzv5 : v5 = [a0.ty] := by rw [qv5e, hyv5]; simp
              (conv => whnf)
              refine ⟨?_, ?_⟩
              · (conv => whnf)
                first | (refine said_pure (ih_sequentref08_thin _ _ qv6 _ _ rfl) rfl ⟨Keeps.refl _ _, ?_⟩) | (refine said_pure2 (ih_sequentref08_thin _ _ qv6 _ _ rfl) rfl (by simp [Tm.Ds_all, Ty.Ds_all, Tm.D, Ty.D, listAll, hzv5] <;> (repeat' first | rfl | apply And.intro)) ⟨Keeps.refl _ _, ?_⟩)
                (conv => whnf)
                refine Runs.weak (P_sequentref08_thin_j0 e).2 ?_
                repeat' first | exact wk.of_eq rfl | exact wk.pure rfl | exact wk.un _ | exact wk.hold _ _ _ | exact wk.holdG _ _ _ | exact rfl | exact trivial | refine ⟨?_, ?_⟩
              · (conv => whnf)
                first | (refine said_pure (ih_sequentref08_thin _ _ qv6 _ _ rfl) rfl ⟨Keeps.refl _ _, ?_⟩) | (refine said_pure2 (ih_sequentref08_thin _ _ qv6 _ _ rfl) rfl (by simp [Tm.Ds_all, Ty.Ds_all, Tm.D, Ty.D, listAll, hzv5] <;> (repeat' first | rfl | apply And.intro)) ⟨Keeps.refl _ _, ?_⟩)
                (conv => whnf)
                refine Runs.weak (P_sequentref08_thin_j0 e).2 ?_
                repeat' first | exact wk.of_eq rfl | exact wk.pure rfl | exact wk.un _ | exact wk.hold _ _ _ | exact wk.holdG _ _ _ | exact rfl | exact trivial | refine ⟨?_, ?_⟩
            · (conv => whnf)
              refine ⟨?_, ?_⟩
              · (conv => whnf)
                first | (refine said_pure (ih_sequentref08_thin _ _ qv6 _ _ rfl) rfl ⟨Keeps.refl _ _, ?_⟩) | (refine said_pure2 (ih_sequentref08_thin _ _ qv6 _ _ rfl) rfl (by simp [Tm.Ds_all, Ty.Ds_all, Tm.D, Ty.D, listAll, qv5e] <;> (repeat' first | rfl | apply And.intro)) ⟨Keeps.refl _ _, ?_⟩)
                (conv => whnf)
                refine Runs.weak ((P_sequentref08_thin_j0 e).1 v5) ?_
                repeat' first | exact wk.of_eq rfl | exact wk.pure rfl | exact wk.un _ | exact wk.hold _ _ _ | exact wk.holdG _ _ _ | exact rfl | exact trivial | refine ⟨?_, ?_⟩ | (refine wk.of_eq ?_; (conv => lhs; whnf); (simp [Tm.Ds_all, Ty.Ds_all, Tm.D, Ty.D, listAll, qv5e] <;> (repeat' first | rfl | apply And.intro)); done) | (refine wk.pure ?_; (conv => lhs; whnf); (simp [Tm.Ds_all, Ty.Ds_all, Tm.D, Ty.D, listAll, qv5e] <;> (repeat' first | rfl | apply And.intro)); done) | ((simp [Tm.Ds_all, Ty.Ds_all, Tm.D, Ty.D, listAll, qv5e] <;> (repeat' first | rfl | apply And.intro)); done) | (simp [Tm.Ds_all, Ty.Ds_all, Tm.D, Ty.D, listAll, qv5e]; omega)
              · (conv => whnf)
                first | (refine said_pure (ih_sequentref08_thin _ _ qv6 _ _ rfl) rfl ⟨Keeps.refl _ _, ?_⟩) | (refine said_pure2 (ih_sequentref08_thin _ _ qv6 _ _ rfl) rfl (by simp [Tm.Ds_all, Ty.Ds_all, Tm.D, Ty.D, listAll, qv5e] <;> (repeat' first | rfl | apply And.intro)) ⟨Keeps.refl _ _, ?_⟩)
                (conv => whnf)
                refine Runs.weak ((P_sequentref08_thin_j0 e).1 v5) ?_
                repeat' first | exact wk.of_eq rfl | exact wk.pure rfl | exact wk.un _ | exact wk.hold _ _ _ | exact wk.holdG _ _ _ | exact rfl | exact trivial | refine ⟨?_, ?_⟩ | (refine wk.of_eq ?_; (conv => lhs; whnf); (simp [Tm.Ds_all, Ty.Ds_all, Tm.D, Ty.D, listAll, qv5e] <;> (repeat' first | rfl | apply And.intro)); done) | (refine wk.pure ?_; (conv => lhs; whnf); (simp [Tm.Ds_all, Ty.Ds_all, Tm.D, Ty.D, listAll, qv5e] <;> (repeat' first | rfl | apply And.intro)); done) | ((simp [Tm.Ds_all, Ty.Ds_all, Tm.D, Ty.D, listAll, qv5e] <;> (repeat' first | rfl | apply And.intro)); done) | (simp [Tm.Ds_all, Ty.Ds_all, Tm.D, Ty.D, listAll, qv5e]; omega)
          · (conv => whnf)
            obtain ⟨qv5l, qv5e⟩ := app_some qv5
            refine ⟨(by first | exact qv5l | simpa [Tm.Ds_all, Ty.Ds_all, Tm.D, Ty.D, listAll] using qv5l), rfl, fun hz => ?_, fun hz => ?_⟩
            · have hyv5 : a1 = [] := by simpa [Ty.Ds_map, List.map_eq_nil_iff, Tm.Ds_all, Ty.Ds_all, Tm.D, Ty.D, listAll] using hz
              have hzv5 : v5 = [a0.ty] := by rw [qv5e, hyv5]; simp
              (conv => whnf)
              first | (refine said_pure (ih_sequentref08_thin _ _ qv6 _ _ rfl) rfl ⟨Keeps.refl _ _, ?_⟩) | (refine said_pure2 (ih_sequentref08_thin _ _ qv6 _ _ rfl) rfl (by simp [Tm.Ds_all, Ty.Ds_all, Tm.D, Ty.D, listAll, hzv5] <;> (repeat' first | rfl | apply And.intro)) ⟨Keeps.refl _ _, ?_⟩)
              (conv => whnf)
              refine Runs.weak (P_sequentref08_thin_j0 e).2 ?_
              repeat' first | exact wk.of_eq rfl | exact wk.pure rfl | exact wk.un _ | exact wk.hold _ _ _ | exact wk.holdG _ _ _ | exact rfl | exact trivial | refine ⟨?_, ?_⟩
            · (conv => whnf)
              first | (refine said_pure (ih_sequentref08_thin _ _ qv6 _ _ rfl) rfl ⟨Keeps.refl _ _, ?_⟩) | (refine said_pure2 (ih_sequentref08_thin _ _ qv6 _ _ rfl) rfl (by simp [Tm.Ds_all, Ty.Ds_all, Tm.D, Ty.D, listAll, qv5e] <;> (repeat' first | rfl | apply And.intro)) ⟨Keeps.refl _ _, ?_⟩)
              (conv => whnf)
              refine Runs.weak (P_sequentref08_thin_j0 e).2 ?_
              repeat' first | exact wk.of_eq rfl | exact wk.pure rfl | exact wk.un _ | exact wk.hold _ _ _ | exact wk.holdG _ _ _ | exact rfl | exact trivial | refine ⟨?_, ?_⟩
        · replace e := ifn h3 e; (conv => whnf)
          refine draw_rule [] T_ok mixed sequentref08_thin_pl16 (by decide +kernel) ?_; (conv => whnf)
          obtain ⟨v4, qv4, e⟩ := bnd e
          refine said_pure (P_sequentref01_Size qv4) rfl ⟨Keeps.refl _ _, ?_⟩; (conv => whnf)
          refine test.dec ?_; (conv => whnf)
          obtain rfl := sm e
          repeat' first | exact rfl | exact trivial | refine ⟨?_, ?_⟩
theorem P_sequentref08_thin {a0 : Tm} {a1 : (List Ty)} {r : (Ty × Bool)} (e : sequentref08_thin a0 a1 = some r) : M_sequentref08_thin a0 a1 r := G_sequentref08_thin _ _ e _ _ rfl
theorem P_sequentref08_Fits {a0 : Tm} {r : Bool} (e : sequentref08_Fits a0 = some r) : Pure Try.prog 138 [(Tm.D a0)] (.bool r) := by
  unfold sequentref08_Fits at e
  refine pure_of_awp (js := []) T_ok Try.func138 rfl (by decide +kernel) rfl ?_; (conv => whnf)
  obtain ⟨v1, qv1, e⟩ := bnd e
  refine said_pure (P_sequentref02_Size qv1) rfl ?_; (conv => whnf)
  refine ⟨⟨fun h2 => ?_, fun h2 => ?_⟩⟩
  · replace e := ifp h2 e; (conv => whnf)
    obtain rfl := sm e
    repeat' first | exact rfl | exact trivial | refine ⟨?_, ?_⟩
  · replace e := ifn h2 e; (conv => whnf)
    obtain ⟨v3, qv3, e⟩ := bnd e
    refine said_pure (P_sequentref02_Depth qv3) rfl ?_; (conv => whnf)
    refine ⟨⟨fun h4 => ?_, fun h4 => ?_⟩⟩
    · replace e := ifp h4 e; (conv => whnf)
      obtain rfl := sm e
      repeat' first | exact rfl | exact trivial | refine ⟨?_, ?_⟩
    · replace e := ifn h4 e; (conv => whnf)
      obtain ⟨v5, qv5, e⟩ := bnd e
      refine said_pure (P_sequentref08_thin qv5) rfl ?_; (conv => whnf)
      obtain rfl := sm e
      repeat' first | exact rfl | exact trivial | refine ⟨?_, ?_⟩
theorem P_sequentref28_Big {a0 : Tm} {r : Bool} (e : sequentref28_Big a0 = some r) : Pure Try.prog 98 [(Tm.D a0)] (.bool r) := by
  unfold sequentref28_Big at e
  refine pure_of_awp (js := []) T_ok Try.func98 rfl (by decide +kernel) rfl ?_; (conv => whnf)
  obtain ⟨v1, qv1, e⟩ := bnd e
  refine said_pure (P_sequentref08_Fits qv1) rfl ?_; (conv => whnf)
  obtain rfl := sm e
  repeat' first | exact rfl | exact trivial | refine ⟨?_, ?_⟩
def M_sequentref29_Check_l0 (t4_0 : Int) (v7 : (List Tm)) (r : Int) : Prop := ∀ (a0 : ATactic), LoopAt T Try.prog Try.f43 Fx0 [] [1, 1, 1, 0, 1, 0] (EP T Try.f43 (.int .i64 r)) [(3, .own 0 1 7 (Tm.Ds v7)), (4, .d (.int .i64 t4_0))] [[.cells [.d (.int .u8 a0.kind), .d (.int .i64 a0.at_), .d (.int .i64 a0.to_), .d (.int .u8 a0.term.kind), .d (.str a0.term.name), .d (.bool a0.term.ty.v), .d (.str a0.term.ty.name), .d (.slice 3 (Ty.Ds a0.term.ty.args)), .d (.int .i64 a0.term.index), .d (.slice 7 (Tm.Ds a0.term.sub)), .d (.slice 11 (ATactic.Ds a0.kids))], .grow 7 (Tm.Ds v7).length]]
theorem G_sequentref29_Check_l0 : (∀ p r, sequentref29_Check_l0' p = some r → ∀ t4_0 v7, (t4_0, v7) = p → M_sequentref29_Check_l0 t4_0 v7 r) := by
  refine sequentref29_Check_l0'.partial_correctness (fun (p : (Int × (List Tm))) (r : Int) => ∀ (t4_0 : Int) (v7 : (List Tm)), (t4_0, v7) = p → M_sequentref29_Check_l0 t4_0 v7 r) ?_
  · intro f_sequentref29_Check_l0 ih_sequentref29_Check_l0 p r e t4_0 v7 hp
    subst hp
    intro a0
    refine RunsL.of_awp (js := []) T_ok ?_; (conv => whnf)
    refine ⟨⟨fun h8 => ?_, fun h8 => ?_⟩⟩
    · replace e := ifp (by first | exact h8 | omega | simpa [ATactic.Ds_all, Tm.Ds_all, Ty.Ds_all, ATactic.D, Tm.D, Ty.D, listAll] using h8) e; (conv => whnf)
      obtain ⟨v9, qv9, e⟩ := bnd e
      obtain ⟨qv9k, qv9a, qv9b⟩ := geti_some qv9
      refine ⟨qv9k, _, qv9a, (by first | exact Tm.Ds_get qv9b | simpa [ATactic.Ds_all, Tm.Ds_all, Ty.Ds_all, ATactic.D, Tm.D, Ty.D, listAll] using Tm.Ds_get qv9b), ?_⟩; (conv => whnf)
      refine ⟨Tm.Ds_fit _ rfl rfl, ?_⟩; (conv => whnf)
      obtain ⟨v10, qv10, e⟩ := bnd e
      refine said_pure (P_sequentref02_Check qv10) rfl ?_; (conv => whnf)
      refine ⟨⟨fun h11 => ?_, fun h11 => ?_⟩⟩
      · replace e := ifp h11 e; (conv => whnf)
        obtain ⟨v12, qv12, e⟩ := bnd e
        obtain ⟨qv12k, qv12a, qv12b⟩ := geti_some qv12
        refine ⟨qv12k, _, qv12a, (by first | exact Tm.Ds_get qv12b | simpa [ATactic.Ds_all, Tm.Ds_all, Ty.Ds_all, ATactic.D, Tm.D, Ty.D, listAll] using Tm.Ds_get qv12b), ?_⟩; (conv => whnf)
        refine ⟨Tm.Ds_fit _ rfl rfl, ?_⟩; (conv => whnf)
        obtain ⟨v13, qv13, e⟩ := bnd e
        refine said_pure (P_sequentref28_Big qv13) rfl ?_; (conv => whnf)
        refine brK.split (fun hb14 => ?_) (fun hb14 => ?_)
        · replace e := ifpb hb14 e; (conv => whnf)
          refine ⟨⟨fun _ => ?_, fun h => absurd (by decide) h⟩⟩; (conv => whnf)
          obtain rfl := sm e
          repeat' first | exact rfl | exact trivial | refine ⟨?_, ?_⟩
        · replace e := ifnb hb14 e; (conv => whnf)
          refine ⟨⟨fun h15 => ?_, fun h15 => ?_⟩⟩
          · replace e := ifp h15 e; (conv => whnf)
            obtain rfl := sm e
            repeat' first | exact rfl | exact trivial | refine ⟨?_, ?_⟩
          · replace e := ifn h15 e; (conv => whnf)
            obtain ⟨v16, qv16, e⟩ := bnd e
            refine ⟨v16, sm qv16, ?_⟩; (conv => whnf)
            refine (RunsL.weak ((ih_sequentref29_Check_l0 _ _ e _ _ rfl) a0) ?_)
            repeat' first | exact wk.of_eq rfl | exact wk.pure rfl | exact wk.un _ | exact wk.hold _ _ _ | exact wk.holdG _ _ _ | exact rfl | exact trivial | refine ⟨?_, ?_⟩ | (refine wk.of_eq ?_; (conv => lhs; whnf); (simp [ATactic.Ds_all, Tm.Ds_all, Ty.Ds_all, ATactic.D, Tm.D, Ty.D, listAll] <;> (repeat' first | rfl | apply And.intro)); done) | (refine wk.pure ?_; (conv => lhs; whnf); (simp [ATactic.Ds_all, Tm.Ds_all, Ty.Ds_all, ATactic.D, Tm.D, Ty.D, listAll] <;> (repeat' first | rfl | apply And.intro)); done) | ((simp [ATactic.Ds_all, Tm.Ds_all, Ty.Ds_all, ATactic.D, Tm.D, Ty.D, listAll] <;> (repeat' first | rfl | apply And.intro)); done) | (simp [ATactic.Ds_all, Tm.Ds_all, Ty.Ds_all, ATactic.D, Tm.D, Ty.D, listAll]; omega)
      · replace e := ifn h11 e; (conv => whnf)
        refine ⟨⟨fun h12 => ?_, fun h12 => ?_⟩⟩
        · replace e := ifp h12 e; (conv => whnf)
          obtain rfl := sm e
          repeat' first | exact rfl | exact trivial | refine ⟨?_, ?_⟩
        · replace e := ifn h12 e; (conv => whnf)
          obtain ⟨v13, qv13, e⟩ := bnd e
          refine ⟨v13, sm qv13, ?_⟩; (conv => whnf)
          refine (RunsL.weak ((ih_sequentref29_Check_l0 _ _ e _ _ rfl) a0) ?_)
          repeat' first | exact wk.of_eq rfl | exact wk.pure rfl | exact wk.un _ | exact wk.hold _ _ _ | exact wk.holdG _ _ _ | exact rfl | exact trivial | refine ⟨?_, ?_⟩ | (refine wk.of_eq ?_; (conv => lhs; whnf); (simp [ATactic.Ds_all, Tm.Ds_all, Ty.Ds_all, ATactic.D, Tm.D, Ty.D, listAll] <;> (repeat' first | rfl | apply And.intro)); done) | (refine wk.pure ?_; (conv => lhs; whnf); (simp [ATactic.Ds_all, Tm.Ds_all, Ty.Ds_all, ATactic.D, Tm.D, Ty.D, listAll] <;> (repeat' first | rfl | apply And.intro)); done) | ((simp [ATactic.Ds_all, Tm.Ds_all, Ty.Ds_all, ATactic.D, Tm.D, Ty.D, listAll] <;> (repeat' first | rfl | apply And.intro)); done) | (simp [ATactic.Ds_all, Tm.Ds_all, Ty.Ds_all, ATactic.D, Tm.D, Ty.D, listAll]; omega)
    · replace e := ifn (by first | exact h8 | omega | simpa [ATactic.Ds_all, Tm.Ds_all, Ty.Ds_all, ATactic.D, Tm.D, Ty.D, listAll] using h8) e; (conv => whnf)
      obtain rfl := sm e
      repeat' first | exact rfl | exact trivial | refine ⟨?_, ?_⟩
theorem P_sequentref29_Check_l0 {t4_0 : Int} {v7 : (List Tm)} {r : Int} (e : sequentref29_Check_l0 t4_0 v7 = some r) : M_sequentref29_Check_l0 t4_0 v7 r := G_sequentref29_Check_l0 _ _ e _ _ rfl
theorem P_sequentref29_Check {a0 : ATactic} {r : Int} (e : sequentref29_Check a0 = some r) : Pure Try.prog 43 [(ATactic.D a0)] (.int .i64 r) := by
  unfold sequentref29_Check at e
  refine pure_of_awp (js := []) T_ok Try.func43 rfl (by decide +kernel) rfl ?_; (conv => whnf)
  obtain ⟨v1, qv1, e⟩ := bnd e
  refine said_pure (P_sequentref29_Size qv1) rfl ?_; (conv => whnf)
  refine ⟨⟨fun h2 => ?_, fun h2 => ?_⟩⟩
  · replace e := ifp h2 e; (conv => whnf)
    obtain rfl := sm e
    repeat' first | exact rfl | exact trivial | refine ⟨?_, ?_⟩
  · replace e := ifn h2 e; (conv => whnf)
    obtain ⟨v3, qv3, e⟩ := bnd e
    refine said_pure (P_sequentref29_Depth qv3) rfl ?_; (conv => whnf)
    refine ⟨⟨fun h4 => ?_, fun h4 => ?_⟩⟩
    · replace e := ifp h4 e; (conv => whnf)
      obtain rfl := sm e
      repeat' first | exact rfl | exact trivial | refine ⟨?_, ?_⟩
    · replace e := ifn h4 e; (conv => whnf)
      obtain ⟨v5, qv5, e⟩ := bnd e
      refine said_pure (P_sequentref29_shape qv5) rfl ?_; (conv => whnf)
      refine brK.nsplit (fun hb6 => ?_) (fun hb6 => ?_)
      · replace e := ifpb hb6 e; (conv => whnf)
        obtain ⟨v7, qv7, e⟩ := bnd e
        refine said_hold 7 ?_
        refine said_iorF (P_sequentref29_Given_io qv7) [1] [.own 0 1 7 (Tm.Ds ([] : List Tm)), .d (ATactic.D a0)] rfl ⟨wk.hold 0 1 7, wk.pure rfl, trivial⟩ rfl rfl ?_; (conv => whnf)
        refine RunsL.runs (RunsL.weak ((P_sequentref29_Check_l0 e) a0) ?_)
        repeat' first | exact wk.of_eq rfl | exact wk.pure rfl | exact wk.un _ | exact wk.hold _ _ _ | exact wk.holdG _ _ _ | exact rfl | exact trivial | refine ⟨?_, ?_⟩ | (refine wk.of_eq ?_; (conv => lhs; whnf); (simp [ATactic.Ds_all, Tm.Ds_all, Ty.Ds_all, ATactic.D, Tm.D, Ty.D, listAll] <;> (repeat' first | rfl | apply And.intro)); done) | (refine wk.pure ?_; (conv => lhs; whnf); (simp [ATactic.Ds_all, Tm.Ds_all, Ty.Ds_all, ATactic.D, Tm.D, Ty.D, listAll] <;> (repeat' first | rfl | apply And.intro)); done) | ((simp [ATactic.Ds_all, Tm.Ds_all, Ty.Ds_all, ATactic.D, Tm.D, Ty.D, listAll] <;> (repeat' first | rfl | apply And.intro)); done) | (simp [ATactic.Ds_all, Tm.Ds_all, Ty.Ds_all, ATactic.D, Tm.D, Ty.D, listAll]; omega)
      · replace e := ifnb hb6 e; (conv => whnf)
        obtain rfl := sm e
        repeat' first | exact rfl | exact trivial | refine ⟨?_, ?_⟩
theorem P_sequentref02_sign {a0 : Bool} {a1 : Bool} {r : Int} (e : sequentref02_sign a0 a1 = some r) : Pure Try.prog 110 [(.bool a0), (.bool a1)] (.int .i64 r) := by
  unfold sequentref02_sign at e
  refine pure_of_awp (js := []) T_ok Try.func110 rfl (by decide +kernel) rfl ?_; (conv => whnf)
  refine brK.split (fun hb1 => ?_) (fun hb1 => ?_)
  · replace e := ifpb hb1 e; (conv => whnf)
    obtain rfl := sm e
    repeat' first | exact rfl | exact trivial | refine ⟨?_, ?_⟩
  · replace e := ifnb hb1 e; (conv => whnf)
    refine brK.split (fun hb2 => ?_) (fun hb2 => ?_)
    · replace e := ifpb hb2 e; (conv => whnf)
      obtain rfl := sm e
      repeat' first | exact rfl | exact trivial | refine ⟨?_, ?_⟩
    · replace e := ifnb hb2 e; (conv => whnf)
      obtain rfl := sm e
      repeat' first | exact rfl | exact trivial | refine ⟨?_, ?_⟩
def M_sequentref02_Compare (a0 : Tm) (a1 : Tm) (r : Int) : Prop := Pure Try.prog 60 [(Tm.D a0), (Tm.D a1)] (.int .i64 r)
def M_sequentref02_Compare_j0 (t5_1 : Int) (a0 : Tm) (a1 : Tm) (r : Int) : Prop := JoinAt T Try.prog Try.f60 Fx0 [4, 6, 8, 10] [1, 1, 1, 0, 0] (EP T Try.f60 (.int .i64 r)) [(2, .ptr 0 0 0), (3, .ptr 0 1 0), (5, .d (.int .i64 t5_1))] [[.cells [.d (.int .u8 a0.kind), .d (.str a0.name), .d (.bool a0.ty.v), .d (.str a0.ty.name), .d (.slice 3 (Ty.Ds a0.ty.args)), .d (.int .i64 a0.index), .d (.slice 7 (Tm.Ds a0.sub))], .cells [.d (.int .u8 a1.kind), .d (.str a1.name), .d (.bool a1.ty.v), .d (.str a1.ty.name), .d (.slice 3 (Ty.Ds a1.ty.args)), .d (.int .i64 a1.index), .d (.slice 7 (Tm.Ds a1.sub))]]]
def M_sequentref02_Compare_j1 (t5_2 : Int) (a0 : Tm) (a1 : Tm) (r : Int) : Prop := JoinAt T Try.prog Try.f60 Fx0 [4, 6, 8, 10] [1, 1, 1, 1, 0, 0] (EP T Try.f60 (.int .i64 r)) [(2, .ptr 0 0 0), (3, .ptr 0 1 0), (5, .d (.int .i64 t5_2))] [[.cells [.d (.int .u8 a0.kind), .d (.str a0.name), .d (.bool a0.ty.v), .d (.str a0.ty.name), .d (.slice 3 (Ty.Ds a0.ty.args)), .d (.int .i64 a0.index), .d (.slice 7 (Tm.Ds a0.sub))], .cells [.d (.int .u8 a1.kind), .d (.str a1.name), .d (.bool a1.ty.v), .d (.str a1.ty.name), .d (.slice 3 (Ty.Ds a1.ty.args)), .d (.int .i64 a1.index), .d (.slice 7 (Tm.Ds a1.sub))]]]
def M_sequentref02_Compare_j2 (t5_3 : Int) (a0 : Tm) (a1 : Tm) (r : Int) : Prop := JoinAt T Try.prog Try.f60 Fx0 [4, 6, 8, 10] [1, 1, 1, 1, 1, 0, 0] (EP T Try.f60 (.int .i64 r)) [(2, .ptr 0 0 0), (3, .ptr 0 1 0), (5, .d (.int .i64 t5_3))] [[.cells [.d (.int .u8 a0.kind), .d (.str a0.name), .d (.bool a0.ty.v), .d (.str a0.ty.name), .d (.slice 3 (Ty.Ds a0.ty.args)), .d (.int .i64 a0.index), .d (.slice 7 (Tm.Ds a0.sub))], .cells [.d (.int .u8 a1.kind), .d (.str a1.name), .d (.bool a1.ty.v), .d (.str a1.ty.name), .d (.slice 3 (Ty.Ds a1.ty.args)), .d (.int .i64 a1.index), .d (.slice 7 (Tm.Ds a1.sub))]]]
def M_sequentref02_Compare_j3 (t5_4 : Int) (a0 : Tm) (a1 : Tm) (r : Int) : Prop := JoinAt T Try.prog Try.f60 Fx0 [4, 6, 8, 10] [1, 1, 1, 1, 1, 1, 0, 0] (EP T Try.f60 (.int .i64 r)) [(2, .ptr 0 0 0), (3, .ptr 0 1 0), (5, .d (.int .i64 t5_4))] [[.cells [.d (.int .u8 a0.kind), .d (.str a0.name), .d (.bool a0.ty.v), .d (.str a0.ty.name), .d (.slice 3 (Ty.Ds a0.ty.args)), .d (.int .i64 a0.index), .d (.slice 7 (Tm.Ds a0.sub))], .cells [.d (.int .u8 a1.kind), .d (.str a1.name), .d (.bool a1.ty.v), .d (.str a1.ty.name), .d (.slice 3 (Ty.Ds a1.ty.args)), .d (.int .i64 a1.index), .d (.slice 7 (Tm.Ds a1.sub))]]]
def M_sequentref02_Compare_l0 (t5_0 : Int) (t6_0 : Int) (a0 : Tm) (a1 : Tm) (r : Int) : Prop := LoopAt T Try.prog Try.f60 Fx0 [4, 6, 8, 10] [1, 1, 1, 1, 1, 1, 0, 1, 0] (EP T Try.f60 (.int .i64 r)) [(2, .ptr 0 0 0), (3, .ptr 0 1 0), (5, .d (.int .i64 t5_0)), (6, .d (.int .i64 t6_0))] [[.cells [.d (.int .u8 a0.kind), .d (.str a0.name), .d (.bool a0.ty.v), .d (.str a0.ty.name), .d (.slice 3 (Ty.Ds a0.ty.args)), .d (.int .i64 a0.index), .d (.slice 7 (Tm.Ds a0.sub))], .cells [.d (.int .u8 a1.kind), .d (.str a1.name), .d (.bool a1.ty.v), .d (.str a1.ty.name), .d (.slice 3 (Ty.Ds a1.ty.args)), .d (.int .i64 a1.index), .d (.slice 7 (Tm.Ds a1.sub))]]]
theorem G_sequentref02_Compare : (∀ p r, sequentref02_Compare' p = some r → ∀ a0 a1, (a0, a1) = p → M_sequentref02_Compare a0 a1 r) ∧
    (∀ p r, sequentref02_Compare_j0' p = some r → ∀ t5_1 a0 a1, (t5_1, a0, a1) = p → M_sequentref02_Compare_j0 t5_1 a0 a1 r) ∧
    (∀ p r, sequentref02_Compare_j1' p = some r → ∀ t5_2 a0 a1, (t5_2, a0, a1) = p → M_sequentref02_Compare_j1 t5_2 a0 a1 r) ∧
    (∀ p r, sequentref02_Compare_j2' p = some r → ∀ t5_3 a0 a1, (t5_3, a0, a1) = p → M_sequentref02_Compare_j2 t5_3 a0 a1 r) ∧
    (∀ p r, sequentref02_Compare_j3' p = some r → ∀ t5_4 a0 a1, (t5_4, a0, a1) = p → M_sequentref02_Compare_j3 t5_4 a0 a1 r) ∧
    (∀ p r, sequentref02_Compare_l0' p = some r → ∀ t5_0 t6_0 a0 a1, (t5_0, t6_0, a0, a1) = p → M_sequentref02_Compare_l0 t5_0 t6_0 a0 a1 r) := by
  refine sequentref02_Compare'.mutual_partial_correctness (fun (p : (Tm × Tm)) (r : Int) => ∀ (a0 : Tm) (a1 : Tm), (a0, a1) = p → M_sequentref02_Compare a0 a1 r) (fun (p : (Int × Tm × Tm)) (r : Int) => ∀ (t5_1 : Int) (a0 : Tm) (a1 : Tm), (t5_1, a0, a1) = p → M_sequentref02_Compare_j0 t5_1 a0 a1 r) (fun (p : (Int × Tm × Tm)) (r : Int) => ∀ (t5_2 : Int) (a0 : Tm) (a1 : Tm), (t5_2, a0, a1) = p → M_sequentref02_Compare_j1 t5_2 a0 a1 r) (fun (p : (Int × Tm × Tm)) (r : Int) => ∀ (t5_3 : Int) (a0 : Tm) (a1 : Tm), (t5_3, a0, a1) = p → M_sequentref02_Compare_j2 t5_3 a0 a1 r) (fun (p : (Int × Tm × Tm)) (r : Int) => ∀ (t5_4 : Int) (a0 : Tm) (a1 : Tm), (t5_4, a0, a1) = p → M_sequentref02_Compare_j3 t5_4 a0 a1 r) (fun (p : (Int × Int × Tm × Tm)) (r : Int) => ∀ (t5_0 : Int) (t6_0 : Int) (a0 : Tm) (a1 : Tm), (t5_0, t6_0, a0, a1) = p → M_sequentref02_Compare_l0 t5_0 t6_0 a0 a1 r) ?_ ?_ ?_ ?_ ?_ ?_
  · intro f_sequentref02_Compare_j0 ih_sequentref02_Compare_j0 p r e a0 a1 hp
    subst hp
    refine pure_of_awp (js := [4, 6, 8, 10]) T_ok Try.func60 rfl (by decide +kernel) rfl ?_; (conv => whnf)
    refine test.dec ?_; (conv => whnf)
    refine test.dec ?_; (conv => whnf)
    obtain ⟨v1, qv1, e⟩ := bnd e
    refine said_pure (P_sequentref02_sign qv1) rfl ?_; (conv => whnf)
    refine ⟨⟨fun h2 => ?_, fun h2 => ?_⟩⟩
    · replace e := ifp h2 e; (conv => whnf)
      refine ⟨⟨fun h3 => ?_, fun h3 => ?_⟩⟩
      · replace e := ifp h3 e; (conv => whnf)
        refine test.dec ?_; (conv => whnf)
        refine test.dec ?_; (conv => whnf)
        obtain ⟨v4, qv4, e⟩ := bnd e
        refine said_pure (P_sequentref02_sign qv4) rfl ?_; (conv => whnf)
        refine Runs.weak (ih_sequentref02_Compare_j0 _ _ e _ _ _ rfl) ?_
        repeat' first | exact wk.of_eq rfl | exact wk.pure rfl | exact wk.un _ | exact wk.hold _ _ _ | exact wk.holdG _ _ _ | exact rfl | exact trivial | refine ⟨?_, ?_⟩
      · replace e := ifn h3 e; (conv => whnf)
        refine Runs.weak (ih_sequentref02_Compare_j0 _ _ e _ _ _ rfl) ?_
        repeat' first | exact wk.of_eq rfl | exact wk.pure rfl | exact wk.un _ | exact wk.hold _ _ _ | exact wk.holdG _ _ _ | exact rfl | exact trivial | refine ⟨?_, ?_⟩
    · replace e := ifn h2 e; (conv => whnf)
      refine Runs.weak (ih_sequentref02_Compare_j0 _ _ e _ _ _ rfl) ?_
      repeat' first | exact wk.of_eq rfl | exact wk.pure rfl | exact wk.un _ | exact wk.hold _ _ _ | exact wk.holdG _ _ _ | exact rfl | exact trivial | refine ⟨?_, ?_⟩
  · intro f_sequentref02_Compare_j1 ih_sequentref02_Compare_j1 p r e t5_1 a0 a1 hp
    subst hp
    refine Runs.enter T_ok ?_; (conv => whnf)
    refine ⟨⟨fun h6 => ?_, fun h6 => ?_⟩⟩
    · replace e := ifp h6 e; (conv => whnf)
      obtain ⟨v7, qv7, e⟩ := bnd e
      refine said_pure (P_sequentref01_Compare qv7) rfl ?_; (conv => whnf)
      refine Runs.weak (ih_sequentref02_Compare_j1 _ _ e _ _ _ rfl) ?_
      repeat' first | exact wk.of_eq rfl | exact wk.pure rfl | exact wk.un _ | exact wk.hold _ _ _ | exact wk.holdG _ _ _ | exact rfl | exact trivial | refine ⟨?_, ?_⟩
    · replace e := ifn h6 e; (conv => whnf)
      refine Runs.weak (ih_sequentref02_Compare_j1 _ _ e _ _ _ rfl) ?_
      repeat' first | exact wk.of_eq rfl | exact wk.pure rfl | exact wk.un _ | exact wk.hold _ _ _ | exact wk.holdG _ _ _ | exact rfl | exact trivial | refine ⟨?_, ?_⟩
  · intro f_sequentref02_Compare_j2 ih_sequentref02_Compare_j2 p r e t5_2 a0 a1 hp
    subst hp
    refine Runs.enter T_ok ?_; (conv => whnf)
    refine ⟨⟨fun h8 => ?_, fun h8 => ?_⟩⟩
    · replace e := ifp h8 e; (conv => whnf)
      refine test.dec ?_; (conv => whnf)
      refine test.dec ?_; (conv => whnf)
      obtain ⟨v9, qv9, e⟩ := bnd e
      refine said_pure (P_sequentref02_sign qv9) rfl ?_; (conv => whnf)
      refine Runs.weak (ih_sequentref02_Compare_j2 _ _ e _ _ _ rfl) ?_
      repeat' first | exact wk.of_eq rfl | exact wk.pure rfl | exact wk.un _ | exact wk.hold _ _ _ | exact wk.holdG _ _ _ | exact rfl | exact trivial | refine ⟨?_, ?_⟩
    · replace e := ifn h8 e; (conv => whnf)
      refine Runs.weak (ih_sequentref02_Compare_j2 _ _ e _ _ _ rfl) ?_
      repeat' first | exact wk.of_eq rfl | exact wk.pure rfl | exact wk.un _ | exact wk.hold _ _ _ | exact wk.holdG _ _ _ | exact rfl | exact trivial | refine ⟨?_, ?_⟩
  · intro f_sequentref02_Compare_j3 ih_sequentref02_Compare_j3 p r e t5_3 a0 a1 hp
    subst hp
    refine Runs.enter T_ok ?_; (conv => whnf)
    refine ⟨⟨fun h10 => ?_, fun h10 => ?_⟩⟩
    · replace e := ifp h10 e; (conv => whnf)
      refine test.dec ?_; (conv => whnf)
      refine test.dec ?_; (conv => whnf)
      obtain ⟨v11, qv11, e⟩ := bnd e
      refine said_pure (P_sequentref02_sign qv11) rfl ?_; (conv => whnf)
      refine Runs.weak (ih_sequentref02_Compare_j3 _ _ e _ _ _ rfl) ?_
      repeat' first | exact wk.of_eq rfl | exact wk.pure rfl | exact wk.un _ | exact wk.hold _ _ _ | exact wk.holdG _ _ _ | exact rfl | exact trivial | refine ⟨?_, ?_⟩
    · replace e := ifn h10 e; (conv => whnf)
      refine Runs.weak (ih_sequentref02_Compare_j3 _ _ e _ _ _ rfl) ?_
      repeat' first | exact wk.of_eq rfl | exact wk.pure rfl | exact wk.un _ | exact wk.hold _ _ _ | exact wk.holdG _ _ _ | exact rfl | exact trivial | refine ⟨?_, ?_⟩
  · intro f_sequentref02_Compare_l0 ih_sequentref02_Compare_l0 p r e t5_4 a0 a1 hp
    subst hp
    refine Runs.enter T_ok ?_; (conv => whnf)
    refine RunsL.runs (RunsL.weak (ih_sequentref02_Compare_l0 _ _ e _ _ _ _ rfl) ?_)
    repeat' first | exact wk.of_eq rfl | exact wk.pure rfl | exact wk.un _ | exact wk.hold _ _ _ | exact wk.holdG _ _ _ | exact rfl | exact trivial | refine ⟨?_, ?_⟩
  · intro f_sequentref02_Compare f_sequentref02_Compare_l0 ih_sequentref02_Compare ih_sequentref02_Compare_l0 p r e t5_0 t6_0 a0 a1 hp
    subst hp
    refine RunsL.of_awp (js := [4, 6, 8, 10]) T_ok ?_; (conv => whnf)
    refine ⟨⟨fun h12 => ?_, fun h12 => ?_⟩⟩
    · replace e := ifp h12 e; (conv => whnf)
      refine ⟨⟨fun h13 => ?_, fun h13 => ?_⟩⟩
      · replace e := ifp (by first | exact h13 | omega | simpa [Tm.Ds_all, Ty.Ds_all, Tm.D, Ty.D, listAll] using h13) e; (conv => whnf)
        refine draw_rule [] T_ok mixed sequentref02_Compare_pl13 (by decide +kernel) ?_; (conv => whnf)
        obtain ⟨v14, qv14, e⟩ := bnd e
        obtain ⟨qv14k, qv14a, qv14b⟩ := geti_some qv14
        refine ⟨qv14k, _, qv14a, Tm.Ds_get qv14b, ?_⟩; (conv => whnf)
        refine ⟨Tm.Ds_fit _ rfl rfl, ?_⟩; (conv => whnf)
        obtain ⟨v15, qv15, e⟩ := bnd e
        obtain ⟨qv15k, qv15a, qv15b⟩ := geti_some qv15
        refine ⟨qv15k, _, qv15a, Tm.Ds_get qv15b, ?_⟩; (conv => whnf)
        refine ⟨Tm.Ds_fit _ rfl rfl, ?_⟩; (conv => whnf)
        obtain ⟨v16, qv16, e⟩ := bnd e
        refine said_pure (ih_sequentref02_Compare _ _ qv16 _ _ rfl) rfl ⟨Keeps.refl _ _, ?_⟩; (conv => whnf)
        obtain ⟨v17, qv17, e⟩ := bnd e
        refine ⟨v17, sm qv17, ?_⟩; (conv => whnf)
        refine (RunsL.weak (ih_sequentref02_Compare_l0 _ _ e _ _ _ _ rfl) ?_)
        repeat' first | exact wk.of_eq rfl | exact wk.pure rfl | exact wk.un _ | exact wk.hold _ _ _ | exact wk.holdG _ _ _ | exact rfl | exact trivial | refine ⟨?_, ?_⟩
      · replace e := ifn (by first | exact h13 | omega | simpa [Tm.Ds_all, Ty.Ds_all, Tm.D, Ty.D, listAll] using h13) e; (conv => whnf)
        obtain rfl := sm e
        repeat' first | exact rfl | exact trivial | refine ⟨?_, ?_⟩
    · replace e := ifn h12 e; (conv => whnf)
      obtain rfl := sm e
      repeat' first | exact rfl | exact trivial | refine ⟨?_, ?_⟩
theorem P_sequentref02_Compare {a0 : Tm} {a1 : Tm} {r : Int} (e : sequentref02_Compare a0 a1 = some r) : M_sequentref02_Compare a0 a1 r := G_sequentref02_Compare.1 _ _ e _ _ rfl
theorem P_sequentref02_Same {a0 : Tm} {a1 : Tm} {r : Bool} (e : sequentref02_Same a0 a1 = some r) : Pure Try.prog 20 [(Tm.D a0), (Tm.D a1)] (.bool r) := by
  unfold sequentref02_Same at e
  refine pure_of_awp (js := []) T_ok Try.func20 rfl (by decide +kernel) rfl ?_; (conv => whnf)
  obtain ⟨v1, qv1, e⟩ := bnd e
  refine said_pure (P_sequentref02_Compare qv1) rfl ?_; (conv => whnf)
  refine test.dec ?_; (conv => whnf)
  obtain rfl := sm e
  repeat' first | exact rfl | exact trivial | refine ⟨?_, ?_⟩
def M_sequentref29_Same (a0 : ATactic) (a1 : ATactic) (r : Bool) : Prop := Pure Try.prog 44 [(ATactic.D a0), (ATactic.D a1)] (.bool r)
def M_sequentref29_Same_l0 (rest0 : (List ATactic)) (k0 : Nat) (a1 : ATactic) (r : Bool) : Prop := ∀ (a0 : ATactic) (hd0 : rest0 = a0.kids.drop k0), LoopAt T Try.prog Try.f44 Fx0 [] [1, 1, 0, 1, 0] (EP T Try.f44 (.bool r)) [(2, .ptr 0 0 0), (3, .ptr 0 1 0), (5, .d (.int .i64 (k0 : Int)))] [[.cells [.d (.int .u8 a0.kind), .d (.int .i64 a0.at_), .d (.int .i64 a0.to_), .d (.int .u8 a0.term.kind), .d (.str a0.term.name), .d (.bool a0.term.ty.v), .d (.str a0.term.ty.name), .d (.slice 3 (Ty.Ds a0.term.ty.args)), .d (.int .i64 a0.term.index), .d (.slice 7 (Tm.Ds a0.term.sub)), .d (.slice 11 (ATactic.Ds a0.kids))], .cells [.d (.int .u8 a1.kind), .d (.int .i64 a1.at_), .d (.int .i64 a1.to_), .d (.int .u8 a1.term.kind), .d (.str a1.term.name), .d (.bool a1.term.ty.v), .d (.str a1.term.ty.name), .d (.slice 3 (Ty.Ds a1.term.ty.args)), .d (.int .i64 a1.term.index), .d (.slice 7 (Tm.Ds a1.term.sub)), .d (.slice 11 (ATactic.Ds a1.kids))]]]
theorem G_sequentref29_Same : (∀ p r, sequentref29_Same' p = some r → ∀ a0 a1, (a0, a1) = p → M_sequentref29_Same a0 a1 r) ∧
    (∀ p r, sequentref29_Same_l0' p = some r → ∀ rest0 k0 a1, (rest0, k0, a1) = p → M_sequentref29_Same_l0 rest0 k0 a1 r) := by
  refine sequentref29_Same'.mutual_partial_correctness (fun (p : (ATactic × ATactic)) (r : Bool) => ∀ (a0 : ATactic) (a1 : ATactic), (a0, a1) = p → M_sequentref29_Same a0 a1 r) (fun (p : ((List ATactic) × Nat × ATactic)) (r : Bool) => ∀ (rest0 : (List ATactic)) (k0 : Nat) (a1 : ATactic), (rest0, k0, a1) = p → M_sequentref29_Same_l0 rest0 k0 a1 r) ?_ ?_
  · intro f_sequentref29_Same_l0 ih_sequentref29_Same_l0 p r e a0 a1 hp
    subst hp
    refine pure_of_awp (js := []) T_ok Try.func44 rfl (by decide +kernel) rfl ?_; (conv => whnf)
    refine ⟨⟨fun h1 => ?_, fun h1 => ?_⟩⟩
    · replace e := ifp h1 e; (conv => whnf)
      obtain rfl := sm e
      repeat' first | exact rfl | exact trivial | refine ⟨?_, ?_⟩
    · replace e := ifn h1 e; (conv => whnf)
      refine ⟨⟨fun h2 => ?_, fun h2 => ?_⟩⟩
      · replace e := ifp h2 e; (conv => whnf)
        obtain rfl := sm e
        repeat' first | exact rfl | exact trivial | refine ⟨?_, ?_⟩
      · replace e := ifn h2 e; (conv => whnf)
        refine ⟨⟨fun h3 => ?_, fun h3 => ?_⟩⟩
        · replace e := ifp h3 e; (conv => whnf)
          obtain rfl := sm e
          repeat' first | exact rfl | exact trivial | refine ⟨?_, ?_⟩
        · replace e := ifn h3 e; (conv => whnf)
          obtain ⟨v4, qv4, e⟩ := bnd e
          refine said_pure (P_sequentref02_Same qv4) rfl ?_; (conv => whnf)
          refine brK.nsplit (fun hb5 => ?_) (fun hb5 => ?_)
          · replace e := ifpb hb5 e; (conv => whnf)
            refine brK.ntt hb5 ?_; (conv => whnf)
            refine brK.ntt hb5 ?_; (conv => whnf)
            refine brK.ntt hb5 ?_; (conv => whnf)
            refine brK.ntt hb5 ?_; (conv => whnf)
            refine brK.ntt hb5 ?_; (conv => whnf)
            refine brK.ntt hb5 ?_; (conv => whnf)
            refine ⟨⟨fun h6 => ?_, fun h6 => ?_⟩⟩
            · replace e := ifp (by first | exact h6 | omega | simpa [ATactic.Ds_all, Tm.Ds_all, Ty.Ds_all, ATactic.D, Tm.D, Ty.D, listAll] using h6) e; (conv => whnf)
              refine brK.ntt hb5 ?_; (conv => whnf)
              obtain rfl := sm e
              repeat' first | exact rfl | exact trivial | refine ⟨?_, ?_⟩
            · replace e := ifn (by first | exact h6 | omega | simpa [ATactic.Ds_all, Tm.Ds_all, Ty.Ds_all, ATactic.D, Tm.D, Ty.D, listAll] using h6) e; (conv => whnf)
              refine brK.ntt hb5 ?_; (conv => whnf)
              refine RunsL.runs (RunsL.weak ((ih_sequentref29_Same_l0 _ _ e _ _ _ rfl) a0 (by simp)) ?_)
              repeat' first | exact wk.of_eq rfl | exact wk.pure rfl | exact wk.un _ | exact wk.hold _ _ _ | exact wk.holdG _ _ _ | exact rfl | exact trivial | refine ⟨?_, ?_⟩
          · replace e := ifnb hb5 e; (conv => whnf)
            refine brK.nff hb5 ?_; (conv => whnf)
            refine brK.nff hb5 ?_; (conv => whnf)
            refine brK.nff hb5 ?_; (conv => whnf)
            refine brK.nff hb5 ?_; (conv => whnf)
            refine brK.nff hb5 ?_; (conv => whnf)
            refine brK.nff hb5 ?_; (conv => whnf)
            refine brK.nff hb5 ?_; (conv => whnf)
            obtain rfl := sm e
            repeat' first | exact rfl | exact trivial | refine ⟨?_, ?_⟩
  · intro f_sequentref29_Same f_sequentref29_Same_l0 ih_sequentref29_Same ih_sequentref29_Same_l0 p r e rest0 k0 a1 hp
    subst hp
    intro a0 hd0
    refine RunsL.len_cell 0 10 rfl rfl rfl fun hlenk0 => ?_
    refine RunsL.of_awp (js := []) T_ok ?_; (conv => whnf)
    have hls := ATactic.Ds_len a0.kids
    cases rest0 with
    | nil =>
      have hk := drop_nil hd0
      refine ⟨⟨fun h => absurd h (by omega), fun _ => ?_⟩⟩; (conv => whnf)
      obtain rfl := sm e
      repeat' first | exact rfl | exact trivial | refine ⟨?_, ?_⟩
    | cons v6 rest0 =>
      obtain ⟨hxv6, hd0, hltv6⟩ := drop_head hd0
      refine ⟨⟨fun _ => ?_, fun h => absurd (by omega) h⟩⟩; (conv => whnf)
      refine draw_rule [] T_ok mixed sequentref29_Same_pl6 (by decide +kernel) ?_; (conv => whnf)
      refine ⟨k0, _, rfl, ATactic.Ds_get hxv6, ?_⟩; (conv => whnf)
      refine ⟨ATactic.Ds_fit _ rfl rfl, ?_⟩; (conv => whnf)
      obtain ⟨v7, qv7, e⟩ := bnd e
      obtain ⟨qv7k, qv7a, qv7b⟩ := geti_some qv7
      refine ⟨qv7k, _, qv7a, ATactic.Ds_get qv7b, ?_⟩; (conv => whnf)
      refine ⟨ATactic.Ds_fit _ rfl rfl, ?_⟩; (conv => whnf)
      obtain ⟨v8, qv8, e⟩ := bnd e
      refine said_pure (ih_sequentref29_Same _ _ qv8 _ _ rfl) rfl ⟨Keeps.refl _ _, ?_⟩; (conv => whnf)
      refine brK.nsplit (fun hb9 => ?_) (fun hb9 => ?_)
      · replace e := ifpb hb9 e; (conv => whnf)
        refine ⟨((k0 + 1 : Nat) : Int), wrap64e (by omega) (by omega) (by omega), ?_⟩; (conv => whnf)
        refine (RunsL.weak ((ih_sequentref29_Same_l0 _ _ e _ _ _ rfl) a0 hd0) ?_)
        repeat' first | exact wk.of_eq rfl | exact wk.pure rfl | exact wk.un _ | exact wk.hold _ _ _ | exact wk.holdG _ _ _ | exact rfl | exact trivial | refine ⟨?_, ?_⟩
      · replace e := ifnb hb9 e; (conv => whnf)
        obtain rfl := sm e
        repeat' first | exact rfl | exact trivial | refine ⟨?_, ?_⟩
theorem P_sequentref29_Same {a0 : ATactic} {a1 : ATactic} {r : Bool} (e : sequentref29_Same a0 a1 = some r) : M_sequentref29_Same a0 a1 r := G_sequentref29_Same.1 _ _ e _ _ rfl
def M_slices_EqualFunc_Tactic_Tactic_Tactic_Tactic__tactic_Same (a0 : (List ATactic)) (a1 : (List ATactic)) (r : Bool) : Prop := Pure Try.prog 99 [(.slice 11 (ATactic.Ds a0)), (.slice 11 (ATactic.Ds a1)), (.func (.func 45) [] [])] (.bool r)
def M_slices_EqualFunc_Tactic_Tactic_Tactic_Tactic__tactic_Same_l0 (rest0 : (List ATactic)) (k0 : Nat) (a1 : (List ATactic)) (r : Bool) : Prop := ∀ (a0 : (List ATactic)) (hd0 : rest0 = a0.drop k0), LoopAt T Try.prog Try.f99 Fx0 [] [1, 1, 0, 1, 0] (EP T Try.f99 (.bool r)) [(1, .d (.slice 11 (ATactic.Ds a1))), (2, .d (.func (.func 45) [] [])), (15, .d (.slice 11 (ATactic.Ds a0))), (16, .d (.int .i64 ((ATactic.Ds a0).length : Int))), (17, .d (.int .i64 (k0 : Int)))] [[]]
def M_tactic_Same (a0 : ATactic) (a1 : ATactic) (r : Bool) : Prop := Pure Try.prog 45 [(ATactic.D a0), (ATactic.D a1)] (.bool r)
theorem G_slices_EqualFunc_Tactic_Tactic_Tactic_Tactic__tactic_Same : (∀ p r, slices_EqualFunc_Tactic_Tactic_Tactic_Tactic__tactic_Same' p = some r → ∀ a0 a1, (a0, a1) = p → M_slices_EqualFunc_Tactic_Tactic_Tactic_Tactic__tactic_Same a0 a1 r) ∧
    (∀ p r, slices_EqualFunc_Tactic_Tactic_Tactic_Tactic__tactic_Same_l0' p = some r → ∀ rest0 k0 a1, (rest0, k0, a1) = p → M_slices_EqualFunc_Tactic_Tactic_Tactic_Tactic__tactic_Same_l0 rest0 k0 a1 r) ∧
    (∀ p r, tactic_Same' p = some r → ∀ a0 a1, (a0, a1) = p → M_tactic_Same a0 a1 r) := by
  refine slices_EqualFunc_Tactic_Tactic_Tactic_Tactic__tactic_Same'.mutual_partial_correctness (fun (p : ((List ATactic) × (List ATactic))) (r : Bool) => ∀ (a0 : (List ATactic)) (a1 : (List ATactic)), (a0, a1) = p → M_slices_EqualFunc_Tactic_Tactic_Tactic_Tactic__tactic_Same a0 a1 r) (fun (p : ((List ATactic) × Nat × (List ATactic))) (r : Bool) => ∀ (rest0 : (List ATactic)) (k0 : Nat) (a1 : (List ATactic)), (rest0, k0, a1) = p → M_slices_EqualFunc_Tactic_Tactic_Tactic_Tactic__tactic_Same_l0 rest0 k0 a1 r) (fun (p : (ATactic × ATactic)) (r : Bool) => ∀ (a0 : ATactic) (a1 : ATactic), (a0, a1) = p → M_tactic_Same a0 a1 r) ?_ ?_ ?_
  · intro f_slices_EqualFunc_Tactic_Tactic_Tactic_Tactic__tactic_Same_l0 ih_slices_EqualFunc_Tactic_Tactic_Tactic_Tactic__tactic_Same_l0 p r e a0 a1 hp
    subst hp
    refine pure_of_awp (js := []) T_ok Try.func99 rfl (by decide +kernel) rfl ?_; (conv => whnf)
    refine ⟨⟨fun h1 => ?_, fun h1 => ?_⟩⟩
    · replace e := ifp (by first | exact h1 | omega | simpa [ATactic.Ds_all, ATactic.D, listAll] using h1) e; (conv => whnf)
      obtain rfl := sm e
      repeat' first | exact rfl | exact trivial | refine ⟨?_, ?_⟩
    · replace e := ifn (by first | exact h1 | omega | simpa [ATactic.Ds_all, ATactic.D, listAll] using h1) e; (conv => whnf)
      refine RunsL.runs (RunsL.weak ((ih_slices_EqualFunc_Tactic_Tactic_Tactic_Tactic__tactic_Same_l0 _ _ e _ _ _ rfl) a0 (by simp)) ?_)
      repeat' first | exact wk.of_eq rfl | exact wk.pure rfl | exact wk.un _ | exact wk.hold _ _ _ | exact wk.holdG _ _ _ | exact rfl | exact trivial | refine ⟨?_, ?_⟩ | (refine wk.of_eq ?_; (conv => lhs; whnf); (simp [ATactic.Ds_all, ATactic.D, listAll] <;> (repeat' first | rfl | apply And.intro)); done) | (refine wk.pure ?_; (conv => lhs; whnf); (simp [ATactic.Ds_all, ATactic.D, listAll] <;> (repeat' first | rfl | apply And.intro)); done) | ((simp [ATactic.Ds_all, ATactic.D, listAll] <;> (repeat' first | rfl | apply And.intro)); done) | (simp [ATactic.Ds_all, ATactic.D, listAll]; omega)
  · intro f_slices_EqualFunc_Tactic_Tactic_Tactic_Tactic__tactic_Same_l0 f_tactic_Same ih_slices_EqualFunc_Tactic_Tactic_Tactic_Tactic__tactic_Same_l0 ih_tactic_Same p r e rest0 k0 a1 hp
    subst hp
    intro a0 hd0
    refine RunsL.len_tmp 15 rfl fun hlenk0 => ?_
    refine RunsL.of_awp (js := []) T_ok ?_; (conv => whnf)
    have hls := ATactic.Ds_len a0
    cases rest0 with
    | nil =>
      have hk := drop_nil hd0
      refine ⟨⟨fun h => absurd h (by omega), fun _ => ?_⟩⟩; (conv => whnf)
      obtain rfl := sm e
      repeat' first | exact rfl | exact trivial | refine ⟨?_, ?_⟩
    | cons v18 rest0 =>
      obtain ⟨hxv18, hd0, hltv18⟩ := drop_head hd0
      refine ⟨⟨fun _ => ?_, fun h => absurd (by omega) h⟩⟩; (conv => whnf)
      refine ⟨k0, _, rfl, ATactic.Ds_get hxv18, ?_⟩; (conv => whnf)
      refine ⟨ATactic.Ds_fit _ rfl rfl, ?_⟩; (conv => whnf)
      obtain ⟨v19, qv19, e⟩ := bnd e
      obtain ⟨qv19k, qv19a, qv19b⟩ := geti_some qv19
      refine ⟨qv19k, _, qv19a, ATactic.Ds_get qv19b, ?_⟩; (conv => whnf)
      refine ⟨ATactic.Ds_fit _ rfl rfl, ?_⟩; (conv => whnf)
      obtain ⟨v20, qv20, e⟩ := bnd e
      refine said_pure (ih_tactic_Same _ _ qv20 _ _ rfl) rfl ?_; (conv => whnf)
      refine brK.nsplit (fun hb21 => ?_) (fun hb21 => ?_)
      · replace e := ifpb hb21 e; (conv => whnf)
        refine ⟨((k0 + 1 : Nat) : Int), wrap64e (by omega) (by omega) (by omega), ?_⟩; (conv => whnf)
        refine (RunsL.weak ((ih_slices_EqualFunc_Tactic_Tactic_Tactic_Tactic__tactic_Same_l0 _ _ e _ _ _ rfl) a0 hd0) ?_)
        repeat' first | exact wk.of_eq rfl | exact wk.pure rfl | exact wk.un _ | exact wk.hold _ _ _ | exact wk.holdG _ _ _ | exact rfl | exact trivial | refine ⟨?_, ?_⟩ | (refine wk.of_eq ?_; (conv => lhs; whnf); (simp [ATactic.Ds_all, ATactic.D, listAll] <;> (repeat' first | rfl | apply And.intro)); done) | (refine wk.pure ?_; (conv => lhs; whnf); (simp [ATactic.Ds_all, ATactic.D, listAll] <;> (repeat' first | rfl | apply And.intro)); done) | ((simp [ATactic.Ds_all, ATactic.D, listAll] <;> (repeat' first | rfl | apply And.intro)); done) | (simp [ATactic.Ds_all, ATactic.D, listAll]; omega)
      · replace e := ifnb hb21 e; (conv => whnf)
        obtain rfl := sm e
        repeat' first | exact rfl | exact trivial | refine ⟨?_, ?_⟩
  · intro f_slices_EqualFunc_Tactic_Tactic_Tactic_Tactic__tactic_Same ih_slices_EqualFunc_Tactic_Tactic_Tactic_Tactic__tactic_Same p r e a0 a1 hp
    subst hp
    refine pure_of_awp (js := []) T_ok Try.func45 rfl (by decide +kernel) rfl ?_; (conv => whnf)
    refine ⟨⟨fun h1 => ?_, fun h1 => ?_⟩⟩
    · replace e := ifp h1 e; (conv => whnf)
      refine ⟨⟨fun h2 => ?_, fun h2 => ?_⟩⟩
      · replace e := ifp h2 e; (conv => whnf)
        refine ⟨⟨fun h3 => ?_, fun h3 => ?_⟩⟩
        · replace e := ifp h3 e; (conv => whnf)
          obtain ⟨v4, qv4, e⟩ := bnd e
          refine said_pure (P_terms_Same qv4) rfl ?_; (conv => whnf)
          refine brK.split (fun hb5 => ?_) (fun hb5 => ?_)
          · replace e := ifpb hb5 e; (conv => whnf)
            refine brK.tt hb5 ?_; (conv => whnf)
            refine brK.tt hb5 ?_; (conv => whnf)
            refine brK.tt hb5 ?_; (conv => whnf)
            refine brK.tt hb5 ?_; (conv => whnf)
            obtain ⟨v6, qv6, e⟩ := bnd e
            refine said_pure (ih_slices_EqualFunc_Tactic_Tactic_Tactic_Tactic__tactic_Same _ _ qv6 _ _ rfl) rfl ?_; (conv => whnf)
            refine brK.tt hb5 ?_; (conv => whnf)
            obtain rfl := sm e
            repeat' first | exact rfl | exact trivial | refine ⟨?_, ?_⟩
          · replace e := ifnb hb5 e; (conv => whnf)
            refine brK.ff hb5 ?_; (conv => whnf)
            refine brK.ff hb5 ?_; (conv => whnf)
            refine brK.ff hb5 ?_; (conv => whnf)
            refine brK.ff hb5 ?_; (conv => whnf)
            refine brK.ff hb5 ?_; (conv => whnf)
            obtain rfl := sm e
            repeat' first | exact rfl | exact trivial | refine ⟨?_, ?_⟩
        · replace e := ifn h3 e; (conv => whnf)
          obtain rfl := sm e
          repeat' first | exact rfl | exact trivial | refine ⟨?_, ?_⟩
      · replace e := ifn h2 e; (conv => whnf)
        obtain rfl := sm e
        repeat' first | exact rfl | exact trivial | refine ⟨?_, ?_⟩
    · replace e := ifn h1 e; (conv => whnf)
      obtain rfl := sm e
      repeat' first | exact rfl | exact trivial | refine ⟨?_, ?_⟩
theorem P_tactic_Same {a0 : ATactic} {a1 : ATactic} {r : Bool} (e : tactic_Same a0 a1 = some r) : M_tactic_Same a0 a1 r := G_slices_EqualFunc_Tactic_Tactic_Tactic_Tactic__tactic_Same.2.2 _ _ e _ _ rfl
def M_sequentlaw29_TacticChecks_l1 (t10_1 : Int) (a3_1 : (List Tm)) (a0 : ATactic) (t8_2 : Bool) (v5 : ATactic) (r : Bool) : Prop := ∀ (a1 : ATactic) (a4_0 : (List ATactic)) (v7 : (Int × Int × Int × Int × ByteArray × Bool × ByteArray × (List Ty) × Int × (List Tm) × (List ATactic))) (hla3_1 : a3_1.length = (Tm.Ds v7.2.2.2.2.2.2.2.2.2.1).length) (hla4_0 : a4_0.length = (ATactic.Ds v7.2.2.2.2.2.2.2.2.2.2).length), LoopAt T Try.prog Try.f7 Fx0 [7] [1, 1, 1, 1, 1, 1, 1, 0, 1, 0] (EP T Try.f7 (.bool r)) [(2, .ptr 0 0 0), (5, .ptr 0 2 0), (7, .ptr 0 5 0), (8, .d (.bool t8_2)), (10, .d (.int .i64 t10_1))] [[.cells [.d (.int .u8 a0.kind), .d (.int .i64 a0.at_), .d (.int .i64 a0.to_), .d (.int .u8 a0.term.kind), .d (.str a0.term.name), .d (.bool a0.term.ty.v), .d (.str a0.term.ty.name), .d (.slice 3 (Ty.Ds a0.term.ty.args)), .d (.int .i64 a0.term.index), .d (.slice 7 (Tm.Ds a0.term.sub)), .d (.slice 11 (ATactic.Ds a0.kids))], .cells [.d (.int .u8 a1.kind), .d (.int .i64 a1.at_), .d (.int .i64 a1.to_), .d (.int .u8 a1.term.kind), .d (.str a1.term.name), .d (.bool a1.term.ty.v), .d (.str a1.term.ty.name), .d (.slice 3 (Ty.Ds a1.term.ty.args)), .d (.int .i64 a1.term.index), .d (.slice 7 (Tm.Ds a1.term.sub)), .d (.slice 11 (ATactic.Ds a1.kids))], .cells [.d (.int .u8 v5.kind), .d (.int .i64 v5.at_), .d (.int .i64 v5.to_), .d (.int .u8 v5.term.kind), .d (.str v5.term.name), .d (.bool v5.term.ty.v), .d (.str v5.term.ty.name), .d (.slice 3 (Ty.Ds v5.term.ty.args)), .d (.int .i64 v5.term.index), .d (.slice 7 (Tm.Ds v5.term.sub)), .d (.slice 11 (ATactic.Ds v5.kids))], .arr 7 (Tm.Ds a3_1), .arr 11 (ATactic.Ds a4_0), .cells [.d (.int .u8 v7.1), .d (.int .i64 v7.2.1), .d (.int .i64 v7.2.2.1), .d (.int .u8 v7.2.2.2.1), .d (.str v7.2.2.2.2.1), .d (.bool v7.2.2.2.2.2.1), .d (.str v7.2.2.2.2.2.2.1), .d (.slice 3 (Ty.Ds v7.2.2.2.2.2.2.2.1)), .d (.int .i64 v7.2.2.2.2.2.2.2.2.1), .arr 0 3 0 (Tm.Ds v7.2.2.2.2.2.2.2.2.2.1).length 7, .arr 0 4 0 (ATactic.Ds v7.2.2.2.2.2.2.2.2.2.2).length 11]]]
theorem G_sequentlaw29_TacticChecks_l1 : (∀ p r, sequentlaw29_TacticChecks_l1' p = some r → ∀ t10_1 a3_1 a0 t8_2 v5, (t10_1, a3_1, a0, t8_2, v5) = p → M_sequentlaw29_TacticChecks_l1 t10_1 a3_1 a0 t8_2 v5 r) := by
  refine sequentlaw29_TacticChecks_l1'.partial_correctness (fun (p : (Int × (List Tm) × ATactic × Bool × ATactic)) (r : Bool) => ∀ (t10_1 : Int) (a3_1 : (List Tm)) (a0 : ATactic) (t8_2 : Bool) (v5 : ATactic), (t10_1, a3_1, a0, t8_2, v5) = p → M_sequentlaw29_TacticChecks_l1 t10_1 a3_1 a0 t8_2 v5 r) ?_
  · intro f_sequentlaw29_TacticChecks_l1 ih_sequentlaw29_TacticChecks_l1 p r e t10_1 a3_1 a0 t8_2 v5 hp
    subst hp
    intro a1 a4_0 v7 hla3_1 hla4_0
    refine RunsL.of_awp (js := [7]) T_ok ?_; (conv => whnf)
    refine ⟨⟨fun h16 => ?_, fun h16 => ?_⟩⟩
    · replace e := ifp (by first | exact h16 | omega | simpa [ATactic.Ds_all, Tm.Ds_all, Ty.Ds_all, ATactic.D, Tm.D, Ty.D, listAll] using h16) e; (conv => whnf)
      obtain ⟨g18, qg18, e⟩ := bnd e
      obtain ⟨k17, k17a⟩ : ∃ k17 : Nat, t10_1 = k17 := ⟨(t10_1).toNat, by have := wantb_some qg18; omega⟩
      refine ⟨k17, k17a, by have := wantb_some qg18; omega, ?_⟩; simp only [Nat.zero_add]; (conv => whnf)
      obtain ⟨v19, qv19, e⟩ := bnd e
      obtain ⟨v20, qv20, e⟩ := bnd e
      obtain ⟨qv20k, qv20a, qv20b, qv20c⟩ := seti_some qv20
      obtain rfl : k17 = qv20k := by omega
      obtain ⟨qv20k2, qv20a2, qv20b2⟩ := geti_some qv19
      obtain rfl : k17 = qv20k2 := by omega
      have hlv20 : v20.length = (Tm.Ds v7.2.2.2.2.2.2.2.2.2.1).length := by rw [qv20c]; simp [hla3_1]
      refine .inr ⟨_, (show _ = some (D.agg _) from by first | exact Tm.Ds_get qv20b2 | simpa [ATactic.Ds_all, Tm.Ds_all, Ty.Ds_all, ATactic.D, Tm.D, Ty.D, listAll] using Tm.Ds_get qv20b2), rfl, rfl, (by simp), ?_⟩
      (conv => whnf)
      obtain ⟨v21, qv21, e⟩ := bnd e
      refine ⟨v21, sm qv21, ?_⟩; (conv => whnf)
      refine (RunsL.weak ((ih_sequentlaw29_TacticChecks_l1 _ _ e _ _ _ _ _ rfl) a1 a4_0 v7 hlv20 hla4_0) ?_)
      repeat' first | exact wk.of_eq rfl | exact wk.pure rfl | exact wk.un _ | exact wk.hold _ _ _ | exact wk.holdG _ _ _ | exact rfl | exact trivial | refine ⟨?_, ?_⟩ | (refine wk.of_eq ?_; (conv => lhs; whnf); (simp [ATactic.Ds_all, Tm.Ds_all, Ty.Ds_all, ATactic.D, Tm.D, Ty.D, listAll, qv20c, hlv20, hla4_0] <;> (repeat' first | rfl | apply And.intro)); done) | (refine wk.pure ?_; (conv => lhs; whnf); (simp [ATactic.Ds_all, Tm.Ds_all, Ty.Ds_all, ATactic.D, Tm.D, Ty.D, listAll, qv20c, hlv20, hla4_0] <;> (repeat' first | rfl | apply And.intro)); done) | ((simp [ATactic.Ds_all, Tm.Ds_all, Ty.Ds_all, ATactic.D, Tm.D, Ty.D, listAll, qv20c, hlv20, hla4_0] <;> (repeat' first | rfl | apply And.intro)); done) | (simp [ATactic.Ds_all, Tm.Ds_all, Ty.Ds_all, ATactic.D, Tm.D, Ty.D, listAll, qv20c, hlv20, hla4_0]; omega)
    · replace e := ifn (by first | exact h16 | omega | simpa [ATactic.Ds_all, Tm.Ds_all, Ty.Ds_all, ATactic.D, Tm.D, Ty.D, listAll] using h16) e; (conv => whnf)
      refine brK.split (fun hb17 => ?_) (fun hb17 => ?_)
      · replace e := ifpb hb17 e; (conv => whnf)
        refine brK.tt hb17 ?_; (conv => whnf)
        refine brK.tt hb17 ?_; (conv => whnf)
        obtain ⟨v18, qv18, e⟩ := bnd e
        refine said_pure (P_sequentref29_Same qv18) rfl ?_; (conv => whnf)
        refine brK.tt hb17 ?_; (conv => whnf)
        obtain rfl := sm e
        repeat' first | exact rfl | exact trivial | refine ⟨?_, ?_⟩
      · replace e := ifnb hb17 e; (conv => whnf)
        refine brK.ff hb17 ?_; (conv => whnf)
        refine brK.ff hb17 ?_; (conv => whnf)
        refine brK.ff hb17 ?_; (conv => whnf)
        obtain rfl := sm e
        repeat' first | exact rfl | exact trivial | refine ⟨?_, ?_⟩
theorem P_sequentlaw29_TacticChecks_l1 {t10_1 : Int} {a3_1 : (List Tm)} {a0 : ATactic} {t8_2 : Bool} {v5 : ATactic} {r : Bool} (e : sequentlaw29_TacticChecks_l1 t10_1 a3_1 a0 t8_2 v5 = some r) : M_sequentlaw29_TacticChecks_l1 t10_1 a3_1 a0 t8_2 v5 r := G_sequentlaw29_TacticChecks_l1 _ _ e _ _ _ _ _ rfl
def M_sequentlaw29_TacticChecks_l0 (t9_0 : Int) (a4_0 : (List ATactic)) (a0 : ATactic) (t8_2 : Bool) (v5 : ATactic) (v7 : (Int × Int × Int × Int × ByteArray × Bool × ByteArray × (List Ty) × Int × (List Tm) × (List ATactic))) (r : Bool) : Prop := ∀ (a1 : ATactic) (hlx_v7_2_2_2_2_2_2_2_2_2_1 : v7.2.2.2.2.2.2.2.2.2.1.length = (Tm.Ds v7.2.2.2.2.2.2.2.2.2.1).length) (hla4_0 : a4_0.length = (ATactic.Ds v7.2.2.2.2.2.2.2.2.2.2).length), LoopAt T Try.prog Try.f7 Fx0 [7] [1, 1, 1, 1, 1, 1, 0, 1, 0] (EP T Try.f7 (.bool r)) [(2, .ptr 0 0 0), (5, .ptr 0 2 0), (7, .ptr 0 5 0), (8, .d (.bool t8_2)), (9, .d (.int .i64 t9_0))] [[.cells [.d (.int .u8 a0.kind), .d (.int .i64 a0.at_), .d (.int .i64 a0.to_), .d (.int .u8 a0.term.kind), .d (.str a0.term.name), .d (.bool a0.term.ty.v), .d (.str a0.term.ty.name), .d (.slice 3 (Ty.Ds a0.term.ty.args)), .d (.int .i64 a0.term.index), .d (.slice 7 (Tm.Ds a0.term.sub)), .d (.slice 11 (ATactic.Ds a0.kids))], .cells [.d (.int .u8 a1.kind), .d (.int .i64 a1.at_), .d (.int .i64 a1.to_), .d (.int .u8 a1.term.kind), .d (.str a1.term.name), .d (.bool a1.term.ty.v), .d (.str a1.term.ty.name), .d (.slice 3 (Ty.Ds a1.term.ty.args)), .d (.int .i64 a1.term.index), .d (.slice 7 (Tm.Ds a1.term.sub)), .d (.slice 11 (ATactic.Ds a1.kids))], .cells [.d (.int .u8 v5.kind), .d (.int .i64 v5.at_), .d (.int .i64 v5.to_), .d (.int .u8 v5.term.kind), .d (.str v5.term.name), .d (.bool v5.term.ty.v), .d (.str v5.term.ty.name), .d (.slice 3 (Ty.Ds v5.term.ty.args)), .d (.int .i64 v5.term.index), .d (.slice 7 (Tm.Ds v5.term.sub)), .d (.slice 11 (ATactic.Ds v5.kids))], .arr 7 (Tm.Ds v7.2.2.2.2.2.2.2.2.2.1), .arr 11 (ATactic.Ds a4_0), .cells [.d (.int .u8 v7.1), .d (.int .i64 v7.2.1), .d (.int .i64 v7.2.2.1), .d (.int .u8 v7.2.2.2.1), .d (.str v7.2.2.2.2.1), .d (.bool v7.2.2.2.2.2.1), .d (.str v7.2.2.2.2.2.2.1), .d (.slice 3 (Ty.Ds v7.2.2.2.2.2.2.2.1)), .d (.int .i64 v7.2.2.2.2.2.2.2.2.1), .arr 0 3 0 (Tm.Ds v7.2.2.2.2.2.2.2.2.2.1).length 7, .arr 0 4 0 (ATactic.Ds v7.2.2.2.2.2.2.2.2.2.2).length 11]]]
theorem G_sequentlaw29_TacticChecks_l0 : (∀ p r, sequentlaw29_TacticChecks_l0' p = some r → ∀ t9_0 a4_0 a0 t8_2 v5 v7, (t9_0, a4_0, a0, t8_2, v5, v7) = p → M_sequentlaw29_TacticChecks_l0 t9_0 a4_0 a0 t8_2 v5 v7 r) := by
  refine sequentlaw29_TacticChecks_l0'.partial_correctness (fun (p : (Int × (List ATactic) × ATactic × Bool × ATactic × (Int × Int × Int × Int × ByteArray × Bool × ByteArray × (List Ty) × Int × (List Tm) × (List ATactic)))) (r : Bool) => ∀ (t9_0 : Int) (a4_0 : (List ATactic)) (a0 : ATactic) (t8_2 : Bool) (v5 : ATactic) (v7 : (Int × Int × Int × Int × ByteArray × Bool × ByteArray × (List Ty) × Int × (List Tm) × (List ATactic))), (t9_0, a4_0, a0, t8_2, v5, v7) = p → M_sequentlaw29_TacticChecks_l0 t9_0 a4_0 a0 t8_2 v5 v7 r) ?_
  · intro f_sequentlaw29_TacticChecks_l0 ih_sequentlaw29_TacticChecks_l0 p r e t9_0 a4_0 a0 t8_2 v5 v7 hp
    subst hp
    intro a1 hlx_v7_2_2_2_2_2_2_2_2_2_1 hla4_0
    refine RunsL.of_awp (js := [7]) T_ok ?_; (conv => whnf)
    refine ⟨⟨fun h16 => ?_, fun h16 => ?_⟩⟩
    · replace e := ifp (by first | exact h16 | omega | simpa [ATactic.Ds_all, Tm.Ds_all, Ty.Ds_all, ATactic.D, Tm.D, Ty.D, listAll] using h16) e; (conv => whnf)
      obtain ⟨g18, qg18, e⟩ := bnd e
      obtain ⟨k17, k17a⟩ : ∃ k17 : Nat, t9_0 = k17 := ⟨(t9_0).toNat, by have := wantb_some qg18; omega⟩
      refine ⟨k17, k17a, by have := wantb_some qg18; omega, ?_⟩; simp only [Nat.zero_add]; (conv => whnf)
      obtain ⟨v19, qv19, e⟩ := bnd e
      obtain ⟨v20, qv20, e⟩ := bnd e
      obtain ⟨qv20k, qv20a, qv20b, qv20c⟩ := seti_some qv20
      obtain rfl : k17 = qv20k := by omega
      obtain ⟨qv20k2, qv20a2, qv20b2⟩ := geti_some qv19
      obtain rfl : k17 = qv20k2 := by omega
      have hlv20 : v20.length = (ATactic.Ds v7.2.2.2.2.2.2.2.2.2.2).length := by rw [qv20c]; simp [hla4_0]
      refine .inr ⟨_, (show _ = some (D.agg _) from by first | exact ATactic.Ds_get qv20b2 | simpa [ATactic.Ds_all, Tm.Ds_all, Ty.Ds_all, ATactic.D, Tm.D, Ty.D, listAll] using ATactic.Ds_get qv20b2), rfl, rfl, (by simp), ?_⟩
      (conv => whnf)
      obtain ⟨v21, qv21, e⟩ := bnd e
      refine ⟨v21, sm qv21, ?_⟩; (conv => whnf)
      refine (RunsL.weak ((ih_sequentlaw29_TacticChecks_l0 _ _ e _ _ _ _ _ _ rfl) a1 hlx_v7_2_2_2_2_2_2_2_2_2_1 hlv20) ?_)
      repeat' first | exact wk.of_eq rfl | exact wk.pure rfl | exact wk.un _ | exact wk.hold _ _ _ | exact wk.holdG _ _ _ | exact rfl | exact trivial | refine ⟨?_, ?_⟩ | (refine wk.of_eq ?_; (conv => lhs; whnf); (simp [ATactic.Ds_all, Tm.Ds_all, Ty.Ds_all, ATactic.D, Tm.D, Ty.D, listAll, qv20c, hlx_v7_2_2_2_2_2_2_2_2_2_1, hlv20] <;> (repeat' first | rfl | apply And.intro)); done) | (refine wk.pure ?_; (conv => lhs; whnf); (simp [ATactic.Ds_all, Tm.Ds_all, Ty.Ds_all, ATactic.D, Tm.D, Ty.D, listAll, qv20c, hlx_v7_2_2_2_2_2_2_2_2_2_1, hlv20] <;> (repeat' first | rfl | apply And.intro)); done) | ((simp [ATactic.Ds_all, Tm.Ds_all, Ty.Ds_all, ATactic.D, Tm.D, Ty.D, listAll, qv20c, hlx_v7_2_2_2_2_2_2_2_2_2_1, hlv20] <;> (repeat' first | rfl | apply And.intro)); done) | (simp [ATactic.Ds_all, Tm.Ds_all, Ty.Ds_all, ATactic.D, Tm.D, Ty.D, listAll, qv20c, hlx_v7_2_2_2_2_2_2_2_2_2_1, hlv20]; omega)
    · replace e := ifn (by first | exact h16 | omega | simpa [ATactic.Ds_all, Tm.Ds_all, Ty.Ds_all, ATactic.D, Tm.D, Ty.D, listAll] using h16) e; (conv => whnf)
      refine RunsL.runs (RunsL.weak ((P_sequentlaw29_TacticChecks_l1 e) a1 a4_0 v7 hlx_v7_2_2_2_2_2_2_2_2_2_1 hla4_0) ?_)
      repeat' first | exact wk.of_eq rfl | exact wk.pure rfl | exact wk.un _ | exact wk.hold _ _ _ | exact wk.holdG _ _ _ | exact rfl | exact trivial | refine ⟨?_, ?_⟩ | (refine wk.of_eq ?_; (conv => lhs; whnf); (simp [ATactic.Ds_all, Tm.Ds_all, Ty.Ds_all, ATactic.D, Tm.D, Ty.D, listAll, hlx_v7_2_2_2_2_2_2_2_2_2_1, hla4_0] <;> (repeat' first | rfl | apply And.intro)); done) | (refine wk.pure ?_; (conv => lhs; whnf); (simp [ATactic.Ds_all, Tm.Ds_all, Ty.Ds_all, ATactic.D, Tm.D, Ty.D, listAll, hlx_v7_2_2_2_2_2_2_2_2_2_1, hla4_0] <;> (repeat' first | rfl | apply And.intro)); done) | ((simp [ATactic.Ds_all, Tm.Ds_all, Ty.Ds_all, ATactic.D, Tm.D, Ty.D, listAll, hlx_v7_2_2_2_2_2_2_2_2_2_1, hla4_0] <;> (repeat' first | rfl | apply And.intro)); done) | (simp [ATactic.Ds_all, Tm.Ds_all, Ty.Ds_all, ATactic.D, Tm.D, Ty.D, listAll, hlx_v7_2_2_2_2_2_2_2_2_2_1, hla4_0]; omega)
theorem P_sequentlaw29_TacticChecks_l0 {t9_0 : Int} {a4_0 : (List ATactic)} {a0 : ATactic} {t8_2 : Bool} {v5 : ATactic} {v7 : (Int × Int × Int × Int × ByteArray × Bool × ByteArray × (List Ty) × Int × (List Tm) × (List ATactic))} {r : Bool} (e : sequentlaw29_TacticChecks_l0 t9_0 a4_0 a0 t8_2 v5 v7 = some r) : M_sequentlaw29_TacticChecks_l0 t9_0 a4_0 a0 t8_2 v5 v7 r := G_sequentlaw29_TacticChecks_l0 _ _ e _ _ _ _ _ _ rfl
theorem P_sequentlaw29_TacticChecks_j0 {t8_2 : Bool} {a0 : ATactic} {v5 : ATactic} {v7 : (Int × Int × Int × Int × ByteArray × Bool × ByteArray × (List Ty) × Int × (List Tm) × (List ATactic))} {r : Bool} (e : sequentlaw29_TacticChecks_j0 t8_2 a0 v5 v7 = some r) : ∀ (a1 : ATactic) (hlx_v7_2_2_2_2_2_2_2_2_2_1 : v7.2.2.2.2.2.2.2.2.2.1.length = (Tm.Ds v7.2.2.2.2.2.2.2.2.2.1).length) (hlx_v7_2_2_2_2_2_2_2_2_2_2 : v7.2.2.2.2.2.2.2.2.2.2.length = (ATactic.Ds v7.2.2.2.2.2.2.2.2.2.2).length), JoinAt T Try.prog Try.f7 Fx0 [7] [1, 1, 1, 1, 1, 1, 0, 0] (EP T Try.f7 (.bool r)) [(2, .ptr 0 0 0), (5, .ptr 0 2 0), (7, .ptr 0 5 0), (8, .d (.bool t8_2))] [[.cells [.d (.int .u8 a0.kind), .d (.int .i64 a0.at_), .d (.int .i64 a0.to_), .d (.int .u8 a0.term.kind), .d (.str a0.term.name), .d (.bool a0.term.ty.v), .d (.str a0.term.ty.name), .d (.slice 3 (Ty.Ds a0.term.ty.args)), .d (.int .i64 a0.term.index), .d (.slice 7 (Tm.Ds a0.term.sub)), .d (.slice 11 (ATactic.Ds a0.kids))], .cells [.d (.int .u8 a1.kind), .d (.int .i64 a1.at_), .d (.int .i64 a1.to_), .d (.int .u8 a1.term.kind), .d (.str a1.term.name), .d (.bool a1.term.ty.v), .d (.str a1.term.ty.name), .d (.slice 3 (Ty.Ds a1.term.ty.args)), .d (.int .i64 a1.term.index), .d (.slice 7 (Tm.Ds a1.term.sub)), .d (.slice 11 (ATactic.Ds a1.kids))], .cells [.d (.int .u8 v5.kind), .d (.int .i64 v5.at_), .d (.int .i64 v5.to_), .d (.int .u8 v5.term.kind), .d (.str v5.term.name), .d (.bool v5.term.ty.v), .d (.str v5.term.ty.name), .d (.slice 3 (Ty.Ds v5.term.ty.args)), .d (.int .i64 v5.term.index), .d (.slice 7 (Tm.Ds v5.term.sub)), .d (.slice 11 (ATactic.Ds v5.kids))], .arr 7 (Tm.Ds v7.2.2.2.2.2.2.2.2.2.1), .arr 11 (ATactic.Ds v7.2.2.2.2.2.2.2.2.2.2), .cells [.d (.int .u8 v7.1), .d (.int .i64 v7.2.1), .d (.int .i64 v7.2.2.1), .d (.int .u8 v7.2.2.2.1), .d (.str v7.2.2.2.2.1), .d (.bool v7.2.2.2.2.2.1), .d (.str v7.2.2.2.2.2.2.1), .d (.slice 3 (Ty.Ds v7.2.2.2.2.2.2.2.1)), .d (.int .i64 v7.2.2.2.2.2.2.2.2.1), .arr 0 3 0 (Tm.Ds v7.2.2.2.2.2.2.2.2.2.1).length 7, .arr 0 4 0 (ATactic.Ds v7.2.2.2.2.2.2.2.2.2.2).length 11]]] := by
  unfold sequentlaw29_TacticChecks_j0 at e
  intro a1 hlx_v7_2_2_2_2_2_2_2_2_2_1 hlx_v7_2_2_2_2_2_2_2_2_2_2
  refine Runs.enter T_ok ?_; (conv => whnf)
  refine RunsL.runs (RunsL.weak ((P_sequentlaw29_TacticChecks_l0 e) a1 hlx_v7_2_2_2_2_2_2_2_2_2_1 hlx_v7_2_2_2_2_2_2_2_2_2_2) ?_)
  repeat' first | exact wk.of_eq rfl | exact wk.pure rfl | exact wk.un _ | exact wk.hold _ _ _ | exact wk.holdG _ _ _ | exact rfl | exact trivial | refine ⟨?_, ?_⟩ | (refine wk.of_eq ?_; (conv => lhs; whnf); (simp [ATactic.Ds_all, Tm.Ds_all, Ty.Ds_all, ATactic.D, Tm.D, Ty.D, listAll, hlx_v7_2_2_2_2_2_2_2_2_2_1, hlx_v7_2_2_2_2_2_2_2_2_2_2] <;> (repeat' first | rfl | apply And.intro)); done) | (refine wk.pure ?_; (conv => lhs; whnf); (simp [ATactic.Ds_all, Tm.Ds_all, Ty.Ds_all, ATactic.D, Tm.D, Ty.D, listAll, hlx_v7_2_2_2_2_2_2_2_2_2_1, hlx_v7_2_2_2_2_2_2_2_2_2_2] <;> (repeat' first | rfl | apply And.intro)); done) | ((simp [ATactic.Ds_all, Tm.Ds_all, Ty.Ds_all, ATactic.D, Tm.D, Ty.D, listAll, hlx_v7_2_2_2_2_2_2_2_2_2_1, hlx_v7_2_2_2_2_2_2_2_2_2_2] <;> (repeat' first | rfl | apply And.intro)); done) | (simp [ATactic.Ds_all, Tm.Ds_all, Ty.Ds_all, ATactic.D, Tm.D, Ty.D, listAll, hlx_v7_2_2_2_2_2_2_2_2_2_1, hlx_v7_2_2_2_2_2_2_2_2_2_2]; omega)
theorem P_sequentlaw29_TacticChecks {a0 : ATactic} {a1 : ATactic} {r : Bool} (e : sequentlaw29_TacticChecks a0 a1 = some r) : Pure Try.prog 7 [(ATactic.D a0), (ATactic.D a1)] (.bool r) := by
  unfold sequentlaw29_TacticChecks at e
  refine pure_of_awp (js := [7]) T_ok Try.func7 rfl (by decide +kernel) rfl ?_; (conv => whnf)
  obtain ⟨v1, qv1, e⟩ := bnd e
  refine said_pure (P_sequentref29_Great qv1) rfl ?_; (conv => whnf)
  refine brK.split (fun hb2 => ?_) (fun hb2 => ?_)
  · replace e := ifpb hb2 e; (conv => whnf)
    refine brK.tt hb2 ?_; (conv => whnf)
    refine brK.tt hb2 ?_; (conv => whnf)
    obtain rfl := sm e
    repeat' first | exact rfl | exact trivial | refine ⟨?_, ?_⟩
  · replace e := ifnb hb2 e; (conv => whnf)
    refine brK.ff hb2 ?_; (conv => whnf)
    obtain ⟨v3, qv3, e⟩ := bnd e
    refine said_pure (P_sequentref29_Great qv3) rfl ?_; (conv => whnf)
    refine brK.ff hb2 ?_; (conv => whnf)
    refine brK.split (fun hb4 => ?_) (fun hb4 => ?_)
    · replace e := ifpb hb4 e; (conv => whnf)
      obtain rfl := sm e
      repeat' first | exact rfl | exact trivial | refine ⟨?_, ?_⟩
    · replace e := ifnb hb4 e; (conv => whnf)
      obtain ⟨v5, qv5, e⟩ := bnd e
      refine said_pure (P_sequentref29_Twin qv5) rfl ?_; (conv => whnf)
      obtain ⟨v6, qv6, e⟩ := bnd e
      refine said_pure (P_tactic_Check qv6) rfl ?_; (conv => whnf)
      obtain ⟨v7, qv7, e⟩ := bnd e
      have hlx_v7_2_2_2_2_2_2_2_2_2_1 : v7.2.2.2.2.2.2.2.2.2.1.length = (Tm.Ds v7.2.2.2.2.2.2.2.2.2.1).length := (Tm.Ds_len _).symm
      have hlx_v7_2_2_2_2_2_2_2_2_2_2 : v7.2.2.2.2.2.2.2.2.2.2.length = (ATactic.Ds v7.2.2.2.2.2.2.2.2.2.2).length := (ATactic.Ds_len _).symm
      refine said_iorF (P_tactic_Twin_ar qv7) [] [.d (ATactic.D v5)] rfl ⟨wk.pure rfl, trivial⟩ rfl rfl ?_; (conv => whnf)
      refine draw_rule [] T_ok mixed sequentlaw29_TacticChecks_pl6 (by decide +kernel) ?_; (conv => whnf)
      obtain ⟨v8, qv8, e⟩ := bnd e
      refine said_pure (P_sequentref29_Check qv8) rfl ⟨Keeps.refl _ _, ?_⟩; (conv => whnf)
      refine ⟨⟨fun h9 => ?_, fun h9 => ?_⟩⟩
      · replace e := ifp h9 e; (conv => whnf)
        obtain ⟨v10, qv10, e⟩ := bnd e
        first | (refine said_borrow (P_sequentref29_Same qv10) (by repeat' first | exact rfl | exact trivial | exact ⟨rfl, _, rfl, (by first | rfl | simp [ATactic.Ds_all, Tm.Ds_all, Ty.Ds_all, ATactic.D, Tm.D, Ty.D, listAll, hlx_v7_2_2_2_2_2_2_2_2_2_1, hlx_v7_2_2_2_2_2_2_2_2_2_2]), rfl⟩ | refine ⟨?_, ?_⟩ | ((conv => whnf); refine ⟨?_, ?_⟩)) rfl ⟨Keeps.refl _ _, ?_⟩) | (refine said_borrow2 (P_sequentref29_Same qv10) (by repeat' first | exact rfl | exact trivial | exact ⟨rfl, _, rfl, (by first | rfl | simp [ATactic.Ds_all, Tm.Ds_all, Ty.Ds_all, ATactic.D, Tm.D, Ty.D, listAll, hlx_v7_2_2_2_2_2_2_2_2_2_1, hlx_v7_2_2_2_2_2_2_2_2_2_2]), rfl⟩ | refine ⟨?_, ?_⟩ | ((conv => whnf); refine ⟨?_, ?_⟩)) (by simp [ATactic.Ds_all, Tm.Ds_all, Ty.Ds_all, ATactic.D, Tm.D, Ty.D, listAll] <;> (repeat' first | rfl | apply And.intro)) rfl ⟨Keeps.refl _ _, ?_⟩)
        (conv => whnf)
        refine brK.split (fun hb11 => ?_) (fun hb11 => ?_)
        · replace e := ifpb hb11 e; (conv => whnf)
          refine brK.tt hb11 ?_; (conv => whnf)
          refine brK.tt hb11 ?_; (conv => whnf)
          refine brK.tt hb11 ?_; (conv => whnf)
          refine brK.tt hb11 ?_; (conv => whnf)
          obtain ⟨v12, qv12, e⟩ := bnd e
          refine said_pure (P_tactic_Same qv12) rfl ⟨Keeps.refl _ _, ?_⟩; (conv => whnf)
          refine brK.tt hb11 ?_; (conv => whnf)
          obtain ⟨v13, qv13, e⟩ := bnd e
          refine said_pure (P_sequentref29_Same qv13) rfl ⟨Keeps.refl _ _, ?_⟩; (conv => whnf)
          refine brK.tt hb11 ?_; (conv => whnf)
          refine ⟨⟨fun h14 => ?_, fun h14 => ?_⟩⟩
          · replace e := ifp h14 e; (conv => whnf)
            refine brK.tt hb11 ?_; (conv => whnf)
            obtain ⟨v15, qv15, e⟩ := bnd e
            first | (refine said_borrow (P_tactic_Same qv15) (by repeat' first | exact rfl | exact trivial | exact ⟨rfl, _, rfl, (by first | rfl | simp [ATactic.Ds_all, Tm.Ds_all, Ty.Ds_all, ATactic.D, Tm.D, Ty.D, listAll, hlx_v7_2_2_2_2_2_2_2_2_2_1, hlx_v7_2_2_2_2_2_2_2_2_2_2]), rfl⟩ | refine ⟨?_, ?_⟩ | ((conv => whnf); refine ⟨?_, ?_⟩)) rfl ⟨Keeps.refl _ _, ?_⟩) | (refine said_borrow2 (P_tactic_Same qv15) (by repeat' first | exact rfl | exact trivial | exact ⟨rfl, _, rfl, (by first | rfl | simp [ATactic.Ds_all, Tm.Ds_all, Ty.Ds_all, ATactic.D, Tm.D, Ty.D, listAll, hlx_v7_2_2_2_2_2_2_2_2_2_1, hlx_v7_2_2_2_2_2_2_2_2_2_2]), rfl⟩ | refine ⟨?_, ?_⟩ | ((conv => whnf); refine ⟨?_, ?_⟩)) (by simp [ATactic.Ds_all, Tm.Ds_all, Ty.Ds_all, ATactic.D, Tm.D, Ty.D, listAll] <;> (repeat' first | rfl | apply And.intro)) rfl ⟨Keeps.refl _ _, ?_⟩)
            (conv => whnf)
            refine Runs.weak ((P_sequentlaw29_TacticChecks_j0 e) a1 hlx_v7_2_2_2_2_2_2_2_2_2_1 hlx_v7_2_2_2_2_2_2_2_2_2_2) ?_
            repeat' first | exact wk.of_eq rfl | exact wk.pure rfl | exact wk.un _ | exact wk.hold _ _ _ | exact wk.holdG _ _ _ | exact rfl | exact trivial | refine ⟨?_, ?_⟩ | (refine wk.of_eq ?_; (conv => lhs; whnf); (simp [ATactic.Ds_all, Tm.Ds_all, Ty.Ds_all, ATactic.D, Tm.D, Ty.D, listAll, hlx_v7_2_2_2_2_2_2_2_2_2_1, hlx_v7_2_2_2_2_2_2_2_2_2_2] <;> (repeat' first | rfl | apply And.intro)); done) | (refine wk.pure ?_; (conv => lhs; whnf); (simp [ATactic.Ds_all, Tm.Ds_all, Ty.Ds_all, ATactic.D, Tm.D, Ty.D, listAll, hlx_v7_2_2_2_2_2_2_2_2_2_1, hlx_v7_2_2_2_2_2_2_2_2_2_2] <;> (repeat' first | rfl | apply And.intro)); done) | ((simp [ATactic.Ds_all, Tm.Ds_all, Ty.Ds_all, ATactic.D, Tm.D, Ty.D, listAll, hlx_v7_2_2_2_2_2_2_2_2_2_1, hlx_v7_2_2_2_2_2_2_2_2_2_2] <;> (repeat' first | rfl | apply And.intro)); done) | (simp [ATactic.Ds_all, Tm.Ds_all, Ty.Ds_all, ATactic.D, Tm.D, Ty.D, listAll, hlx_v7_2_2_2_2_2_2_2_2_2_1, hlx_v7_2_2_2_2_2_2_2_2_2_2]; omega)
          · replace e := ifn h14 e; (conv => whnf)
            refine brK.tt hb11 ?_; (conv => whnf)
            refine Runs.weak ((P_sequentlaw29_TacticChecks_j0 e) a1 hlx_v7_2_2_2_2_2_2_2_2_2_1 hlx_v7_2_2_2_2_2_2_2_2_2_2) ?_
            repeat' first | exact wk.of_eq rfl | exact wk.pure rfl | exact wk.un _ | exact wk.hold _ _ _ | exact wk.holdG _ _ _ | exact rfl | exact trivial | refine ⟨?_, ?_⟩ | (refine wk.of_eq ?_; (conv => lhs; whnf); (simp [ATactic.Ds_all, Tm.Ds_all, Ty.Ds_all, ATactic.D, Tm.D, Ty.D, listAll, hlx_v7_2_2_2_2_2_2_2_2_2_1, hlx_v7_2_2_2_2_2_2_2_2_2_2] <;> (repeat' first | rfl | apply And.intro)); done) | (refine wk.pure ?_; (conv => lhs; whnf); (simp [ATactic.Ds_all, Tm.Ds_all, Ty.Ds_all, ATactic.D, Tm.D, Ty.D, listAll, hlx_v7_2_2_2_2_2_2_2_2_2_1, hlx_v7_2_2_2_2_2_2_2_2_2_2] <;> (repeat' first | rfl | apply And.intro)); done) | ((simp [ATactic.Ds_all, Tm.Ds_all, Ty.Ds_all, ATactic.D, Tm.D, Ty.D, listAll, hlx_v7_2_2_2_2_2_2_2_2_2_1, hlx_v7_2_2_2_2_2_2_2_2_2_2] <;> (repeat' first | rfl | apply And.intro)); done) | (simp [ATactic.Ds_all, Tm.Ds_all, Ty.Ds_all, ATactic.D, Tm.D, Ty.D, listAll, hlx_v7_2_2_2_2_2_2_2_2_2_1, hlx_v7_2_2_2_2_2_2_2_2_2_2]; omega)
        · replace e := ifnb hb11 e; (conv => whnf)
          refine brK.ff hb11 ?_; (conv => whnf)
          refine brK.ff hb11 ?_; (conv => whnf)
          refine brK.ff hb11 ?_; (conv => whnf)
          refine brK.ff hb11 ?_; (conv => whnf)
          refine brK.ff hb11 ?_; (conv => whnf)
          refine brK.ff hb11 ?_; (conv => whnf)
          refine brK.ff hb11 ?_; (conv => whnf)
          refine Runs.weak ((P_sequentlaw29_TacticChecks_j0 e) a1 hlx_v7_2_2_2_2_2_2_2_2_2_1 hlx_v7_2_2_2_2_2_2_2_2_2_2) ?_
          repeat' first | exact wk.of_eq rfl | exact wk.pure rfl | exact wk.un _ | exact wk.hold _ _ _ | exact wk.holdG _ _ _ | exact rfl | exact trivial | refine ⟨?_, ?_⟩ | (refine wk.of_eq ?_; (conv => lhs; whnf); (simp [ATactic.Ds_all, Tm.Ds_all, Ty.Ds_all, ATactic.D, Tm.D, Ty.D, listAll, hlx_v7_2_2_2_2_2_2_2_2_2_1, hlx_v7_2_2_2_2_2_2_2_2_2_2] <;> (repeat' first | rfl | apply And.intro)); done) | (refine wk.pure ?_; (conv => lhs; whnf); (simp [ATactic.Ds_all, Tm.Ds_all, Ty.Ds_all, ATactic.D, Tm.D, Ty.D, listAll, hlx_v7_2_2_2_2_2_2_2_2_2_1, hlx_v7_2_2_2_2_2_2_2_2_2_2] <;> (repeat' first | rfl | apply And.intro)); done) | ((simp [ATactic.Ds_all, Tm.Ds_all, Ty.Ds_all, ATactic.D, Tm.D, Ty.D, listAll, hlx_v7_2_2_2_2_2_2_2_2_2_1, hlx_v7_2_2_2_2_2_2_2_2_2_2] <;> (repeat' first | rfl | apply And.intro)); done) | (simp [ATactic.Ds_all, Tm.Ds_all, Ty.Ds_all, ATactic.D, Tm.D, Ty.D, listAll, hlx_v7_2_2_2_2_2_2_2_2_2_1, hlx_v7_2_2_2_2_2_2_2_2_2_2]; omega)
      · replace e := ifn h9 e; (conv => whnf)
        refine Runs.weak ((P_sequentlaw29_TacticChecks_j0 e) a1 hlx_v7_2_2_2_2_2_2_2_2_2_1 hlx_v7_2_2_2_2_2_2_2_2_2_2) ?_
        repeat' first | exact wk.of_eq rfl | exact wk.pure rfl | exact wk.un _ | exact wk.hold _ _ _ | exact wk.holdG _ _ _ | exact rfl | exact trivial | refine ⟨?_, ?_⟩ | (refine wk.of_eq ?_; (conv => lhs; whnf); (simp [ATactic.Ds_all, Tm.Ds_all, Ty.Ds_all, ATactic.D, Tm.D, Ty.D, listAll, hlx_v7_2_2_2_2_2_2_2_2_2_1, hlx_v7_2_2_2_2_2_2_2_2_2_2] <;> (repeat' first | rfl | apply And.intro)); done) | (refine wk.pure ?_; (conv => lhs; whnf); (simp [ATactic.Ds_all, Tm.Ds_all, Ty.Ds_all, ATactic.D, Tm.D, Ty.D, listAll, hlx_v7_2_2_2_2_2_2_2_2_2_1, hlx_v7_2_2_2_2_2_2_2_2_2_2] <;> (repeat' first | rfl | apply And.intro)); done) | ((simp [ATactic.Ds_all, Tm.Ds_all, Ty.Ds_all, ATactic.D, Tm.D, Ty.D, listAll, hlx_v7_2_2_2_2_2_2_2_2_2_1, hlx_v7_2_2_2_2_2_2_2_2_2_2] <;> (repeat' first | rfl | apply And.intro)); done) | (simp [ATactic.Ds_all, Tm.Ds_all, Ty.Ds_all, ATactic.D, Tm.D, Ty.D, listAll, hlx_v7_2_2_2_2_2_2_2_2_2_1, hlx_v7_2_2_2_2_2_2_2_2_2_2]; omega)
end Go.Proofs.Ytdjmibbgoajcaaa.Fw

