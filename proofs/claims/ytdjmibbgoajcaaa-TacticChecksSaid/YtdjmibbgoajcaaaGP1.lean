/- The code computes the functions. -/
import Derived.Test.YtdjmibbgoajcaaaGP0
set_option autoImplicit false
set_option linter.unusedVariables false
set_option linter.unusedSimpArgs false
set_option maxHeartbeats 4000000
namespace Go.Proofs.Ytdjmibbgoajcaaa.Fw
open Go Go.Proofs Go.RowKit
def M_tactic_formed (a0 : ATactic) (a1 : (Option (List (Int × TacticForm)))) (a2 : Int) (a3 : Int) (r : (Int × Bool)) : Prop := Pure Try.prog 89 [(ATactic.D a0), (mapO (D.int .u8) TacticForm.D a1), (.int .i64 a2), (.int .i64 a3)] (.tuple [(.int .i64 r.1), (.bool r.2)])
def M_tactic_formed_j0 (t11_1 : Bool) (c1_0_1 : Bool) (c1_1_1 : Bool) (c1_2_1 : Bool) (c1_3_1 : Int) (c1_4_1 : Int) (a0 : ATactic) (a1 : (Option (List (Int × TacticForm)))) (a2 : Int) (a3 : Int) (r : (Int × Bool)) : Prop := JoinAt T Try.prog Try.f89 Fx0 [2, 7] [1, 1, 0] (EP T Try.f89 (.tuple [(.int .i64 r.1), (.bool r.2)])) [(1, .d (mapO (D.int .u8) TacticForm.D a1)), (2, .d (.int .i64 a2)), (3, .d (.int .i64 a3)), (4, .ptr 0 0 0), (10, .ptr 0 1 0), (11, .d (.bool t11_1))] [[.cells [.d (.int .u8 a0.kind), .d (.int .i64 a0.at_), .d (.int .i64 a0.to_), .d (.int .u8 a0.term.kind), .d (.str a0.term.name), .d (.bool a0.term.ty.v), .d (.str a0.term.ty.name), .d (.slice 3 (Ty.Ds a0.term.ty.args)), .d (.int .i64 a0.term.index), .d (.slice 7 (Tm.Ds a0.term.sub)), .d (.slice 11 (ATactic.Ds a0.kids))], .cells [.d (.bool c1_0_1), .d (.bool c1_1_1), .d (.bool c1_2_1), .d (.int .i64 c1_3_1), .d (.int .i64 c1_4_1)]]]
def M_tactic_formed_j1 (a0 : ATactic) (a1 : (Option (List (Int × TacticForm)))) (a2 : Int) (v12 : Int) (r : (Int × Bool)) : Prop := JoinAt T Try.prog Try.f89 Fx0 [2, 7] [1, 1, 1, 1, 1, 0, 0] (EP T Try.f89 (.tuple [(.int .i64 r.1), (.bool r.2)])) [(1, .d (mapO (D.int .u8) TacticForm.D a1)), (2, .d (.int .i64 a2)), (3, .d (.int .i64 v12)), (4, .ptr 0 0 0)] [[.cells [.d (.int .u8 a0.kind), .d (.int .i64 a0.at_), .d (.int .i64 a0.to_), .d (.int .u8 a0.term.kind), .d (.str a0.term.name), .d (.bool a0.term.ty.v), .d (.str a0.term.ty.name), .d (.slice 3 (Ty.Ds a0.term.ty.args)), .d (.int .i64 a0.term.index), .d (.slice 7 (Tm.Ds a0.term.sub)), .d (.slice 11 (ATactic.Ds a0.kids))]]]
def M_tactic_formed_l0 (rest0 : (List ATactic)) (t3_0 : Int) (a1 : (Option (List (Int × TacticForm)))) (a2 : Int) (r : (Int × Bool)) : Prop := ∀ (a0 : ATactic) (k0 : Nat) (hd0 : rest0 = a0.kids.drop k0), LoopAt T Try.prog Try.f89 Fx0 [2, 7] [1, 1, 1, 1, 1, 0, 1, 0] (EP T Try.f89 (.tuple [(.int .i64 r.1), (.bool r.2)])) [(1, .d (mapO (D.int .u8) TacticForm.D a1)), (2, .d (.int .i64 a2)), (3, .d (.int .i64 t3_0)), (81, .d (.slice 11 (ATactic.Ds a0.kids))), (82, .d (.int .i64 ((ATactic.Ds a0.kids).length : Int))), (83, .d (.int .i64 (k0 : Int)))] [[]]
theorem G_tactic_formed : (∀ p r, tactic_formed' p = some r → ∀ a0 a1 a2 a3, (a0, a1, a2, a3) = p → M_tactic_formed a0 a1 a2 a3 r) ∧
    (∀ p r, tactic_formed_j0' p = some r → ∀ t11_1 c1_0_1 c1_1_1 c1_2_1 c1_3_1 c1_4_1 a0 a1 a2 a3, (t11_1, c1_0_1, c1_1_1, c1_2_1, c1_3_1, c1_4_1, a0, a1, a2, a3) = p → M_tactic_formed_j0 t11_1 c1_0_1 c1_1_1 c1_2_1 c1_3_1 c1_4_1 a0 a1 a2 a3 r) ∧
    (∀ p r, tactic_formed_j1' p = some r → ∀ a0 a1 a2 v12, (a0, a1, a2, v12) = p → M_tactic_formed_j1 a0 a1 a2 v12 r) ∧
    (∀ p r, tactic_formed_l0' p = some r → ∀ rest0 t3_0 a1 a2, (rest0, t3_0, a1, a2) = p → M_tactic_formed_l0 rest0 t3_0 a1 a2 r) := by
  refine tactic_formed'.mutual_partial_correctness (fun (p : (ATactic × (Option (List (Int × TacticForm))) × Int × Int)) (r : (Int × Bool)) => ∀ (a0 : ATactic) (a1 : (Option (List (Int × TacticForm)))) (a2 : Int) (a3 : Int), (a0, a1, a2, a3) = p → M_tactic_formed a0 a1 a2 a3 r) (fun (p : (Bool × Bool × Bool × Bool × Int × Int × ATactic × (Option (List (Int × TacticForm))) × Int × Int)) (r : (Int × Bool)) => ∀ (t11_1 : Bool) (c1_0_1 : Bool) (c1_1_1 : Bool) (c1_2_1 : Bool) (c1_3_1 : Int) (c1_4_1 : Int) (a0 : ATactic) (a1 : (Option (List (Int × TacticForm)))) (a2 : Int) (a3 : Int), (t11_1, c1_0_1, c1_1_1, c1_2_1, c1_3_1, c1_4_1, a0, a1, a2, a3) = p → M_tactic_formed_j0 t11_1 c1_0_1 c1_1_1 c1_2_1 c1_3_1 c1_4_1 a0 a1 a2 a3 r) (fun (p : (ATactic × (Option (List (Int × TacticForm))) × Int × Int)) (r : (Int × Bool)) => ∀ (a0 : ATactic) (a1 : (Option (List (Int × TacticForm)))) (a2 : Int) (v12 : Int), (a0, a1, a2, v12) = p → M_tactic_formed_j1 a0 a1 a2 v12 r) (fun (p : ((List ATactic) × Int × (Option (List (Int × TacticForm))) × Int)) (r : (Int × Bool)) => ∀ (rest0 : (List ATactic)) (t3_0 : Int) (a1 : (Option (List (Int × TacticForm)))) (a2 : Int), (rest0, t3_0, a1, a2) = p → M_tactic_formed_l0 rest0 t3_0 a1 a2 r) ?_ ?_ ?_ ?_
  · intro f_tactic_formed_j0 ih_tactic_formed_j0 p r e a0 a1 a2 a3 hp
    subst hp
    refine pure_of_awp (js := [2, 7]) T_ok Try.func89 rfl (by decide +kernel) rfl ?_; (conv => whnf)
    refine mlookO_of KF_5 (fun v1 hv1 => ?_) (fun hv1 => ?_)
    · (first | rw [hv1] at e | (dsimp only at e; rw [hv1] at e)); (conv => whnf)
      refine Runs.weak (ih_tactic_formed_j0 _ _ e _ _ _ _ _ _ _ _ _ _ rfl) ?_
      repeat' first | exact wk.of_eq rfl | exact wk.pure rfl | exact wk.un _ | exact wk.hold _ _ _ | exact wk.holdG _ _ _ | exact rfl | exact trivial | refine ⟨?_, ?_⟩
    · (first | rw [hv1] at e | (dsimp only at e; rw [hv1] at e)); (conv => whnf)
      refine Runs.weak (ih_tactic_formed_j0 _ _ e _ _ _ _ _ _ _ _ _ _ rfl) ?_
      repeat' first | exact wk.of_eq rfl | exact wk.pure rfl | exact wk.un _ | exact wk.hold _ _ _ | exact wk.holdG _ _ _ | exact rfl | exact trivial | refine ⟨?_, ?_⟩
  · intro f_tactic_formed_j1 ih_tactic_formed_j1 p r e t11_1 c1_0_1 c1_1_1 c1_2_1 c1_3_1 c1_4_1 a0 a1 a2 a3 hp
    subst hp
    refine Runs.enter T_ok ?_; (conv => whnf)
    obtain ⟨v12, qv12, e⟩ := bnd e
    refine ⟨v12, sm qv12, ?_⟩; (conv => whnf)
    refine brK.nsplit (fun hb13 => ?_) (fun hb13 => ?_)
    · replace e := ifpb hb13 e; (conv => whnf)
      refine brK.ntt hb13 ?_; (conv => whnf)
      refine ⟨⟨fun h14 => ?_, fun h14 => ?_⟩⟩
      · replace e := ifp h14 e; (conv => whnf)
        refine brK.ntt hb13 ?_; (conv => whnf)
        obtain rfl := sm e
        repeat' first | exact rfl | exact trivial | refine ⟨?_, ?_⟩
      · replace e := ifn h14 e; (conv => whnf)
        refine brK.ntt hb13 ?_; (conv => whnf)
        refine ⟨⟨fun h15 => ?_, fun h15 => ?_⟩⟩
        · replace e := ifp h15 e; (conv => whnf)
          obtain rfl := sm e
          repeat' first | exact rfl | exact trivial | refine ⟨?_, ?_⟩
        · replace e := ifn h15 e; (conv => whnf)
          refine ⟨⟨fun h16 => ?_, fun h16 => ?_⟩⟩
          · replace e := ifp (by first | exact h16 | omega | simpa [ATactic.Ds_all, Tm.Ds_all, Ty.Ds_all, ATactic.D, Tm.D, Ty.D, listAll] using h16) e; (conv => whnf)
            obtain rfl := sm e
            repeat' first | exact rfl | exact trivial | refine ⟨?_, ?_⟩
          · replace e := ifn (by first | exact h16 | omega | simpa [ATactic.Ds_all, Tm.Ds_all, Ty.Ds_all, ATactic.D, Tm.D, Ty.D, listAll] using h16) e; (conv => whnf)
            refine ⟨⟨fun h17 => ?_, fun h17 => ?_⟩⟩
            · replace e := ifp (by first | exact h17 | omega | simpa [ATactic.Ds_all, Tm.Ds_all, Ty.Ds_all, ATactic.D, Tm.D, Ty.D, listAll] using h17) e; (conv => whnf)
              obtain rfl := sm e
              repeat' first | exact rfl | exact trivial | refine ⟨?_, ?_⟩
            · replace e := ifn (by first | exact h17 | omega | simpa [ATactic.Ds_all, Tm.Ds_all, Ty.Ds_all, ATactic.D, Tm.D, Ty.D, listAll] using h17) e; (conv => whnf)
              refine brK.nsplit (fun hb18 => ?_) (fun hb18 => ?_)
              · replace e := ifpb hb18 e; (conv => whnf)
                refine brK.ntt hb18 ?_; (conv => whnf)
                refine brK.ntt hb18 ?_; (conv => whnf)
                refine brK.ntt hb18 ?_; (conv => whnf)
                refine brK.nsplit (fun hb19 => ?_) (fun hb19 => ?_)
                · replace e := ifpb hb19 e; (conv => whnf)
                  refine brK.ntt hb19 ?_; (conv => whnf)
                  refine brK.ntt hb19 ?_; (conv => whnf)
                  refine brK.ntt hb19 ?_; (conv => whnf)
                  refine brK.nsplit (fun hb20 => ?_) (fun hb20 => ?_)
                  · replace e := ifpb hb20 e; (conv => whnf)
                    refine brK.ntt hb20 ?_; (conv => whnf)
                    refine brK.ntt hb20 ?_; (conv => whnf)
                    refine brK.ntt hb20 ?_; (conv => whnf)
                    refine brK.ntt hb20 ?_; (conv => whnf)
                    refine Runs.weak (ih_tactic_formed_j1 _ _ e _ _ _ _ rfl) ?_
                    repeat' first | exact wk.of_eq rfl | exact wk.pure rfl | exact wk.un _ | exact wk.hold _ _ _ | exact wk.holdG _ _ _ | exact rfl | exact trivial | refine ⟨?_, ?_⟩
                  · replace e := ifnb hb20 e; (conv => whnf)
                    refine brK.nff hb20 ?_; (conv => whnf)
                    refine brK.nff hb20 ?_; (conv => whnf)
                    obtain ⟨v21, qv21, e⟩ := bnd e
                    refine said_pure (P_tactic_empty qv21) rfl ?_; (conv => whnf)
                    refine brK.nff hb20 ?_; (conv => whnf)
                    refine brK.nff hb20 ?_; (conv => whnf)
                    refine brK.nsplit (fun hb22 => ?_) (fun hb22 => ?_)
                    · replace e := ifpb hb22 e; (conv => whnf)
                      refine Runs.weak (ih_tactic_formed_j1 _ _ e _ _ _ _ rfl) ?_
                      repeat' first | exact wk.of_eq rfl | exact wk.pure rfl | exact wk.un _ | exact wk.hold _ _ _ | exact wk.holdG _ _ _ | exact rfl | exact trivial | refine ⟨?_, ?_⟩
                    · replace e := ifnb hb22 e; (conv => whnf)
                      obtain rfl := sm e
                      repeat' first | exact rfl | exact trivial | refine ⟨?_, ?_⟩
                · replace e := ifnb hb19 e; (conv => whnf)
                  refine brK.nff hb19 ?_; (conv => whnf)
                  refine brK.nff hb19 ?_; (conv => whnf)
                  refine ⟨⟨fun h20 => ?_, fun h20 => ?_⟩⟩
                  · replace e := ifp h20 e; (conv => whnf)
                    refine brK.nff hb19 ?_; (conv => whnf)
                    obtain rfl := sm e
                    repeat' first | exact rfl | exact trivial | refine ⟨?_, ?_⟩
                  · replace e := ifn h20 e; (conv => whnf)
                    refine brK.nff hb19 ?_; (conv => whnf)
                    refine brK.nsplit (fun hb21 => ?_) (fun hb21 => ?_)
                    · replace e := ifpb hb21 e; (conv => whnf)
                      refine brK.ntt hb21 ?_; (conv => whnf)
                      refine brK.ntt hb21 ?_; (conv => whnf)
                      refine brK.ntt hb21 ?_; (conv => whnf)
                      refine brK.ntt hb21 ?_; (conv => whnf)
                      refine Runs.weak (ih_tactic_formed_j1 _ _ e _ _ _ _ rfl) ?_
                      repeat' first | exact wk.of_eq rfl | exact wk.pure rfl | exact wk.un _ | exact wk.hold _ _ _ | exact wk.holdG _ _ _ | exact rfl | exact trivial | refine ⟨?_, ?_⟩
                    · replace e := ifnb hb21 e; (conv => whnf)
                      refine brK.nff hb21 ?_; (conv => whnf)
                      refine brK.nff hb21 ?_; (conv => whnf)
                      obtain ⟨v22, qv22, e⟩ := bnd e
                      refine said_pure (P_tactic_empty qv22) rfl ?_; (conv => whnf)
                      refine brK.nff hb21 ?_; (conv => whnf)
                      refine brK.nff hb21 ?_; (conv => whnf)
                      refine brK.nsplit (fun hb23 => ?_) (fun hb23 => ?_)
                      · replace e := ifpb hb23 e; (conv => whnf)
                        refine Runs.weak (ih_tactic_formed_j1 _ _ e _ _ _ _ rfl) ?_
                        repeat' first | exact wk.of_eq rfl | exact wk.pure rfl | exact wk.un _ | exact wk.hold _ _ _ | exact wk.holdG _ _ _ | exact rfl | exact trivial | refine ⟨?_, ?_⟩
                      · replace e := ifnb hb23 e; (conv => whnf)
                        obtain rfl := sm e
                        repeat' first | exact rfl | exact trivial | refine ⟨?_, ?_⟩
              · replace e := ifnb hb18 e; (conv => whnf)
                refine brK.nff hb18 ?_; (conv => whnf)
                refine brK.nff hb18 ?_; (conv => whnf)
                refine ⟨⟨fun h19 => ?_, fun h19 => ?_⟩⟩
                · replace e := ifp h19 e; (conv => whnf)
                  refine brK.nff hb18 ?_; (conv => whnf)
                  obtain rfl := sm e
                  repeat' first | exact rfl | exact trivial | refine ⟨?_, ?_⟩
                · replace e := ifn h19 e; (conv => whnf)
                  refine brK.nff hb18 ?_; (conv => whnf)
                  refine brK.nsplit (fun hb20 => ?_) (fun hb20 => ?_)
                  · replace e := ifpb hb20 e; (conv => whnf)
                    refine brK.ntt hb20 ?_; (conv => whnf)
                    refine brK.ntt hb20 ?_; (conv => whnf)
                    refine brK.ntt hb20 ?_; (conv => whnf)
                    refine brK.nsplit (fun hb21 => ?_) (fun hb21 => ?_)
                    · replace e := ifpb hb21 e; (conv => whnf)
                      refine brK.ntt hb21 ?_; (conv => whnf)
                      refine brK.ntt hb21 ?_; (conv => whnf)
                      refine brK.ntt hb21 ?_; (conv => whnf)
                      refine brK.ntt hb21 ?_; (conv => whnf)
                      refine Runs.weak (ih_tactic_formed_j1 _ _ e _ _ _ _ rfl) ?_
                      repeat' first | exact wk.of_eq rfl | exact wk.pure rfl | exact wk.un _ | exact wk.hold _ _ _ | exact wk.holdG _ _ _ | exact rfl | exact trivial | refine ⟨?_, ?_⟩
                    · replace e := ifnb hb21 e; (conv => whnf)
                      refine brK.nff hb21 ?_; (conv => whnf)
                      refine brK.nff hb21 ?_; (conv => whnf)
                      obtain ⟨v22, qv22, e⟩ := bnd e
                      refine said_pure (P_tactic_empty qv22) rfl ?_; (conv => whnf)
                      refine brK.nff hb21 ?_; (conv => whnf)
                      refine brK.nff hb21 ?_; (conv => whnf)
                      refine brK.nsplit (fun hb23 => ?_) (fun hb23 => ?_)
                      · replace e := ifpb hb23 e; (conv => whnf)
                        refine Runs.weak (ih_tactic_formed_j1 _ _ e _ _ _ _ rfl) ?_
                        repeat' first | exact wk.of_eq rfl | exact wk.pure rfl | exact wk.un _ | exact wk.hold _ _ _ | exact wk.holdG _ _ _ | exact rfl | exact trivial | refine ⟨?_, ?_⟩
                      · replace e := ifnb hb23 e; (conv => whnf)
                        obtain rfl := sm e
                        repeat' first | exact rfl | exact trivial | refine ⟨?_, ?_⟩
                  · replace e := ifnb hb20 e; (conv => whnf)
                    refine brK.nff hb20 ?_; (conv => whnf)
                    refine brK.nff hb20 ?_; (conv => whnf)
                    refine ⟨⟨fun h21 => ?_, fun h21 => ?_⟩⟩
                    · replace e := ifp h21 e; (conv => whnf)
                      refine brK.nff hb20 ?_; (conv => whnf)
                      obtain rfl := sm e
                      repeat' first | exact rfl | exact trivial | refine ⟨?_, ?_⟩
                    · replace e := ifn h21 e; (conv => whnf)
                      refine brK.nff hb20 ?_; (conv => whnf)
                      refine brK.nsplit (fun hb22 => ?_) (fun hb22 => ?_)
                      · replace e := ifpb hb22 e; (conv => whnf)
                        refine brK.ntt hb22 ?_; (conv => whnf)
                        refine brK.ntt hb22 ?_; (conv => whnf)
                        refine brK.ntt hb22 ?_; (conv => whnf)
                        refine brK.ntt hb22 ?_; (conv => whnf)
                        refine Runs.weak (ih_tactic_formed_j1 _ _ e _ _ _ _ rfl) ?_
                        repeat' first | exact wk.of_eq rfl | exact wk.pure rfl | exact wk.un _ | exact wk.hold _ _ _ | exact wk.holdG _ _ _ | exact rfl | exact trivial | refine ⟨?_, ?_⟩
                      · replace e := ifnb hb22 e; (conv => whnf)
                        refine brK.nff hb22 ?_; (conv => whnf)
                        refine brK.nff hb22 ?_; (conv => whnf)
                        obtain ⟨v23, qv23, e⟩ := bnd e
                        refine said_pure (P_tactic_empty qv23) rfl ?_; (conv => whnf)
                        refine brK.nff hb22 ?_; (conv => whnf)
                        refine brK.nff hb22 ?_; (conv => whnf)
                        refine brK.nsplit (fun hb24 => ?_) (fun hb24 => ?_)
                        · replace e := ifpb hb24 e; (conv => whnf)
                          refine Runs.weak (ih_tactic_formed_j1 _ _ e _ _ _ _ rfl) ?_
                          repeat' first | exact wk.of_eq rfl | exact wk.pure rfl | exact wk.un _ | exact wk.hold _ _ _ | exact wk.holdG _ _ _ | exact rfl | exact trivial | refine ⟨?_, ?_⟩
                        · replace e := ifnb hb24 e; (conv => whnf)
                          obtain rfl := sm e
                          repeat' first | exact rfl | exact trivial | refine ⟨?_, ?_⟩
    · replace e := ifnb hb13 e; (conv => whnf)
      refine brK.nff hb13 ?_; (conv => whnf)
      refine brK.nff hb13 ?_; (conv => whnf)
      obtain rfl := sm e
      repeat' first | exact rfl | exact trivial | refine ⟨?_, ?_⟩
  · intro f_tactic_formed_l0 ih_tactic_formed_l0 p r e a0 a1 a2 v12 hp
    subst hp
    refine Runs.enter T_ok ?_; (conv => whnf)
    refine RunsL.runs (RunsL.weak ((ih_tactic_formed_l0 _ _ e _ _ _ _ rfl) a0 0 (by simp)) ?_)
    repeat' first | exact wk.of_eq rfl | exact wk.pure rfl | exact wk.un _ | exact wk.hold _ _ _ | exact wk.holdG _ _ _ | exact rfl | exact trivial | refine ⟨?_, ?_⟩ | (refine wk.of_eq ?_; (conv => lhs; whnf); (simp [ATactic.Ds_all, Tm.Ds_all, Ty.Ds_all, ATactic.D, Tm.D, Ty.D, listAll] <;> (repeat' first | rfl | apply And.intro)); done) | (refine wk.pure ?_; (conv => lhs; whnf); (simp [ATactic.Ds_all, Tm.Ds_all, Ty.Ds_all, ATactic.D, Tm.D, Ty.D, listAll] <;> (repeat' first | rfl | apply And.intro)); done) | ((simp [ATactic.Ds_all, Tm.Ds_all, Ty.Ds_all, ATactic.D, Tm.D, Ty.D, listAll] <;> (repeat' first | rfl | apply And.intro)); done) | (simp [ATactic.Ds_all, Tm.Ds_all, Ty.Ds_all, ATactic.D, Tm.D, Ty.D, listAll]; omega)
  · intro f_tactic_formed f_tactic_formed_l0 ih_tactic_formed ih_tactic_formed_l0 p r e rest0 t3_0 a1 a2 hp
    subst hp
    intro a0 k0 hd0
    refine RunsL.len_tmp 81 rfl fun hlenk0 => ?_
    refine RunsL.of_awp (js := [2, 7]) T_ok ?_; (conv => whnf)
    have hls := ATactic.Ds_len a0.kids
    cases rest0 with
    | nil =>
      have hk := drop_nil hd0
      refine ⟨⟨fun h => absurd h (by omega), fun _ => ?_⟩⟩; (conv => whnf)
      obtain rfl := sm e
      repeat' first | exact rfl | exact trivial | refine ⟨?_, ?_⟩
    | cons v84 rest0 =>
      obtain ⟨hxv84, hd0, hltv84⟩ := drop_head hd0
      refine ⟨⟨fun _ => ?_, fun h => absurd (by omega) h⟩⟩; (conv => whnf)
      refine ⟨k0, _, rfl, ATactic.Ds_get hxv84, ?_⟩; (conv => whnf)
      refine ⟨ATactic.Ds_fit _ rfl rfl, ?_⟩; (conv => whnf)
      obtain ⟨v85, qv85, e⟩ := bnd e
      refine ⟨v85, sm qv85, ?_⟩; (conv => whnf)
      obtain ⟨v86, qv86, e⟩ := bnd e
      refine said_pure (ih_tactic_formed _ _ qv86 _ _ _ _ rfl) rfl ?_; (conv => whnf)
      refine brK.nsplit (fun hb87 => ?_) (fun hb87 => ?_)
      · replace e := ifpb hb87 e; (conv => whnf)
        refine ⟨((k0 + 1 : Nat) : Int), wrap64e (by omega) (by omega) (by omega), ?_⟩; (conv => whnf)
        refine (RunsL.weak ((ih_tactic_formed_l0 _ _ e _ _ _ _ rfl) a0 (k0 + 1) hd0) ?_)
        repeat' first | exact wk.of_eq rfl | exact wk.pure rfl | exact wk.un _ | exact wk.hold _ _ _ | exact wk.holdG _ _ _ | exact rfl | exact trivial | refine ⟨?_, ?_⟩ | (refine wk.of_eq ?_; (conv => lhs; whnf); (simp [ATactic.Ds_all, Tm.Ds_all, Ty.Ds_all, ATactic.D, Tm.D, Ty.D, listAll] <;> (repeat' first | rfl | apply And.intro)); done) | (refine wk.pure ?_; (conv => lhs; whnf); (simp [ATactic.Ds_all, Tm.Ds_all, Ty.Ds_all, ATactic.D, Tm.D, Ty.D, listAll] <;> (repeat' first | rfl | apply And.intro)); done) | ((simp [ATactic.Ds_all, Tm.Ds_all, Ty.Ds_all, ATactic.D, Tm.D, Ty.D, listAll] <;> (repeat' first | rfl | apply And.intro)); done) | (simp [ATactic.Ds_all, Tm.Ds_all, Ty.Ds_all, ATactic.D, Tm.D, Ty.D, listAll]; omega)
      · replace e := ifnb hb87 e; (conv => whnf)
        obtain rfl := sm e
        repeat' first | exact rfl | exact trivial | refine ⟨?_, ?_⟩
theorem P_tactic_formed {a0 : ATactic} {a1 : (Option (List (Int × TacticForm)))} {a2 : Int} {a3 : Int} {r : (Int × Bool)} (e : tactic_formed a0 a1 a2 a3 = some r) : M_tactic_formed a0 a1 a2 a3 r := G_tactic_formed.1 _ _ e _ _ _ _ rfl
def M_terms_extent (a0 : Tm) (r : (Int × Int)) : Prop := Pure Try.prog 148 [(Tm.D a0)] (.tuple [(.int .i64 r.1), (.int .i64 r.2)])
def M_terms_extent_l0 (rest0 : (List Tm)) (t2_0 : Int) (t3_0 : Int) (r : (Int × Int)) : Prop := ∀ (a0 : Tm) (k0 : Nat) (hd0 : rest0 = a0.sub.drop k0), LoopAt T Try.prog Try.f148 Fx0 [] [1, 1, 0, 1, 0] (EP T Try.f148 (.tuple [(.int .i64 r.1), (.int .i64 r.2)])) [(2, .d (.int .i64 t2_0)), (3, .d (.int .i64 t3_0)), (9, .d (.slice 7 (Tm.Ds a0.sub))), (10, .d (.int .i64 ((Tm.Ds a0.sub).length : Int))), (11, .d (.int .i64 (k0 : Int)))] [[]]
theorem G_terms_extent : (∀ p r, terms_extent' p = some r → ∀ a0, a0 = p → M_terms_extent a0 r) ∧
    (∀ p r, terms_extent_l0' p = some r → ∀ rest0 t2_0 t3_0, (rest0, t2_0, t3_0) = p → M_terms_extent_l0 rest0 t2_0 t3_0 r) := by
  refine terms_extent'.mutual_partial_correctness (fun (p : Tm) (r : (Int × Int)) => ∀ (a0 : Tm), a0 = p → M_terms_extent a0 r) (fun (p : ((List Tm) × Int × Int)) (r : (Int × Int)) => ∀ (rest0 : (List Tm)) (t2_0 : Int) (t3_0 : Int), (rest0, t2_0, t3_0) = p → M_terms_extent_l0 rest0 t2_0 t3_0 r) ?_ ?_
  · intro f_terms_extent_l0 ih_terms_extent_l0 p r e a0 hp
    subst hp
    refine pure_of_awp (js := []) T_ok Try.func148 rfl (by decide +kernel) rfl ?_; (conv => whnf)
    refine RunsL.runs (RunsL.weak ((ih_terms_extent_l0 _ _ e _ _ _ rfl) a0 0 (by simp)) ?_)
    repeat' first | exact wk.of_eq rfl | exact wk.pure rfl | exact wk.un _ | exact wk.hold _ _ _ | exact wk.holdG _ _ _ | exact rfl | exact trivial | refine ⟨?_, ?_⟩ | (refine wk.of_eq ?_; (conv => lhs; whnf); (simp [Tm.Ds_all, Ty.Ds_all, Tm.D, Ty.D, listAll] <;> (repeat' first | rfl | apply And.intro)); done) | (refine wk.pure ?_; (conv => lhs; whnf); (simp [Tm.Ds_all, Ty.Ds_all, Tm.D, Ty.D, listAll] <;> (repeat' first | rfl | apply And.intro)); done) | ((simp [Tm.Ds_all, Ty.Ds_all, Tm.D, Ty.D, listAll] <;> (repeat' first | rfl | apply And.intro)); done) | (simp [Tm.Ds_all, Ty.Ds_all, Tm.D, Ty.D, listAll]; omega)
  · intro f_terms_extent f_terms_extent_l0 ih_terms_extent ih_terms_extent_l0 p r e rest0 t2_0 t3_0 hp
    subst hp
    intro a0 k0 hd0
    refine RunsL.len_tmp 9 rfl fun hlenk0 => ?_
    refine RunsL.of_awp (js := []) T_ok ?_; (conv => whnf)
    have hls := Tm.Ds_len a0.sub
    cases rest0 with
    | nil =>
      have hk := drop_nil hd0
      refine ⟨⟨fun h => absurd h (by omega), fun _ => ?_⟩⟩; (conv => whnf)
      obtain ⟨v13, qv13, e⟩ := bnd e
      refine ⟨v13, sm qv13, ?_⟩; (conv => whnf)
      obtain rfl := sm e
      repeat' first | exact rfl | exact trivial | refine ⟨?_, ?_⟩
    | cons v12 rest0 =>
      obtain ⟨hxv12, hd0, hltv12⟩ := drop_head hd0
      refine ⟨⟨fun _ => ?_, fun h => absurd (by omega) h⟩⟩; (conv => whnf)
      refine ⟨k0, _, rfl, Tm.Ds_get hxv12, ?_⟩; (conv => whnf)
      refine ⟨Tm.Ds_fit _ rfl rfl, ?_⟩; (conv => whnf)
      obtain ⟨v13, qv13, e⟩ := bnd e
      refine said_pure (ih_terms_extent _ _ qv13 _ rfl) rfl ?_; (conv => whnf)
      obtain ⟨v14, qv14, e⟩ := bnd e
      refine ⟨v14, sm qv14, ?_⟩; (conv => whnf)
      refine ⟨((k0 + 1 : Nat) : Int), wrap64e (by omega) (by omega) (by omega), ?_⟩; (conv => whnf)
      refine (RunsL.weak ((ih_terms_extent_l0 _ _ e _ _ _ rfl) a0 (k0 + 1) hd0) ?_)
      repeat' first | exact wk.of_eq rfl | exact wk.pure rfl | exact wk.un _ | exact wk.hold _ _ _ | exact wk.holdG _ _ _ | exact rfl | exact trivial | refine ⟨?_, ?_⟩ | (refine wk.of_eq ?_; (conv => lhs; whnf); (simp [Tm.Ds_all, Ty.Ds_all, Tm.D, Ty.D, listAll] <;> (repeat' first | rfl | apply And.intro)); done) | (refine wk.pure ?_; (conv => lhs; whnf); (simp [Tm.Ds_all, Ty.Ds_all, Tm.D, Ty.D, listAll] <;> (repeat' first | rfl | apply And.intro)); done) | ((simp [Tm.Ds_all, Ty.Ds_all, Tm.D, Ty.D, listAll] <;> (repeat' first | rfl | apply And.intro)); done) | (simp [Tm.Ds_all, Ty.Ds_all, Tm.D, Ty.D, listAll]; omega)
theorem P_terms_extent {a0 : Tm} {r : (Int × Int)} (e : terms_extent a0 = some r) : M_terms_extent a0 r := G_terms_extent.1 _ _ e _ rfl
theorem P_terms_great {a0 : Tm} {r : Bool} (e : terms_great a0 = some r) : Pure Try.prog 130 [(Tm.D a0)] (.bool r) := by
  unfold terms_great at e
  refine pure_of_awp (js := []) T_ok Try.func130 rfl (by decide +kernel) rfl ?_; (conv => whnf)
  obtain ⟨v1, qv1, e⟩ := bnd e
  refine said_pure (P_terms_extent qv1) rfl ?_; (conv => whnf)
  refine ⟨⟨fun h2 => ?_, fun h2 => ?_⟩⟩
  · replace e := ifp h2 e; (conv => whnf)
    obtain rfl := sm e
    repeat' first | exact rfl | exact trivial | refine ⟨?_, ?_⟩
  · replace e := ifn h2 e; (conv => whnf)
    refine test.dec ?_; (conv => whnf)
    obtain rfl := sm e
    repeat' first | exact rfl | exact trivial | refine ⟨?_, ?_⟩
theorem P_terms_plain {a0 : Tm} {a1 : Bool} {a2 : Bool} {a3 : Bool} {r : Bool} (e : terms_plain a0 a1 a2 a3 = some r) : Pure Try.prog 162 [(Tm.D a0), (.bool a1), (.bool a2), (.bool a3)] (.bool r) := by
  unfold terms_plain at e
  refine pure_of_awp (js := []) T_ok Try.func162 rfl (by decide +kernel) rfl ?_; (conv => whnf)
  refine brK.split (fun hb1 => ?_) (fun hb1 => ?_)
  · replace e := ifpb hb1 e; (conv => whnf)
    refine brK.tt hb1 ?_; (conv => whnf)
    refine brK.tt hb1 ?_; (conv => whnf)
    refine brK.tt hb1 ?_; (conv => whnf)
    refine brK.split (fun hb2 => ?_) (fun hb2 => ?_)
    · replace e := ifpb hb2 e; (conv => whnf)
      refine brK.tt hb2 ?_; (conv => whnf)
      refine brK.tt hb2 ?_; (conv => whnf)
      refine brK.tt hb2 ?_; (conv => whnf)
      refine brK.tt hb2 ?_; (conv => whnf)
      refine brK.tt hb2 ?_; (conv => whnf)
      refine brK.tt hb2 ?_; (conv => whnf)
      refine brK.tt hb2 ?_; (conv => whnf)
      refine brK.tt hb2 ?_; (conv => whnf)
      refine brK.split (fun hb3 => ?_) (fun hb3 => ?_)
      · replace e := ifpb hb3 e; (conv => whnf)
        refine brK.tt hb3 ?_; (conv => whnf)
        refine brK.tt hb3 ?_; (conv => whnf)
        refine brK.tt hb3 ?_; (conv => whnf)
        obtain rfl := sm e
        repeat' first | exact rfl | exact trivial | refine ⟨?_, ?_⟩
      · replace e := ifnb hb3 e; (conv => whnf)
        refine brK.ff hb3 ?_; (conv => whnf)
        refine brK.ff hb3 ?_; (conv => whnf)
        refine test.dec ?_; (conv => whnf)
        refine brK.ff hb3 ?_; (conv => whnf)
        obtain rfl := sm e
        repeat' first | exact rfl | exact trivial | refine ⟨?_, ?_⟩
    · replace e := ifnb hb2 e; (conv => whnf)
      refine brK.ff hb2 ?_; (conv => whnf)
      refine brK.ff hb2 ?_; (conv => whnf)
      refine brK.ff hb2 ?_; (conv => whnf)
      refine brK.ff hb2 ?_; (conv => whnf)
      refine brK.nsplit (fun hb3 => ?_) (fun hb3 => ?_)
      · replace e := ifpb hb3 e; (conv => whnf)
        refine brK.ntt hb3 ?_; (conv => whnf)
        refine brK.ntt hb3 ?_; (conv => whnf)
        refine brK.ntt hb3 ?_; (conv => whnf)
        refine brK.ff hb2 ?_; (conv => whnf)
        refine brK.ntt hb3 ?_; (conv => whnf)
        refine brK.ff hb2 ?_; (conv => whnf)
        refine brK.ff hb2 ?_; (conv => whnf)
        refine brK.ff hb2 ?_; (conv => whnf)
        obtain rfl := sm e
        repeat' first | exact rfl | exact trivial | refine ⟨?_, ?_⟩
      · replace e := ifnb hb3 e; (conv => whnf)
        refine brK.nff hb3 ?_; (conv => whnf)
        refine brK.nff hb3 ?_; (conv => whnf)
        refine brK.nff hb3 ?_; (conv => whnf)
        refine ⟨⟨fun h4 => ?_, fun h4 => ?_⟩⟩
        · replace e := ifp h4 e; (conv => whnf)
          refine brK.ff hb2 ?_; (conv => whnf)
          refine brK.nff hb3 ?_; (conv => whnf)
          refine brK.ff hb2 ?_; (conv => whnf)
          refine ⟨⟨fun h5 => ?_, fun h5 => ?_⟩⟩
          · replace e := ifp (by first | exact h5 | omega | simpa [Tm.Ds_all, Ty.Ds_all, Tm.D, Ty.D, listAll] using h5) e; (conv => whnf)
            refine brK.ff hb2 ?_; (conv => whnf)
            refine brK.ff hb2 ?_; (conv => whnf)
            refine brK.split (fun hb6 => ?_) (fun hb6 => ?_)
            · replace e := ifpb hb6 e; (conv => whnf)
              refine brK.tt hb6 ?_; (conv => whnf)
              refine brK.tt hb6 ?_; (conv => whnf)
              refine brK.tt hb6 ?_; (conv => whnf)
              obtain rfl := sm e
              repeat' first | exact rfl | exact trivial | refine ⟨?_, ?_⟩
            · replace e := ifnb hb6 e; (conv => whnf)
              refine brK.ff hb6 ?_; (conv => whnf)
              refine brK.ff hb6 ?_; (conv => whnf)
              refine test.dec ?_; (conv => whnf)
              refine brK.ff hb6 ?_; (conv => whnf)
              obtain rfl := sm e
              repeat' first | exact rfl | exact trivial | refine ⟨?_, ?_⟩
          · replace e := ifn (by first | exact h5 | omega | simpa [Tm.Ds_all, Ty.Ds_all, Tm.D, Ty.D, listAll] using h5) e; (conv => whnf)
            refine brK.ff hb2 ?_; (conv => whnf)
            refine brK.ff hb2 ?_; (conv => whnf)
            obtain rfl := sm e
            repeat' first | exact rfl | exact trivial | refine ⟨?_, ?_⟩
        · replace e := ifn h4 e; (conv => whnf)
          refine brK.ff hb2 ?_; (conv => whnf)
          refine brK.nff hb3 ?_; (conv => whnf)
          refine brK.ff hb2 ?_; (conv => whnf)
          refine brK.ff hb2 ?_; (conv => whnf)
          refine brK.ff hb2 ?_; (conv => whnf)
          obtain rfl := sm e
          repeat' first | exact rfl | exact trivial | refine ⟨?_, ?_⟩
  · replace e := ifnb hb1 e; (conv => whnf)
    refine brK.ff hb1 ?_; (conv => whnf)
    refine brK.ff hb1 ?_; (conv => whnf)
    refine ⟨⟨fun h2 => ?_, fun h2 => ?_⟩⟩
    · replace e := ifp h2 e; (conv => whnf)
      refine brK.ff hb1 ?_; (conv => whnf)
      refine brK.split (fun hb3 => ?_) (fun hb3 => ?_)
      · replace e := ifpb hb3 e; (conv => whnf)
        refine brK.tt hb3 ?_; (conv => whnf)
        refine brK.tt hb3 ?_; (conv => whnf)
        refine brK.tt hb3 ?_; (conv => whnf)
        refine brK.tt hb3 ?_; (conv => whnf)
        refine brK.tt hb3 ?_; (conv => whnf)
        refine brK.tt hb3 ?_; (conv => whnf)
        refine brK.tt hb3 ?_; (conv => whnf)
        refine brK.tt hb3 ?_; (conv => whnf)
        refine brK.split (fun hb4 => ?_) (fun hb4 => ?_)
        · replace e := ifpb hb4 e; (conv => whnf)
          refine brK.tt hb4 ?_; (conv => whnf)
          refine brK.tt hb4 ?_; (conv => whnf)
          refine brK.tt hb4 ?_; (conv => whnf)
          obtain rfl := sm e
          repeat' first | exact rfl | exact trivial | refine ⟨?_, ?_⟩
        · replace e := ifnb hb4 e; (conv => whnf)
          refine brK.ff hb4 ?_; (conv => whnf)
          refine brK.ff hb4 ?_; (conv => whnf)
          refine test.dec ?_; (conv => whnf)
          refine brK.ff hb4 ?_; (conv => whnf)
          obtain rfl := sm e
          repeat' first | exact rfl | exact trivial | refine ⟨?_, ?_⟩
      · replace e := ifnb hb3 e; (conv => whnf)
        refine brK.ff hb3 ?_; (conv => whnf)
        refine brK.ff hb3 ?_; (conv => whnf)
        refine brK.ff hb3 ?_; (conv => whnf)
        refine brK.ff hb3 ?_; (conv => whnf)
        refine brK.nsplit (fun hb4 => ?_) (fun hb4 => ?_)
        · replace e := ifpb hb4 e; (conv => whnf)
          refine brK.ntt hb4 ?_; (conv => whnf)
          refine brK.ntt hb4 ?_; (conv => whnf)
          refine brK.ntt hb4 ?_; (conv => whnf)
          refine brK.ff hb3 ?_; (conv => whnf)
          refine brK.ntt hb4 ?_; (conv => whnf)
          refine brK.ff hb3 ?_; (conv => whnf)
          refine brK.ff hb3 ?_; (conv => whnf)
          refine brK.ff hb3 ?_; (conv => whnf)
          obtain rfl := sm e
          repeat' first | exact rfl | exact trivial | refine ⟨?_, ?_⟩
        · replace e := ifnb hb4 e; (conv => whnf)
          refine brK.nff hb4 ?_; (conv => whnf)
          refine brK.nff hb4 ?_; (conv => whnf)
          refine brK.nff hb4 ?_; (conv => whnf)
          refine ⟨⟨fun h5 => ?_, fun h5 => ?_⟩⟩
          · replace e := ifp h5 e; (conv => whnf)
            refine brK.ff hb3 ?_; (conv => whnf)
            refine brK.nff hb4 ?_; (conv => whnf)
            refine brK.ff hb3 ?_; (conv => whnf)
            refine ⟨⟨fun h6 => ?_, fun h6 => ?_⟩⟩
            · replace e := ifp (by first | exact h6 | omega | simpa [Tm.Ds_all, Ty.Ds_all, Tm.D, Ty.D, listAll] using h6) e; (conv => whnf)
              refine brK.ff hb3 ?_; (conv => whnf)
              refine brK.ff hb3 ?_; (conv => whnf)
              refine brK.split (fun hb7 => ?_) (fun hb7 => ?_)
              · replace e := ifpb hb7 e; (conv => whnf)
                refine brK.tt hb7 ?_; (conv => whnf)
                refine brK.tt hb7 ?_; (conv => whnf)
                refine brK.tt hb7 ?_; (conv => whnf)
                obtain rfl := sm e
                repeat' first | exact rfl | exact trivial | refine ⟨?_, ?_⟩
              · replace e := ifnb hb7 e; (conv => whnf)
                refine brK.ff hb7 ?_; (conv => whnf)
                refine brK.ff hb7 ?_; (conv => whnf)
                refine test.dec ?_; (conv => whnf)
                refine brK.ff hb7 ?_; (conv => whnf)
                obtain rfl := sm e
                repeat' first | exact rfl | exact trivial | refine ⟨?_, ?_⟩
            · replace e := ifn (by first | exact h6 | omega | simpa [Tm.Ds_all, Ty.Ds_all, Tm.D, Ty.D, listAll] using h6) e; (conv => whnf)
              refine brK.ff hb3 ?_; (conv => whnf)
              refine brK.ff hb3 ?_; (conv => whnf)
              obtain rfl := sm e
              repeat' first | exact rfl | exact trivial | refine ⟨?_, ?_⟩
          · replace e := ifn h5 e; (conv => whnf)
            refine brK.ff hb3 ?_; (conv => whnf)
            refine brK.nff hb4 ?_; (conv => whnf)
            refine brK.ff hb3 ?_; (conv => whnf)
            refine brK.ff hb3 ?_; (conv => whnf)
            refine brK.ff hb3 ?_; (conv => whnf)
            obtain rfl := sm e
            repeat' first | exact rfl | exact trivial | refine ⟨?_, ?_⟩
    · replace e := ifn h2 e; (conv => whnf)
      refine brK.ff hb1 ?_; (conv => whnf)
      obtain rfl := sm e
      repeat' first | exact rfl | exact trivial | refine ⟨?_, ?_⟩
def M_types_name_l0 (t7_0 : Int) (a0 : ByteArray) (r : Bool) : Prop := LoopAt T Try.prog Try.f175 Fx0 [] [1, 0, 1, 0] (EP T Try.f175 (.bool r)) [(0, .d (.str a0)), (6, .d (.int .i64 (a0.size : Int))), (7, .d (.int .i64 t7_0))] [[]]
theorem G_types_name_l0 : (∀ p r, types_name_l0' p = some r → ∀ t7_0 a0, (t7_0, a0) = p → M_types_name_l0 t7_0 a0 r) := by
  refine types_name_l0'.partial_correctness (fun (p : (Int × ByteArray)) (r : Bool) => ∀ (t7_0 : Int) (a0 : ByteArray), (t7_0, a0) = p → M_types_name_l0 t7_0 a0 r) ?_
  · intro f_types_name_l0 ih_types_name_l0 p r e t7_0 a0 hp
    subst hp
    refine RunsL.of_awp (js := []) T_ok ?_; (conv => whnf)
    refine ⟨⟨fun h8 => ?_, fun h8 => ?_⟩⟩
    · replace e := ifp h8 e; (conv => whnf)
      obtain ⟨v9, qv9, e⟩ := bnd e
      obtain ⟨qv9k, qv9q, qv9a, qv9b, qv9c⟩ := getb_some qv9
      refine ⟨qv9k, qv9q, qv9a, qv9b, ?_⟩; rw [qv9c]; (conv => whnf)
      refine ⟨⟨fun h10 => ?_, fun h10 => ?_⟩⟩
      · replace e := ifp h10 e; (conv => whnf)
        obtain rfl := sm e
        repeat' first | exact rfl | exact trivial | refine ⟨?_, ?_⟩
      · replace e := ifn h10 e; (conv => whnf)
        refine ⟨⟨fun h11 => ?_, fun h11 => ?_⟩⟩
        · replace e := ifp h11 e; (conv => whnf)
          obtain rfl := sm e
          repeat' first | exact rfl | exact trivial | refine ⟨?_, ?_⟩
        · replace e := ifn h11 e; (conv => whnf)
          refine ⟨⟨fun h12 => ?_, fun h12 => ?_⟩⟩
          · replace e := ifp h12 e; (conv => whnf)
            obtain rfl := sm e
            repeat' first | exact rfl | exact trivial | refine ⟨?_, ?_⟩
          · replace e := ifn h12 e; (conv => whnf)
            refine ⟨⟨fun h13 => ?_, fun h13 => ?_⟩⟩
            · replace e := ifp h13 e; (conv => whnf)
              obtain rfl := sm e
              repeat' first | exact rfl | exact trivial | refine ⟨?_, ?_⟩
            · replace e := ifn h13 e; (conv => whnf)
              refine ⟨⟨fun h14 => ?_, fun h14 => ?_⟩⟩
              · replace e := ifp h14 e; (conv => whnf)
                obtain rfl := sm e
                repeat' first | exact rfl | exact trivial | refine ⟨?_, ?_⟩
              · replace e := ifn h14 e; (conv => whnf)
                refine ⟨⟨fun h15 => ?_, fun h15 => ?_⟩⟩
                · replace e := ifp h15 e; (conv => whnf)
                  obtain rfl := sm e
                  repeat' first | exact rfl | exact trivial | refine ⟨?_, ?_⟩
                · replace e := ifn h15 e; (conv => whnf)
                  refine ⟨⟨fun h16 => ?_, fun h16 => ?_⟩⟩
                  · replace e := ifp h16 e; (conv => whnf)
                    obtain rfl := sm e
                    repeat' first | exact rfl | exact trivial | refine ⟨?_, ?_⟩
                  · replace e := ifn h16 e; (conv => whnf)
                    refine ⟨⟨fun h17 => ?_, fun h17 => ?_⟩⟩
                    · replace e := ifp h17 e; (conv => whnf)
                      obtain rfl := sm e
                      repeat' first | exact rfl | exact trivial | refine ⟨?_, ?_⟩
                    · replace e := ifn h17 e; (conv => whnf)
                      refine ⟨⟨fun h18 => ?_, fun h18 => ?_⟩⟩
                      · replace e := ifp h18 e; (conv => whnf)
                        obtain rfl := sm e
                        repeat' first | exact rfl | exact trivial | refine ⟨?_, ?_⟩
                      · replace e := ifn h18 e; (conv => whnf)
                        obtain ⟨v19, qv19, e⟩ := bnd e
                        refine ⟨v19, sm qv19, ?_⟩; (conv => whnf)
                        refine (RunsL.weak (ih_types_name_l0 _ _ e _ _ rfl) ?_)
                        repeat' first | exact wk.of_eq rfl | exact wk.pure rfl | exact wk.un _ | exact wk.hold _ _ _ | exact wk.holdG _ _ _ | exact rfl | exact trivial | refine ⟨?_, ?_⟩
    · replace e := ifn h8 e; (conv => whnf)
      refine ⟨⟨fun h9 => ?_, fun h9 => ?_⟩⟩
      · replace e := ifp h9 e; (conv => whnf)
        refine test.dec ?_; (conv => whnf)
        obtain rfl := sm e
        repeat' first | exact rfl | exact trivial | refine ⟨?_, ?_⟩
      · replace e := ifn h9 e; (conv => whnf)
        obtain rfl := sm e
        repeat' first | exact rfl | exact trivial | refine ⟨?_, ?_⟩
theorem P_types_name_l0 {t7_0 : Int} {a0 : ByteArray} {r : Bool} (e : types_name_l0 t7_0 a0 = some r) : M_types_name_l0 t7_0 a0 r := G_types_name_l0 _ _ e _ _ rfl
theorem P_types_name {a0 : ByteArray} {r : Bool} (e : types_name a0 = some r) : Pure Try.prog 175 [(.str a0)] (.bool r) := by
  unfold types_name at e
  refine pure_of_awp (js := []) T_ok Try.func175 rfl (by decide +kernel) rfl ?_; (conv => whnf)
  refine RunsL.runs (RunsL.weak (P_types_name_l0 e) ?_)
  repeat' first | exact wk.of_eq rfl | exact wk.pure rfl | exact wk.un _ | exact wk.hold _ _ _ | exact wk.holdG _ _ _ | exact rfl | exact trivial | refine ⟨?_, ?_⟩
theorem P_types_variable {a0 : ByteArray} {r : Bool} (e : types_variable a0 = some r) : Pure Try.prog 174 [(.str a0)] (.bool r) := by
  unfold types_variable at e
  refine pure_of_awp (js := []) T_ok Try.func174 rfl (by decide +kernel) rfl ?_; (conv => whnf)
  obtain ⟨v1, qv1, e⟩ := bnd e
  refine said_pure (P_types_name qv1) rfl ?_; (conv => whnf)
  refine brK.split (fun hb2 => ?_) (fun hb2 => ?_)
  · replace e := ifpb hb2 e; (conv => whnf)
    refine brK.tt hb2 ?_; (conv => whnf)
    obtain ⟨v3, qv3, e⟩ := bnd e
    obtain ⟨qv3k, qv3q, qv3a, qv3b, qv3c⟩ := getb_some qv3
    refine ⟨qv3k, qv3q, qv3a, qv3b, ?_⟩; rw [qv3c]; (conv => whnf)
    refine brK.tt hb2 ?_; (conv => whnf)
    refine test.dec ?_; (conv => whnf)
    refine brK.tt hb2 ?_; (conv => whnf)
    obtain rfl := sm e
    repeat' first | exact rfl | exact trivial | refine ⟨?_, ?_⟩
  · replace e := ifnb hb2 e; (conv => whnf)
    refine brK.ff hb2 ?_; (conv => whnf)
    refine brK.ff hb2 ?_; (conv => whnf)
    refine brK.ff hb2 ?_; (conv => whnf)
    obtain rfl := sm e
    repeat' first | exact rfl | exact trivial | refine ⟨?_, ?_⟩
def M_types_measure (a0 : Ty) (r : (Int × Int × Bool)) : Prop := Pure Try.prog 172 [(Ty.D a0)] (.tuple [(.int .i64 r.1), (.int .i64 r.2.1), (.bool r.2.2)])
def M_types_measure_j0 (t4_1 : Bool) (a0 : Ty) (r : (Int × Int × Bool)) : Prop := JoinAt T Try.prog Try.f172 Fx0 [5] [1, 1, 1, 0, 0] (EP T Try.f172 (.tuple [(.int .i64 r.1), (.int .i64 r.2.1), (.bool r.2.2)])) [(1, .ptr 0 0 0), (2, .d (.int .i64 1)), (3, .d (.int .i64 0)), (4, .d (.bool t4_1))] [[.cells [.d (.bool a0.v), .d (.str a0.name), .d (.slice 3 (Ty.Ds a0.args))]]]
def M_types_measure_l0 (rest0 : (List Ty)) (t2_0 : Int) (t3_0 : Int) (t4_0 : Bool) (r : (Int × Int × Bool)) : Prop := ∀ (a0 : Ty) (k0 : Nat) (hd0 : rest0 = a0.args.drop k0), LoopAt T Try.prog Try.f172 Fx0 [5] [1, 1, 1, 0, 1, 0] (EP T Try.f172 (.tuple [(.int .i64 r.1), (.int .i64 r.2.1), (.bool r.2.2)])) [(2, .d (.int .i64 t2_0)), (3, .d (.int .i64 t3_0)), (4, .d (.bool t4_0)), (37, .d (.slice 3 (Ty.Ds a0.args))), (38, .d (.int .i64 ((Ty.Ds a0.args).length : Int))), (39, .d (.int .i64 (k0 : Int)))] [[]]
theorem G_types_measure : (∀ p r, types_measure' p = some r → ∀ a0, a0 = p → M_types_measure a0 r) ∧
    (∀ p r, types_measure_j0' p = some r → ∀ t4_1 a0, (t4_1, a0) = p → M_types_measure_j0 t4_1 a0 r) ∧
    (∀ p r, types_measure_l0' p = some r → ∀ rest0 t2_0 t3_0 t4_0, (rest0, t2_0, t3_0, t4_0) = p → M_types_measure_l0 rest0 t2_0 t3_0 t4_0 r) := by
  refine types_measure'.mutual_partial_correctness (fun (p : Ty) (r : (Int × Int × Bool)) => ∀ (a0 : Ty), a0 = p → M_types_measure a0 r) (fun (p : (Bool × Ty)) (r : (Int × Int × Bool)) => ∀ (t4_1 : Bool) (a0 : Ty), (t4_1, a0) = p → M_types_measure_j0 t4_1 a0 r) (fun (p : ((List Ty) × Int × Int × Bool)) (r : (Int × Int × Bool)) => ∀ (rest0 : (List Ty)) (t2_0 : Int) (t3_0 : Int) (t4_0 : Bool), (rest0, t2_0, t3_0, t4_0) = p → M_types_measure_l0 rest0 t2_0 t3_0 t4_0 r) ?_ ?_ ?_
  · intro f_types_measure_j0 ih_types_measure_j0 p r e a0 hp
    subst hp
    refine pure_of_awp (js := [5]) T_ok Try.func172 rfl (by decide +kernel) rfl ?_; (conv => whnf)
    refine brK.split (fun hb1 => ?_) (fun hb1 => ?_)
    · replace e := ifpb hb1 e; (conv => whnf)
      obtain ⟨v2, qv2, e⟩ := bnd e
      refine said_pure (P_types_variable qv2) rfl ?_; (conv => whnf)
      refine brK.split (fun hb3 => ?_) (fun hb3 => ?_)
      · replace e := ifpb hb3 e; (conv => whnf)
        refine brK.tt hb3 ?_; (conv => whnf)
        refine brK.tt hb3 ?_; (conv => whnf)
        refine brK.tt hb3 ?_; (conv => whnf)
        refine ⟨⟨fun h4 => ?_, fun h4 => ?_⟩⟩
        · replace e := ifp (by first | exact h4 | omega | simpa [Ty.Ds_all, Ty.D, listAll] using h4) e; (conv => whnf)
          refine brK.tt hb3 ?_; (conv => whnf)
          refine Runs.weak (ih_types_measure_j0 _ _ e _ _ rfl) ?_
          repeat' first | exact wk.of_eq rfl | exact wk.pure rfl | exact wk.un _ | exact wk.hold _ _ _ | exact wk.holdG _ _ _ | exact rfl | exact trivial | refine ⟨?_, ?_⟩
        · replace e := ifn (by first | exact h4 | omega | simpa [Ty.Ds_all, Ty.D, listAll] using h4) e; (conv => whnf)
          refine brK.tt hb3 ?_; (conv => whnf)
          refine Runs.weak (ih_types_measure_j0 _ _ e _ _ rfl) ?_
          repeat' first | exact wk.of_eq rfl | exact wk.pure rfl | exact wk.un _ | exact wk.hold _ _ _ | exact wk.holdG _ _ _ | exact rfl | exact trivial | refine ⟨?_, ?_⟩
      · replace e := ifnb hb3 e; (conv => whnf)
        refine brK.ff hb3 ?_; (conv => whnf)
        refine brK.ff hb3 ?_; (conv => whnf)
        refine brK.ff hb3 ?_; (conv => whnf)
        refine brK.ff hb3 ?_; (conv => whnf)
        refine Runs.weak (ih_types_measure_j0 _ _ e _ _ rfl) ?_
        repeat' first | exact wk.of_eq rfl | exact wk.pure rfl | exact wk.un _ | exact wk.hold _ _ _ | exact wk.holdG _ _ _ | exact rfl | exact trivial | refine ⟨?_, ?_⟩
    · replace e := ifnb hb1 e; (conv => whnf)
      obtain ⟨v2, qv2, e⟩ := bnd e
      refine said_pure (P_types_name qv2) rfl ?_; (conv => whnf)
      refine brK.split (fun hb3 => ?_) (fun hb3 => ?_)
      · replace e := ifpb hb3 e; (conv => whnf)
        refine brK.tt hb3 ?_; (conv => whnf)
        refine brK.tt hb3 ?_; (conv => whnf)
        obtain ⟨v4, qv4, e⟩ := bnd e
        obtain ⟨qv4k, qv4q, qv4a, qv4b, qv4c⟩ := getb_some qv4
        refine ⟨qv4k, qv4q, qv4a, qv4b, ?_⟩; rw [qv4c]; (conv => whnf)
        refine brK.tt hb3 ?_; (conv => whnf)
        refine ⟨⟨fun h5 => ?_, fun h5 => ?_⟩⟩
        · replace e := ifp h5 e; (conv => whnf)
          refine brK.tt hb3 ?_; (conv => whnf)
          refine ⟨⟨fun h6 => ?_, fun h6 => ?_⟩⟩
          · replace e := ifp (by first | exact h6 | omega | simpa [Ty.Ds_all, Ty.D, listAll] using h6) e; (conv => whnf)
            refine Runs.weak (ih_types_measure_j0 _ _ e _ _ rfl) ?_
            repeat' first | exact wk.of_eq rfl | exact wk.pure rfl | exact wk.un _ | exact wk.hold _ _ _ | exact wk.holdG _ _ _ | exact rfl | exact trivial | refine ⟨?_, ?_⟩
          · replace e := ifn (by first | exact h6 | omega | simpa [Ty.Ds_all, Ty.D, listAll] using h6) e; (conv => whnf)
            refine Runs.weak (ih_types_measure_j0 _ _ e _ _ rfl) ?_
            repeat' first | exact wk.of_eq rfl | exact wk.pure rfl | exact wk.un _ | exact wk.hold _ _ _ | exact wk.holdG _ _ _ | exact rfl | exact trivial | refine ⟨?_, ?_⟩
        · replace e := ifn h5 e; (conv => whnf)
          refine brK.tt hb3 ?_; (conv => whnf)
          refine Runs.weak (ih_types_measure_j0 _ _ e _ _ rfl) ?_
          repeat' first | exact wk.of_eq rfl | exact wk.pure rfl | exact wk.un _ | exact wk.hold _ _ _ | exact wk.holdG _ _ _ | exact rfl | exact trivial | refine ⟨?_, ?_⟩
      · replace e := ifnb hb3 e; (conv => whnf)
        refine brK.ff hb3 ?_; (conv => whnf)
        refine brK.ff hb3 ?_; (conv => whnf)
        refine brK.ff hb3 ?_; (conv => whnf)
        refine brK.ff hb3 ?_; (conv => whnf)
        refine Runs.weak (ih_types_measure_j0 _ _ e _ _ rfl) ?_
        repeat' first | exact wk.of_eq rfl | exact wk.pure rfl | exact wk.un _ | exact wk.hold _ _ _ | exact wk.holdG _ _ _ | exact rfl | exact trivial | refine ⟨?_, ?_⟩
  · intro f_types_measure_l0 ih_types_measure_l0 p r e t4_1 a0 hp
    subst hp
    refine Runs.enter T_ok ?_; (conv => whnf)
    refine RunsL.runs (RunsL.weak ((ih_types_measure_l0 _ _ e _ _ _ _ rfl) a0 0 (by simp)) ?_)
    repeat' first | exact wk.of_eq rfl | exact wk.pure rfl | exact wk.un _ | exact wk.hold _ _ _ | exact wk.holdG _ _ _ | exact rfl | exact trivial | refine ⟨?_, ?_⟩ | (refine wk.of_eq ?_; (conv => lhs; whnf); (simp [Ty.Ds_all, Ty.D, listAll] <;> (repeat' first | rfl | apply And.intro)); done) | (refine wk.pure ?_; (conv => lhs; whnf); (simp [Ty.Ds_all, Ty.D, listAll] <;> (repeat' first | rfl | apply And.intro)); done) | ((simp [Ty.Ds_all, Ty.D, listAll] <;> (repeat' first | rfl | apply And.intro)); done) | (simp [Ty.Ds_all, Ty.D, listAll]; omega)
  · intro f_types_measure f_types_measure_l0 ih_types_measure ih_types_measure_l0 p r e rest0 t2_0 t3_0 t4_0 hp
    subst hp
    intro a0 k0 hd0
    refine RunsL.len_tmp 37 rfl fun hlenk0 => ?_
    refine RunsL.of_awp (js := [5]) T_ok ?_; (conv => whnf)
    have hls := Ty.Ds_len a0.args
    cases rest0 with
    | nil =>
      have hk := drop_nil hd0
      refine ⟨⟨fun h => absurd h (by omega), fun _ => ?_⟩⟩; (conv => whnf)
      obtain ⟨v41, qv41, e⟩ := bnd e
      refine ⟨v41, sm qv41, ?_⟩; (conv => whnf)
      obtain rfl := sm e
      repeat' first | exact rfl | exact trivial | refine ⟨?_, ?_⟩
    | cons v40 rest0 =>
      obtain ⟨hxv40, hd0, hltv40⟩ := drop_head hd0
      refine ⟨⟨fun _ => ?_, fun h => absurd (by omega) h⟩⟩; (conv => whnf)
      refine ⟨k0, _, rfl, Ty.Ds_get hxv40, ?_⟩; (conv => whnf)
      refine ⟨Ty.Ds_fit _ rfl rfl, ?_⟩; (conv => whnf)
      obtain ⟨v41, qv41, e⟩ := bnd e
      refine said_pure (ih_types_measure _ _ qv41 _ rfl) rfl ?_; (conv => whnf)
      obtain ⟨v42, qv42, e⟩ := bnd e
      refine ⟨v42, sm qv42, ?_⟩; (conv => whnf)
      refine brK.split (fun hb43 => ?_) (fun hb43 => ?_)
      · replace e := ifpb hb43 e; (conv => whnf)
        refine brK.tt hb43 ?_; (conv => whnf)
        refine ⟨((k0 + 1 : Nat) : Int), wrap64e (by omega) (by omega) (by omega), ?_⟩; (conv => whnf)
        refine (RunsL.weak ((ih_types_measure_l0 _ _ e _ _ _ _ rfl) a0 (k0 + 1) hd0) ?_)
        repeat' first | exact wk.of_eq rfl | exact wk.pure rfl | exact wk.un _ | exact wk.hold _ _ _ | exact wk.holdG _ _ _ | exact rfl | exact trivial | refine ⟨?_, ?_⟩ | (refine wk.of_eq ?_; (conv => lhs; whnf); (simp [Ty.Ds_all, Ty.D, listAll] <;> (repeat' first | rfl | apply And.intro)); done) | (refine wk.pure ?_; (conv => lhs; whnf); (simp [Ty.Ds_all, Ty.D, listAll] <;> (repeat' first | rfl | apply And.intro)); done) | ((simp [Ty.Ds_all, Ty.D, listAll] <;> (repeat' first | rfl | apply And.intro)); done) | (simp [Ty.Ds_all, Ty.D, listAll]; omega)
      · replace e := ifnb hb43 e; (conv => whnf)
        refine brK.ff hb43 ?_; (conv => whnf)
        refine ⟨((k0 + 1 : Nat) : Int), wrap64e (by omega) (by omega) (by omega), ?_⟩; (conv => whnf)
        refine (RunsL.weak ((ih_types_measure_l0 _ _ e _ _ _ _ rfl) a0 (k0 + 1) hd0) ?_)
        repeat' first | exact wk.of_eq rfl | exact wk.pure rfl | exact wk.un _ | exact wk.hold _ _ _ | exact wk.holdG _ _ _ | exact rfl | exact trivial | refine ⟨?_, ?_⟩ | (refine wk.of_eq ?_; (conv => lhs; whnf); (simp [Ty.Ds_all, Ty.D, listAll] <;> (repeat' first | rfl | apply And.intro)); done) | (refine wk.pure ?_; (conv => lhs; whnf); (simp [Ty.Ds_all, Ty.D, listAll] <;> (repeat' first | rfl | apply And.intro)); done) | ((simp [Ty.Ds_all, Ty.D, listAll] <;> (repeat' first | rfl | apply And.intro)); done) | (simp [Ty.Ds_all, Ty.D, listAll]; omega)
theorem P_types_measure {a0 : Ty} {r : (Int × Int × Bool)} (e : types_measure a0 = some r) : M_types_measure a0 r := G_types_measure.1 _ _ e _ rfl
theorem P_types_Check {a0 : Ty} {r : Int} (e : types_Check a0 = some r) : Pure Try.prog 164 [(Ty.D a0)] (.int .i64 r) := by
  unfold types_Check at e
  refine pure_of_awp (js := []) T_ok Try.func164 rfl (by decide +kernel) rfl ?_; (conv => whnf)
  obtain ⟨v1, qv1, e⟩ := bnd e
  refine said_pure (P_types_measure qv1) rfl ?_; (conv => whnf)
  refine brK.nsplit (fun hb2 => ?_) (fun hb2 => ?_)
  · replace e := ifpb hb2 e; (conv => whnf)
    refine brK.ntt hb2 ?_; (conv => whnf)
    refine ⟨⟨fun h3 => ?_, fun h3 => ?_⟩⟩
    · replace e := ifp h3 e; (conv => whnf)
      refine brK.ntt hb2 ?_; (conv => whnf)
      obtain rfl := sm e
      repeat' first | exact rfl | exact trivial | refine ⟨?_, ?_⟩
    · replace e := ifn h3 e; (conv => whnf)
      refine brK.ntt hb2 ?_; (conv => whnf)
      refine ⟨⟨fun h4 => ?_, fun h4 => ?_⟩⟩
      · replace e := ifp h4 e; (conv => whnf)
        obtain rfl := sm e
        repeat' first | exact rfl | exact trivial | refine ⟨?_, ?_⟩
      · replace e := ifn h4 e; (conv => whnf)
        obtain rfl := sm e
        repeat' first | exact rfl | exact trivial | refine ⟨?_, ?_⟩
  · replace e := ifnb hb2 e; (conv => whnf)
    refine brK.nff hb2 ?_; (conv => whnf)
    refine brK.nff hb2 ?_; (conv => whnf)
    obtain rfl := sm e
    repeat' first | exact rfl | exact trivial | refine ⟨?_, ?_⟩
theorem P_terms_named {a0 : ByteArray} {r : Bool} (e : terms_named a0 = some r) : Pure Try.prog 163 [(.str a0)] (.bool r) := by
  unfold terms_named at e
  refine pure_of_awp (js := []) T_ok Try.func163 rfl (by decide +kernel) rfl ?_; (conv => whnf)
  obtain ⟨v1, qv1, e⟩ := bnd e
  refine said_pure (P_types_Check qv1) rfl ?_; (conv => whnf)
  refine test.dec ?_; (conv => whnf)
  obtain rfl := sm e
  repeat' first | exact rfl | exact trivial | refine ⟨?_, ?_⟩
theorem P_types_Same {a0 : Ty} {a1 : Ty} {r : Bool} (e : types_Same a0 a1 = some r) : Pure Try.prog 128 [(Ty.D a0), (Ty.D a1)] (.bool r) := by
  unfold types_Same at e
  refine pure_of_awp (js := []) T_ok Try.func128 rfl (by decide +kernel) rfl ?_; (conv => whnf)
  obtain ⟨v1, qv1, e⟩ := bnd e
  refine said_pure (P_types_Compare qv1) rfl ?_; (conv => whnf)
  refine test.dec ?_; (conv => whnf)
  obtain rfl := sm e
  repeat' first | exact rfl | exact trivial | refine ⟨?_, ?_⟩
theorem P_terms_formed_j0 {a0 : Tm} {v16 : (Ty × Bool)} {r : (Ty × Bool)} (e : terms_formed_j0 a0 v16 = some r) : (∀ (v15 : (List Ty)), JoinAt T Try.prog Try.f147 Fx0 [21] [1, 0, 1, 0, 1, 1, 1, 1, 1, 1, 1, 0, 1, 1, 0, 0] (EP T Try.f147 (.tuple [(Ty.D r.1), (.bool r.2)])) [(2, .ptr 0 0 0), (4, .ptr 0 1 0), (10, .ptr 0 3 0), (11, .d (.bool v16.2))] [[.cells [.d (.int .u8 a0.kind), .d (.str a0.name), .d (.bool a0.ty.v), .d (.str a0.ty.name), .d (.slice 3 (Ty.Ds a0.ty.args)), .d (.int .i64 a0.index), .d (.slice 7 (Tm.Ds a0.sub))], .cells [.d (.bool false), .d (.str ByteArray.empty), .nil 3], .grow 3 (Ty.Ds v15).length, .cells [.d (.bool v16.1.v), .d (.str v16.1.name), .d (.slice 3 (Ty.Ds v16.1.args))]]]) ∧ (JoinAt T Try.prog Try.f147 Fx0 [21] [1, 0, 1, 0, 1, 1, 1, 1, 1, 1, 1, 0, 1, 1, 0, 0] (EP T Try.f147 (.tuple [(Ty.D r.1), (.bool r.2)])) [(2, .ptr 0 0 0), (4, .ptr 0 1 0), (10, .ptr 0 2 0), (11, .d (.bool v16.2))] [[.cells [.d (.int .u8 a0.kind), .d (.str a0.name), .d (.bool a0.ty.v), .d (.str a0.ty.name), .d (.slice 3 (Ty.Ds a0.ty.args)), .d (.int .i64 a0.index), .d (.slice 7 (Tm.Ds a0.sub))], .cells [.d (.bool false), .d (.str ByteArray.empty), .nil 3], .cells [.d (.bool v16.1.v), .d (.str v16.1.name), .d (.slice 3 (Ty.Ds v16.1.args))]]]) := by
  unfold terms_formed_j0 at e
  refine ⟨?_, ?_⟩
  · intro v15
    refine Runs.enter T_ok ?_; (conv => whnf)
    refine brK.nsplit (fun hb17 => ?_) (fun hb17 => ?_)
    · replace e := ifpb hb17 e; (conv => whnf)
      refine ⟨⟨⟨rfl, rfl⟩, ⟨⟨rfl, rfl⟩, trivial⟩⟩, ?_⟩; (conv => whnf)
      refine draw_rule [] T_ok mixed terms_formed_pl24 (by decide +kernel) ?_; (conv => whnf)
      obtain ⟨v18, qv18, e⟩ := bnd e
      first | (refine said_pure (P_types_Check qv18) rfl ⟨Keeps.refl _ _, ?_⟩) | (refine said_pure2 (P_types_Check qv18) rfl (by simp [Tm.Ds_all, Ty.Ds_all, Tm.D, Ty.D, listAll] <;> (repeat' first | rfl | apply And.intro)) ⟨Keeps.refl _ _, ?_⟩)
      (conv => whnf)
      refine test.dec ?_; (conv => whnf)
      obtain rfl := sm e
      repeat' first | exact rfl | exact trivial | exact ⟨_, rfl, (by first | exact rfl | (simp [Tm.Ds_all, Ty.Ds_all, Tm.D, Ty.D, listAll] <;> (repeat' first | rfl | apply And.intro))), (by first | exact rfl | (simp [Tm.Ds_all, Ty.Ds_all, Tm.D, Ty.D, listAll] <;> (repeat' first | rfl | apply And.intro)))⟩ | refine ⟨?_, ?_⟩ | (simp [Tm.Ds_all, Ty.Ds_all, Tm.D, Ty.D, listAll] <;> (repeat' first | rfl | apply And.intro))
    · replace e := ifnb hb17 e; (conv => whnf)
      obtain rfl := sm e
      repeat' first | exact rfl | exact trivial | refine ⟨?_, ?_⟩
  · refine Runs.enter T_ok ?_; (conv => whnf)
    refine brK.nsplit (fun hb17 => ?_) (fun hb17 => ?_)
    · replace e := ifpb hb17 e; (conv => whnf)
      refine ⟨⟨⟨rfl, rfl⟩, ⟨⟨rfl, rfl⟩, trivial⟩⟩, ?_⟩; (conv => whnf)
      refine draw_rule [] T_ok mixed terms_formed_pl24 (by decide +kernel) ?_; (conv => whnf)
      obtain ⟨v18, qv18, e⟩ := bnd e
      first | (refine said_pure (P_types_Check qv18) rfl ⟨Keeps.refl _ _, ?_⟩) | (refine said_pure2 (P_types_Check qv18) rfl (by simp [Tm.Ds_all, Ty.Ds_all, Tm.D, Ty.D, listAll] <;> (repeat' first | rfl | apply And.intro)) ⟨Keeps.refl _ _, ?_⟩)
      (conv => whnf)
      refine test.dec ?_; (conv => whnf)
      obtain rfl := sm e
      repeat' first | exact rfl | exact trivial | exact ⟨_, rfl, (by first | exact rfl | (simp [Tm.Ds_all, Ty.Ds_all, Tm.D, Ty.D, listAll] <;> (repeat' first | rfl | apply And.intro))), (by first | exact rfl | (simp [Tm.Ds_all, Ty.Ds_all, Tm.D, Ty.D, listAll] <;> (repeat' first | rfl | apply And.intro)))⟩ | refine ⟨?_, ?_⟩ | (simp [Tm.Ds_all, Ty.Ds_all, Tm.D, Ty.D, listAll] <;> (repeat' first | rfl | apply And.intro))
    · replace e := ifnb hb17 e; (conv => whnf)
      obtain rfl := sm e
      repeat' first | exact rfl | exact trivial | refine ⟨?_, ?_⟩
def M_terms_formed (a0 : Tm) (a1 : (List Ty)) (r : (Ty × Bool)) : Prop := Pure Try.prog 147 [(Tm.D a0), (.slice 3 (Ty.Ds a1))] (.tuple [(Ty.D r.1), (.bool r.2)])
theorem G_terms_formed : (∀ p r, terms_formed' p = some r → ∀ a0 a1, (a0, a1) = p → M_terms_formed a0 a1 r) := by
  refine terms_formed'.partial_correctness (fun (p : (Tm × (List Ty))) (r : (Ty × Bool)) => ∀ (a0 : Tm) (a1 : (List Ty)), (a0, a1) = p → M_terms_formed a0 a1 r) ?_
  · intro f_terms_formed ih_terms_formed p r e a0 a1 hp
    subst hp
    refine pure_of_awp (js := [21]) T_ok Try.func147 rfl (by decide +kernel) rfl ?_; (conv => whnf)
    refine ⟨⟨fun h1 => ?_, fun h1 => ?_⟩⟩
    · replace e := ifp h1 e; (conv => whnf)
      refine draw_rule [] T_ok mixed terms_formed_pl4 (by decide +kernel) ?_; (conv => whnf)
      obtain ⟨v2, qv2, e⟩ := bnd e
      refine said_pure (P_terms_plain qv2) rfl ⟨Keeps.refl _ _, ?_⟩; (conv => whnf)
      refine brK.split (fun hb3 => ?_) (fun hb3 => ?_)
      · replace e := ifpb hb3 e; (conv => whnf)
        refine brK.tt hb3 ?_; (conv => whnf)
        refine brK.tt hb3 ?_; (conv => whnf)
        obtain ⟨v4, qv4, e⟩ := bnd e
        refine said_pure (P_terms_named qv4) rfl ⟨Keeps.refl _ _, ?_⟩; (conv => whnf)
        refine brK.tt hb3 ?_; (conv => whnf)
        refine brK.split (fun hb5 => ?_) (fun hb5 => ?_)
        · replace e := ifpb hb5 e; (conv => whnf)
          refine brK.tt hb5 ?_; (conv => whnf)
          refine brK.tt hb5 ?_; (conv => whnf)
          refine brK.tt hb5 ?_; (conv => whnf)
          refine ⟨⟨fun h6 => ?_, fun h6 => ?_⟩⟩
          · replace e := ifp (by first | exact h6 | omega | simpa [Tm.Ds_all, Ty.Ds_all, Tm.D, Ty.D, listAll] using h6) e; (conv => whnf)
            refine brK.tt hb5 ?_; (conv => whnf)
            obtain ⟨v7, qv7, e⟩ := bnd e
            refine said_pure (P_types_Check qv7) rfl ⟨Keeps.refl _ _, ?_⟩; (conv => whnf)
            refine test.dec ?_; (conv => whnf)
            obtain rfl := sm e
            repeat' first | exact rfl | exact trivial | refine ⟨?_, ?_⟩
          · replace e := ifn (by first | exact h6 | omega | simpa [Tm.Ds_all, Ty.Ds_all, Tm.D, Ty.D, listAll] using h6) e; (conv => whnf)
            refine brK.tt hb5 ?_; (conv => whnf)
            obtain rfl := sm e
            repeat' first | exact rfl | exact trivial | refine ⟨?_, ?_⟩
        · replace e := ifnb hb5 e; (conv => whnf)
          refine brK.ff hb5 ?_; (conv => whnf)
          refine brK.ff hb5 ?_; (conv => whnf)
          refine brK.ff hb5 ?_; (conv => whnf)
          refine brK.ff hb5 ?_; (conv => whnf)
          obtain rfl := sm e
          repeat' first | exact rfl | exact trivial | refine ⟨?_, ?_⟩
      · replace e := ifnb hb3 e; (conv => whnf)
        refine brK.ff hb3 ?_; (conv => whnf)
        refine brK.ff hb3 ?_; (conv => whnf)
        refine brK.ff hb3 ?_; (conv => whnf)
        obtain rfl := sm e
        repeat' first | exact rfl | exact trivial | refine ⟨?_, ?_⟩
    · replace e := ifn h1 e; (conv => whnf)
      refine ⟨⟨fun h2 => ?_, fun h2 => ?_⟩⟩
      · replace e := ifp h2 e; (conv => whnf)
        refine draw_rule [] T_ok mixed terms_formed_pl4 (by decide +kernel) ?_; (conv => whnf)
        obtain ⟨v3, qv3, e⟩ := bnd e
        refine said_pure (P_terms_plain qv3) rfl ⟨Keeps.refl _ _, ?_⟩; (conv => whnf)
        refine brK.split (fun hb4 => ?_) (fun hb4 => ?_)
        · replace e := ifpb hb4 e; (conv => whnf)
          refine brK.tt hb4 ?_; (conv => whnf)
          refine brK.tt hb4 ?_; (conv => whnf)
          obtain ⟨v5, qv5, e⟩ := bnd e
          refine said_pure (P_terms_named qv5) rfl ⟨Keeps.refl _ _, ?_⟩; (conv => whnf)
          refine brK.tt hb4 ?_; (conv => whnf)
          refine brK.split (fun hb6 => ?_) (fun hb6 => ?_)
          · replace e := ifpb hb6 e; (conv => whnf)
            refine brK.tt hb6 ?_; (conv => whnf)
            refine brK.tt hb6 ?_; (conv => whnf)
            refine brK.tt hb6 ?_; (conv => whnf)
            refine ⟨⟨fun h7 => ?_, fun h7 => ?_⟩⟩
            · replace e := ifp (by first | exact h7 | omega | simpa [Tm.Ds_all, Ty.Ds_all, Tm.D, Ty.D, listAll] using h7) e; (conv => whnf)
              refine brK.tt hb6 ?_; (conv => whnf)
              obtain ⟨v8, qv8, e⟩ := bnd e
              refine said_pure (P_types_Check qv8) rfl ⟨Keeps.refl _ _, ?_⟩; (conv => whnf)
              refine test.dec ?_; (conv => whnf)
              obtain rfl := sm e
              repeat' first | exact rfl | exact trivial | refine ⟨?_, ?_⟩
            · replace e := ifn (by first | exact h7 | omega | simpa [Tm.Ds_all, Ty.Ds_all, Tm.D, Ty.D, listAll] using h7) e; (conv => whnf)
              refine brK.tt hb6 ?_; (conv => whnf)
              obtain rfl := sm e
              repeat' first | exact rfl | exact trivial | refine ⟨?_, ?_⟩
          · replace e := ifnb hb6 e; (conv => whnf)
            refine brK.ff hb6 ?_; (conv => whnf)
            refine brK.ff hb6 ?_; (conv => whnf)
            refine brK.ff hb6 ?_; (conv => whnf)
            refine brK.ff hb6 ?_; (conv => whnf)
            obtain rfl := sm e
            repeat' first | exact rfl | exact trivial | refine ⟨?_, ?_⟩
        · replace e := ifnb hb4 e; (conv => whnf)
          refine brK.ff hb4 ?_; (conv => whnf)
          refine brK.ff hb4 ?_; (conv => whnf)
          refine brK.ff hb4 ?_; (conv => whnf)
          obtain rfl := sm e
          repeat' first | exact rfl | exact trivial | refine ⟨?_, ?_⟩
      · replace e := ifn h2 e; (conv => whnf)
        refine ⟨⟨fun h3 => ?_, fun h3 => ?_⟩⟩
        · replace e := ifp h3 e; (conv => whnf)
          obtain ⟨v4, qv4, e⟩ := bnd e
          refine said_pure (P_terms_plain qv4) rfl ?_; (conv => whnf)
          refine brK.nsplit (fun hb5 => ?_) (fun hb5 => ?_)
          · replace e := ifpb hb5 e; (conv => whnf)
            refine brK.ntt hb5 ?_; (conv => whnf)
            refine brK.ntt hb5 ?_; (conv => whnf)
            refine brK.ntt hb5 ?_; (conv => whnf)
            refine ⟨⟨fun h6 => ?_, fun h6 => ?_⟩⟩
            · replace e := ifp (by first | exact h6 | omega | simpa [Tm.Ds_all, Ty.Ds_all, Tm.D, Ty.D, listAll] using h6) e; (conv => whnf)
              refine brK.ntt hb5 ?_; (conv => whnf)
              obtain rfl := sm e
              repeat' first | exact rfl | exact trivial | refine ⟨?_, ?_⟩
            · replace e := ifn (by first | exact h6 | omega | simpa [Tm.Ds_all, Ty.Ds_all, Tm.D, Ty.D, listAll] using h6) e; (conv => whnf)
              refine brK.ntt hb5 ?_; (conv => whnf)
              refine ⟨⟨fun h7 => ?_, fun h7 => ?_⟩⟩
              · replace e := ifp h7 e; (conv => whnf)
                obtain rfl := sm e
                repeat' first | exact rfl | exact trivial | refine ⟨?_, ?_⟩
              · replace e := ifn h7 e; (conv => whnf)
                refine ⟨⟨fun h8 => ?_, fun h8 => ?_⟩⟩
                · replace e := ifp (by first | exact h8 | omega | simpa [Tm.Ds_all, Ty.Ds_all, Tm.D, Ty.D, listAll] using h8) e; (conv => whnf)
                  obtain rfl := sm e
                  repeat' first | exact rfl | exact trivial | refine ⟨?_, ?_⟩
                · replace e := ifn (by first | exact h8 | omega | simpa [Tm.Ds_all, Ty.Ds_all, Tm.D, Ty.D, listAll] using h8) e; (conv => whnf)
                  obtain ⟨v9, qv9, e⟩ := bnd e
                  refine ⟨v9, (by have := sm qv9; first | exact this | simpa [Tm.Ds_all, Ty.Ds_all, Tm.D, Ty.D, listAll] using this), ?_⟩; (conv => whnf)
                  obtain ⟨v10, qv10, e⟩ := bnd e
                  refine ⟨v10, sm qv10, ?_⟩; (conv => whnf)
                  obtain ⟨v11, qv11, e⟩ := bnd e
                  obtain ⟨qv11k, qv11a, qv11b⟩ := geti_some qv11
                  refine ⟨qv11k, _, qv11a, Ty.Ds_get qv11b, ?_⟩; (conv => whnf)
                  refine ⟨Ty.Ds_fit _ rfl rfl, ?_⟩; (conv => whnf)
                  obtain rfl := sm e
                  repeat' first | exact rfl | exact trivial | refine ⟨?_, ?_⟩
          · replace e := ifnb hb5 e; (conv => whnf)
            refine brK.nff hb5 ?_; (conv => whnf)
            refine brK.nff hb5 ?_; (conv => whnf)
            refine brK.nff hb5 ?_; (conv => whnf)
            refine brK.nff hb5 ?_; (conv => whnf)
            obtain rfl := sm e
            repeat' first | exact rfl | exact trivial | refine ⟨?_, ?_⟩
        · replace e := ifn h3 e; (conv => whnf)
          refine ⟨⟨fun h4 => ?_, fun h4 => ?_⟩⟩
          · replace e := ifp h4 e; (conv => whnf)
            obtain ⟨v5, qv5, e⟩ := bnd e
            refine said_pure (P_terms_plain qv5) rfl ?_; (conv => whnf)
            refine brK.nsplit (fun hb6 => ?_) (fun hb6 => ?_)
            · replace e := ifpb hb6 e; (conv => whnf)
              refine brK.ntt hb6 ?_; (conv => whnf)
              refine brK.ntt hb6 ?_; (conv => whnf)
              refine brK.ntt hb6 ?_; (conv => whnf)
              refine ⟨⟨fun h7 => ?_, fun h7 => ?_⟩⟩
              · replace e := ifp (by first | exact h7 | omega | simpa [Tm.Ds_all, Ty.Ds_all, Tm.D, Ty.D, listAll] using h7) e; (conv => whnf)
                refine brK.ntt hb6 ?_; (conv => whnf)
                obtain rfl := sm e
                repeat' first | exact rfl | exact trivial | refine ⟨?_, ?_⟩
              · replace e := ifn (by first | exact h7 | omega | simpa [Tm.Ds_all, Ty.Ds_all, Tm.D, Ty.D, listAll] using h7) e; (conv => whnf)
                refine brK.ntt hb6 ?_; (conv => whnf)
                obtain ⟨v8, qv8, e⟩ := bnd e
                obtain ⟨qv8k, qv8a, qv8b⟩ := geti_some qv8
                refine ⟨qv8k, _, qv8a, Tm.Ds_get qv8b, ?_⟩; (conv => whnf)
                refine ⟨Tm.Ds_fit _ rfl rfl, ?_⟩; (conv => whnf)
                obtain ⟨v9, qv9, e⟩ := bnd e
                refine said_pure (ih_terms_formed _ _ qv9 _ _ rfl) rfl ?_; (conv => whnf)
                obtain ⟨v10, qv10, e⟩ := bnd e
                obtain ⟨qv10k, qv10a, qv10b⟩ := geti_some qv10
                refine ⟨qv10k, _, qv10a, Tm.Ds_get qv10b, ?_⟩; (conv => whnf)
                refine ⟨Tm.Ds_fit _ rfl rfl, ?_⟩; (conv => whnf)
                obtain ⟨v11, qv11, e⟩ := bnd e
                refine said_pure (ih_terms_formed _ _ qv11 _ _ rfl) rfl ?_; (conv => whnf)
                refine draw_rule [] T_ok mixed terms_formed_pl14 (by decide +kernel) ?_; (conv => whnf)
                refine brK.nsplit (fun hb12 => ?_) (fun hb12 => ?_)
                · replace e := ifpb hb12 e; (conv => whnf)
                  refine brK.ntt hb12 ?_; (conv => whnf)
                  refine brK.ntt hb12 ?_; (conv => whnf)
                  refine brK.nsplit (fun hb13 => ?_) (fun hb13 => ?_)
                  · replace e := ifpb hb13 e; (conv => whnf)
                    refine brK.ntt hb13 ?_; (conv => whnf)
                    refine brK.ntt hb13 ?_; (conv => whnf)
                    refine brK.split (fun hb14 => ?_) (fun hb14 => ?_)
                    · replace e := ifpb hb14 e; (conv => whnf)
                      refine brK.tt hb14 ?_; (conv => whnf)
                      refine brK.tt hb14 ?_; (conv => whnf)
                      refine brK.tt hb14 ?_; (conv => whnf)
                      obtain rfl := sm e
                      repeat' first | exact rfl | exact trivial | refine ⟨?_, ?_⟩
                    · replace e := ifnb hb14 e; (conv => whnf)
                      refine brK.ff hb14 ?_; (conv => whnf)
                      refine brK.ff hb14 ?_; (conv => whnf)
                      refine ⟨⟨fun h15 => ?_, fun h15 => ?_⟩⟩
                      · replace e := ifp h15 e; (conv => whnf)
                        refine brK.ff hb14 ?_; (conv => whnf)
                        obtain rfl := sm e
                        repeat' first | exact rfl | exact trivial | refine ⟨?_, ?_⟩
                      · replace e := ifn h15 e; (conv => whnf)
                        refine brK.ff hb14 ?_; (conv => whnf)
                        refine ⟨⟨fun h16 => ?_, fun h16 => ?_⟩⟩
                        · replace e := ifp (by first | exact h16 | omega | simpa [Tm.Ds_all, Ty.Ds_all, Tm.D, Ty.D, listAll] using h16) e; (conv => whnf)
                          obtain rfl := sm e
                          repeat' first | exact rfl | exact trivial | refine ⟨?_, ?_⟩
                        · replace e := ifn (by first | exact h16 | omega | simpa [Tm.Ds_all, Ty.Ds_all, Tm.D, Ty.D, listAll] using h16) e; (conv => whnf)
                          obtain ⟨v17, qv17, e⟩ := bnd e
                          obtain ⟨qv17k, qv17a, qv17b⟩ := geti_some qv17
                          refine ⟨qv17k, _, qv17a, Ty.Ds_get qv17b, ?_⟩; (conv => whnf)
                          refine ⟨Ty.Ds_fit _ rfl rfl, ?_⟩; (conv => whnf)
                          obtain ⟨v18, qv18, e⟩ := bnd e
                          refine said_pure (P_types_Same qv18) rfl ⟨Keeps.refl _ _, ?_⟩; (conv => whnf)
                          refine brK.nsplit (fun hb19 => ?_) (fun hb19 => ?_)
                          · replace e := ifpb hb19 e; (conv => whnf)
                            obtain ⟨v20, qv20, e⟩ := bnd e
                            obtain ⟨qv20k, qv20a, qv20b⟩ := geti_some qv20
                            refine ⟨qv20k, _, qv20a, Ty.Ds_get qv20b, ?_⟩; (conv => whnf)
                            refine ⟨Ty.Ds_fit _ rfl rfl, ?_⟩; (conv => whnf)
                            obtain rfl := sm e
                            repeat' first | exact rfl | exact trivial | refine ⟨?_, ?_⟩
                          · replace e := ifnb hb19 e; (conv => whnf)
                            obtain rfl := sm e
                            repeat' first | exact rfl | exact trivial | refine ⟨?_, ?_⟩
                  · replace e := ifnb hb13 e; (conv => whnf)
                    refine brK.nff hb13 ?_; (conv => whnf)
                    refine brK.nff hb13 ?_; (conv => whnf)
                    obtain rfl := sm e
                    repeat' first | exact rfl | exact trivial | refine ⟨?_, ?_⟩
                · replace e := ifnb hb12 e; (conv => whnf)
                  refine brK.nff hb12 ?_; (conv => whnf)
                  refine brK.nff hb12 ?_; (conv => whnf)
                  obtain rfl := sm e
                  repeat' first | exact rfl | exact trivial | refine ⟨?_, ?_⟩
            · replace e := ifnb hb6 e; (conv => whnf)
              refine brK.nff hb6 ?_; (conv => whnf)
              refine brK.nff hb6 ?_; (conv => whnf)
              refine brK.nff hb6 ?_; (conv => whnf)
              refine brK.nff hb6 ?_; (conv => whnf)
              obtain rfl := sm e
              repeat' first | exact rfl | exact trivial | refine ⟨?_, ?_⟩
          · replace e := ifn h4 e; (conv => whnf)
            refine ⟨⟨fun h5 => ?_, fun h5 => ?_⟩⟩
            · replace e := ifp h5 e; (conv => whnf)
              obtain ⟨v6, qv6, e⟩ := bnd e
              refine said_pure (P_terms_plain qv6) rfl ?_; (conv => whnf)
              refine brK.nsplit (fun hb7 => ?_) (fun hb7 => ?_)
              · replace e := ifpb hb7 e; (conv => whnf)
                refine brK.ntt hb7 ?_; (conv => whnf)
                refine brK.ntt hb7 ?_; (conv => whnf)
                refine brK.ntt hb7 ?_; (conv => whnf)
                refine ⟨⟨fun h8 => ?_, fun h8 => ?_⟩⟩
                · replace e := ifp (by first | exact h8 | omega | simpa [Tm.Ds_all, Ty.Ds_all, Tm.D, Ty.D, listAll] using h8) e; (conv => whnf)
                  refine brK.ntt hb7 ?_; (conv => whnf)
                  obtain rfl := sm e
                  repeat' first | exact rfl | exact trivial | refine ⟨?_, ?_⟩
                · replace e := ifn (by first | exact h8 | omega | simpa [Tm.Ds_all, Ty.Ds_all, Tm.D, Ty.D, listAll] using h8) e; (conv => whnf)
                  refine brK.ntt hb7 ?_; (conv => whnf)
                  obtain ⟨v9, qv9, e⟩ := bnd e
                  refine said_pure (P_terms_named qv9) rfl ?_; (conv => whnf)
                  refine brK.nsplit (fun hb10 => ?_) (fun hb10 => ?_)
                  · replace e := ifpb hb10 e; (conv => whnf)
                    refine brK.ntt hb10 ?_; (conv => whnf)
                    refine brK.ntt hb10 ?_; (conv => whnf)
                    obtain ⟨v11, qv11, e⟩ := bnd e
                    refine said_pure (P_types_Check qv11) rfl ?_; (conv => whnf)
                    refine brK.ntt hb10 ?_; (conv => whnf)
                    refine ⟨⟨fun h12 => ?_, fun h12 => ?_⟩⟩
                    · replace e := ifp h12 e; (conv => whnf)
                      refine brK.ntt hb10 ?_; (conv => whnf)
                      obtain rfl := sm e
                      repeat' first | exact rfl | exact trivial | refine ⟨?_, ?_⟩
                    · replace e := ifn h12 e; (conv => whnf)
                      refine brK.ntt hb10 ?_; (conv => whnf)
                      refine draw_rule [] T_ok mixed terms_formed_pl20 (by decide +kernel) ?_; (conv => whnf)
                      obtain ⟨v13, qv13, e⟩ := bnd e
                      obtain ⟨qv13k, qv13a, qv13b⟩ := geti_some qv13
                      refine ⟨qv13k, _, qv13a, Tm.Ds_get qv13b, ?_⟩; (conv => whnf)
                      refine ⟨Tm.Ds_fit _ rfl rfl, ?_⟩; (conv => whnf)
                      obtain ⟨v14, qv14, e⟩ := bnd e
                      obtain ⟨qv14l, qv14h, qv14a, qv14b, qv14c, qv14d, qv14e⟩ := cut_some qv14
                      refine ⟨qv14l, qv14h, (by show _ = _; omega), (by first | exact congrArg (fun z => AV.d (D.int .i64 z)) qv14b | exact congrArg (fun z => AV.d (D.int .i64 z)) (by simpa [Tm.Ds_all, Ty.Ds_all, Tm.D, Ty.D, listAll] using qv14b)), qv14c, (by first | exact qv14d | simpa [Tm.Ds_all, Ty.Ds_all, Tm.D, Ty.D, listAll] using qv14d), (congrArg (fun z => AV.d (D.int .i64 z)) qv14b), (congrArg (fun z => some (AV.d (D.int .i64 z))) qv14b), ?_⟩; rw [Ty.Ds_cut, ← qv14e]; (conv => whnf)
                      refine ⟨⟨⟨rfl, rfl⟩, trivial⟩, ?_⟩; (conv => whnf)
                      obtain ⟨v15, qv15, e⟩ := bnd e
                      obtain ⟨v16, qv16, e⟩ := bnd e
                      refine ⟨?_, ?_⟩
                      · (conv => whnf)
                        obtain ⟨qv15l, qv15e⟩ := app_some qv15
                        refine ⟨(by first | exact qv15l | simpa [Tm.Ds_all, Ty.Ds_all, Tm.D, Ty.D, listAll] using qv15l), rfl, fun h => (by first | cases h | simp at h), fun _ => ?_⟩; (conv => whnf)
                        refine ⟨?_, ?_⟩
                        · (conv => whnf)
                          first | (refine said_pure (ih_terms_formed _ _ qv16 _ _ rfl) rfl ⟨Keeps.refl _ _, ?_⟩) | (refine said_pure2 (ih_terms_formed _ _ qv16 _ _ rfl) rfl (by simp [Tm.Ds_all, Ty.Ds_all, Tm.D, Ty.D, listAll, qv15e] <;> (repeat' first | rfl | apply And.intro)) ⟨Keeps.refl _ _, ?_⟩)
                          (conv => whnf)
                          refine Runs.weak ((P_terms_formed_j0 e).1 v15) ?_
                          repeat' first | exact wk.of_eq rfl | exact wk.pure rfl | exact wk.un _ | exact wk.hold _ _ _ | exact wk.holdG _ _ _ | exact rfl | exact trivial | refine ⟨?_, ?_⟩ | (refine wk.of_eq ?_; (conv => lhs; whnf); (simp [Tm.Ds_all, Ty.Ds_all, Tm.D, Ty.D, listAll, qv15e] <;> (repeat' first | rfl | apply And.intro)); done) | (refine wk.pure ?_; (conv => lhs; whnf); (simp [Tm.Ds_all, Ty.Ds_all, Tm.D, Ty.D, listAll, qv15e] <;> (repeat' first | rfl | apply And.intro)); done) | ((simp [Tm.Ds_all, Ty.Ds_all, Tm.D, Ty.D, listAll, qv15e] <;> (repeat' first | rfl | apply And.intro)); done) | (simp [Tm.Ds_all, Ty.Ds_all, Tm.D, Ty.D, listAll, qv15e]; omega)
                        · (conv => whnf)
                          first | (refine said_pure (ih_terms_formed _ _ qv16 _ _ rfl) rfl ⟨Keeps.refl _ _, ?_⟩) | (refine said_pure2 (ih_terms_formed _ _ qv16 _ _ rfl) rfl (by simp [Tm.Ds_all, Ty.Ds_all, Tm.D, Ty.D, listAll, qv15e] <;> (repeat' first | rfl | apply And.intro)) ⟨Keeps.refl _ _, ?_⟩)
                          (conv => whnf)
                          refine Runs.weak ((P_terms_formed_j0 e).1 v15) ?_
                          repeat' first | exact wk.of_eq rfl | exact wk.pure rfl | exact wk.un _ | exact wk.hold _ _ _ | exact wk.holdG _ _ _ | exact rfl | exact trivial | refine ⟨?_, ?_⟩ | (refine wk.of_eq ?_; (conv => lhs; whnf); (simp [Tm.Ds_all, Ty.Ds_all, Tm.D, Ty.D, listAll, qv15e] <;> (repeat' first | rfl | apply And.intro)); done) | (refine wk.pure ?_; (conv => lhs; whnf); (simp [Tm.Ds_all, Ty.Ds_all, Tm.D, Ty.D, listAll, qv15e] <;> (repeat' first | rfl | apply And.intro)); done) | ((simp [Tm.Ds_all, Ty.Ds_all, Tm.D, Ty.D, listAll, qv15e] <;> (repeat' first | rfl | apply And.intro)); done) | (simp [Tm.Ds_all, Ty.Ds_all, Tm.D, Ty.D, listAll, qv15e]; omega)
                      · (conv => whnf)
                        obtain ⟨qv15l, qv15e⟩ := app_some qv15
                        refine ⟨(by first | exact qv15l | simpa [Tm.Ds_all, Ty.Ds_all, Tm.D, Ty.D, listAll] using qv15l), rfl, fun h => (by first | cases h | simp at h), fun _ => ?_⟩; (conv => whnf)
                        first | (refine said_pure (ih_terms_formed _ _ qv16 _ _ rfl) rfl ⟨Keeps.refl _ _, ?_⟩) | (refine said_pure2 (ih_terms_formed _ _ qv16 _ _ rfl) rfl (by simp [Tm.Ds_all, Ty.Ds_all, Tm.D, Ty.D, listAll, qv15e] <;> (repeat' first | rfl | apply And.intro)) ⟨Keeps.refl _ _, ?_⟩)
                        (conv => whnf)
                        refine Runs.weak (P_terms_formed_j0 e).2 ?_
                        repeat' first | exact wk.of_eq rfl | exact wk.pure rfl | exact wk.un _ | exact wk.hold _ _ _ | exact wk.holdG _ _ _ | exact rfl | exact trivial | refine ⟨?_, ?_⟩
                  · replace e := ifnb hb10 e; (conv => whnf)
                    refine brK.nff hb10 ?_; (conv => whnf)
                    refine brK.nff hb10 ?_; (conv => whnf)
                    refine brK.nff hb10 ?_; (conv => whnf)
                    refine brK.nff hb10 ?_; (conv => whnf)
                    obtain rfl := sm e
                    repeat' first | exact rfl | exact trivial | refine ⟨?_, ?_⟩
              · replace e := ifnb hb7 e; (conv => whnf)
                refine brK.nff hb7 ?_; (conv => whnf)
                refine brK.nff hb7 ?_; (conv => whnf)
                refine brK.nff hb7 ?_; (conv => whnf)
                refine brK.nff hb7 ?_; (conv => whnf)
                obtain rfl := sm e
                repeat' first | exact rfl | exact trivial | refine ⟨?_, ?_⟩
            · replace e := ifn h5 e; (conv => whnf)
              obtain rfl := sm e
              repeat' first | exact rfl | exact trivial | refine ⟨?_, ?_⟩
theorem P_terms_formed {a0 : Tm} {a1 : (List Ty)} {r : (Ty × Bool)} (e : terms_formed a0 a1 = some r) : M_terms_formed a0 a1 r := G_terms_formed _ _ e _ _ rfl
theorem P_terms_typed {a0 : Tm} {r : (Ty × Int)} (e : terms_typed a0 = some r) : Pure Try.prog 129 [(Tm.D a0)] (.tuple [(Ty.D r.1), (.int .i64 r.2)]) := by
  unfold terms_typed at e
  refine pure_of_awp (js := []) T_ok Try.func129 rfl (by decide +kernel) rfl ?_; (conv => whnf)
  obtain ⟨v1, qv1, e⟩ := bnd e
  refine said_pure (P_terms_great qv1) rfl ?_; (conv => whnf)
  refine brK.split (fun hb2 => ?_) (fun hb2 => ?_)
  · replace e := ifpb hb2 e; (conv => whnf)
    obtain rfl := sm e
    repeat' first | exact rfl | exact trivial | refine ⟨?_, ?_⟩
  · replace e := ifnb hb2 e; (conv => whnf)
    obtain ⟨v3, qv3, e⟩ := bnd e
    refine said_pure (P_terms_formed qv3) rfl ?_; (conv => whnf)
    refine brK.nsplit (fun hb4 => ?_) (fun hb4 => ?_)
    · replace e := ifpb hb4 e; (conv => whnf)
      obtain rfl := sm e
      repeat' first | exact rfl | exact trivial | refine ⟨?_, ?_⟩
    · replace e := ifnb hb4 e; (conv => whnf)
      obtain rfl := sm e
      repeat' first | exact rfl | exact trivial | refine ⟨?_, ?_⟩
theorem P_terms_Check {a0 : Tm} {r : Int} (e : terms_Check a0 = some r) : Pure Try.prog 115 [(Tm.D a0)] (.int .i64 r) := by
  unfold terms_Check at e
  refine pure_of_awp (js := []) T_ok Try.func115 rfl (by decide +kernel) rfl ?_; (conv => whnf)
  obtain ⟨v1, qv1, e⟩ := bnd e
  refine said_pure (P_terms_typed qv1) rfl ?_; (conv => whnf)
  obtain rfl := sm e
  repeat' first | exact rfl | exact trivial | refine ⟨?_, ?_⟩
def M_terms_Size (a0 : Tm) (r : Int) : Prop := Pure Try.prog 149 [(Tm.D a0)] (.int .i64 r)
def M_terms_Size_l0 (rest0 : (List Tm)) (t3_0 : Int) (r : Int) : Prop := ∀ (a0 : Tm) (k0 : Nat) (hd0 : rest0 = a0.sub.drop k0), LoopAt T Try.prog Try.f149 Fx0 [] [1, 1, 0, 1, 0] (EP T Try.f149 (.int .i64 r)) [(3, .d (.int .i64 t3_0)), (7, .d (.slice 7 (Tm.Ds a0.sub))), (8, .d (.int .i64 ((Tm.Ds a0.sub).length : Int))), (9, .d (.int .i64 (k0 : Int)))] [[]]
theorem G_terms_Size : (∀ p r, terms_Size' p = some r → ∀ a0, a0 = p → M_terms_Size a0 r) ∧
    (∀ p r, terms_Size_l0' p = some r → ∀ rest0 t3_0, (rest0, t3_0) = p → M_terms_Size_l0 rest0 t3_0 r) := by
  refine terms_Size'.mutual_partial_correctness (fun (p : Tm) (r : Int) => ∀ (a0 : Tm), a0 = p → M_terms_Size a0 r) (fun (p : ((List Tm) × Int)) (r : Int) => ∀ (rest0 : (List Tm)) (t3_0 : Int), (rest0, t3_0) = p → M_terms_Size_l0 rest0 t3_0 r) ?_ ?_
  · intro f_terms_Size_l0 ih_terms_Size_l0 p r e a0 hp
    subst hp
    refine pure_of_awp (js := []) T_ok Try.func149 rfl (by decide +kernel) rfl ?_; (conv => whnf)
    refine RunsL.runs (RunsL.weak ((ih_terms_Size_l0 _ _ e _ _ rfl) a0 0 (by simp)) ?_)
    repeat' first | exact wk.of_eq rfl | exact wk.pure rfl | exact wk.un _ | exact wk.hold _ _ _ | exact wk.holdG _ _ _ | exact rfl | exact trivial | refine ⟨?_, ?_⟩ | (refine wk.of_eq ?_; (conv => lhs; whnf); (simp [Tm.Ds_all, Ty.Ds_all, Tm.D, Ty.D, listAll] <;> (repeat' first | rfl | apply And.intro)); done) | (refine wk.pure ?_; (conv => lhs; whnf); (simp [Tm.Ds_all, Ty.Ds_all, Tm.D, Ty.D, listAll] <;> (repeat' first | rfl | apply And.intro)); done) | ((simp [Tm.Ds_all, Ty.Ds_all, Tm.D, Ty.D, listAll] <;> (repeat' first | rfl | apply And.intro)); done) | (simp [Tm.Ds_all, Ty.Ds_all, Tm.D, Ty.D, listAll]; omega)
  · intro f_terms_Size f_terms_Size_l0 ih_terms_Size ih_terms_Size_l0 p r e rest0 t3_0 hp
    subst hp
    intro a0 k0 hd0
    refine RunsL.len_tmp 7 rfl fun hlenk0 => ?_
    refine RunsL.of_awp (js := []) T_ok ?_; (conv => whnf)
    have hls := Tm.Ds_len a0.sub
    cases rest0 with
    | nil =>
      have hk := drop_nil hd0
      refine ⟨⟨fun h => absurd h (by omega), fun _ => ?_⟩⟩; (conv => whnf)
      obtain rfl := sm e
      repeat' first | exact rfl | exact trivial | refine ⟨?_, ?_⟩
    | cons v10 rest0 =>
      obtain ⟨hxv10, hd0, hltv10⟩ := drop_head hd0
      refine ⟨⟨fun _ => ?_, fun h => absurd (by omega) h⟩⟩; (conv => whnf)
      refine ⟨k0, _, rfl, Tm.Ds_get hxv10, ?_⟩; (conv => whnf)
      refine ⟨Tm.Ds_fit _ rfl rfl, ?_⟩; (conv => whnf)
      obtain ⟨v11, qv11, e⟩ := bnd e
      refine said_pure (ih_terms_Size _ _ qv11 _ rfl) rfl ?_; (conv => whnf)
      obtain ⟨v12, qv12, e⟩ := bnd e
      refine ⟨v12, sm qv12, ?_⟩; (conv => whnf)
      refine ⟨((k0 + 1 : Nat) : Int), wrap64e (by omega) (by omega) (by omega), ?_⟩; (conv => whnf)
      refine (RunsL.weak ((ih_terms_Size_l0 _ _ e _ _ rfl) a0 (k0 + 1) hd0) ?_)
      repeat' first | exact wk.of_eq rfl | exact wk.pure rfl | exact wk.un _ | exact wk.hold _ _ _ | exact wk.holdG _ _ _ | exact rfl | exact trivial | refine ⟨?_, ?_⟩ | (refine wk.of_eq ?_; (conv => lhs; whnf); (simp [Tm.Ds_all, Ty.Ds_all, Tm.D, Ty.D, listAll] <;> (repeat' first | rfl | apply And.intro)); done) | (refine wk.pure ?_; (conv => lhs; whnf); (simp [Tm.Ds_all, Ty.Ds_all, Tm.D, Ty.D, listAll] <;> (repeat' first | rfl | apply And.intro)); done) | ((simp [Tm.Ds_all, Ty.Ds_all, Tm.D, Ty.D, listAll] <;> (repeat' first | rfl | apply And.intro)); done) | (simp [Tm.Ds_all, Ty.Ds_all, Tm.D, Ty.D, listAll]; omega)
theorem P_terms_Size {a0 : Tm} {r : Int} (e : terms_Size a0 = some r) : M_terms_Size a0 r := G_terms_Size.1 _ _ e _ rfl
def M_equality_depth (a0 : Tm) (r : Int) : Prop := Pure Try.prog 150 [(Tm.D a0)] (.int .i64 r)
def M_equality_depth_l0 (rest0 : (List Tm)) (t3_0 : Int) (r : Int) : Prop := ∀ (a0 : Tm) (k0 : Nat) (hd0 : rest0 = a0.sub.drop k0), LoopAt T Try.prog Try.f150 Fx0 [] [1, 1, 0, 1, 0] (EP T Try.f150 (.int .i64 r)) [(3, .d (.int .i64 t3_0)), (7, .d (.slice 7 (Tm.Ds a0.sub))), (8, .d (.int .i64 ((Tm.Ds a0.sub).length : Int))), (9, .d (.int .i64 (k0 : Int)))] [[]]
theorem G_equality_depth : (∀ p r, equality_depth' p = some r → ∀ a0, a0 = p → M_equality_depth a0 r) ∧
    (∀ p r, equality_depth_l0' p = some r → ∀ rest0 t3_0, (rest0, t3_0) = p → M_equality_depth_l0 rest0 t3_0 r) := by
  refine equality_depth'.mutual_partial_correctness (fun (p : Tm) (r : Int) => ∀ (a0 : Tm), a0 = p → M_equality_depth a0 r) (fun (p : ((List Tm) × Int)) (r : Int) => ∀ (rest0 : (List Tm)) (t3_0 : Int), (rest0, t3_0) = p → M_equality_depth_l0 rest0 t3_0 r) ?_ ?_
  · intro f_equality_depth_l0 ih_equality_depth_l0 p r e a0 hp
    subst hp
    refine pure_of_awp (js := []) T_ok Try.func150 rfl (by decide +kernel) rfl ?_; (conv => whnf)
    refine RunsL.runs (RunsL.weak ((ih_equality_depth_l0 _ _ e _ _ rfl) a0 0 (by simp)) ?_)
    repeat' first | exact wk.of_eq rfl | exact wk.pure rfl | exact wk.un _ | exact wk.hold _ _ _ | exact wk.holdG _ _ _ | exact rfl | exact trivial | refine ⟨?_, ?_⟩ | (refine wk.of_eq ?_; (conv => lhs; whnf); (simp [Tm.Ds_all, Ty.Ds_all, Tm.D, Ty.D, listAll] <;> (repeat' first | rfl | apply And.intro)); done) | (refine wk.pure ?_; (conv => lhs; whnf); (simp [Tm.Ds_all, Ty.Ds_all, Tm.D, Ty.D, listAll] <;> (repeat' first | rfl | apply And.intro)); done) | ((simp [Tm.Ds_all, Ty.Ds_all, Tm.D, Ty.D, listAll] <;> (repeat' first | rfl | apply And.intro)); done) | (simp [Tm.Ds_all, Ty.Ds_all, Tm.D, Ty.D, listAll]; omega)
  · intro f_equality_depth f_equality_depth_l0 ih_equality_depth ih_equality_depth_l0 p r e rest0 t3_0 hp
    subst hp
    intro a0 k0 hd0
    refine RunsL.len_tmp 7 rfl fun hlenk0 => ?_
    refine RunsL.of_awp (js := []) T_ok ?_; (conv => whnf)
    have hls := Tm.Ds_len a0.sub
    cases rest0 with
    | nil =>
      have hk := drop_nil hd0
      refine ⟨⟨fun h => absurd h (by omega), fun _ => ?_⟩⟩; (conv => whnf)
      obtain ⟨v11, qv11, e⟩ := bnd e
      refine ⟨v11, sm qv11, ?_⟩; (conv => whnf)
      obtain rfl := sm e
      repeat' first | exact rfl | exact trivial | refine ⟨?_, ?_⟩
    | cons v10 rest0 =>
      obtain ⟨hxv10, hd0, hltv10⟩ := drop_head hd0
      refine ⟨⟨fun _ => ?_, fun h => absurd (by omega) h⟩⟩; (conv => whnf)
      refine ⟨k0, _, rfl, Tm.Ds_get hxv10, ?_⟩; (conv => whnf)
      refine ⟨Tm.Ds_fit _ rfl rfl, ?_⟩; (conv => whnf)
      obtain ⟨v11, qv11, e⟩ := bnd e
      refine said_pure (ih_equality_depth _ _ qv11 _ rfl) rfl ?_; (conv => whnf)
      refine ⟨((k0 + 1 : Nat) : Int), wrap64e (by omega) (by omega) (by omega), ?_⟩; (conv => whnf)
      refine (RunsL.weak ((ih_equality_depth_l0 _ _ e _ _ rfl) a0 (k0 + 1) hd0) ?_)
      repeat' first | exact wk.of_eq rfl | exact wk.pure rfl | exact wk.un _ | exact wk.hold _ _ _ | exact wk.holdG _ _ _ | exact rfl | exact trivial | refine ⟨?_, ?_⟩ | (refine wk.of_eq ?_; (conv => lhs; whnf); (simp [Tm.Ds_all, Ty.Ds_all, Tm.D, Ty.D, listAll] <;> (repeat' first | rfl | apply And.intro)); done) | (refine wk.pure ?_; (conv => lhs; whnf); (simp [Tm.Ds_all, Ty.Ds_all, Tm.D, Ty.D, listAll] <;> (repeat' first | rfl | apply And.intro)); done) | ((simp [Tm.Ds_all, Ty.Ds_all, Tm.D, Ty.D, listAll] <;> (repeat' first | rfl | apply And.intro)); done) | (simp [Tm.Ds_all, Ty.Ds_all, Tm.D, Ty.D, listAll]; omega)
theorem P_equality_depth {a0 : Tm} {r : Int} (e : equality_depth a0 = some r) : M_equality_depth a0 r := G_equality_depth.1 _ _ e _ rfl
def M_types_Size (a0 : Ty) (r : Int) : Prop := Pure Try.prog 166 [(Ty.D a0)] (.int .i64 r)
def M_types_Size_l0 (rest0 : (List Ty)) (t3_0 : Int) (r : Int) : Prop := ∀ (a0 : Ty) (k0 : Nat) (hd0 : rest0 = a0.args.drop k0), LoopAt T Try.prog Try.f166 Fx0 [] [1, 1, 0, 1, 0] (EP T Try.f166 (.int .i64 r)) [(3, .d (.int .i64 t3_0)), (7, .d (.slice 3 (Ty.Ds a0.args))), (8, .d (.int .i64 ((Ty.Ds a0.args).length : Int))), (9, .d (.int .i64 (k0 : Int)))] [[]]
theorem G_types_Size : (∀ p r, types_Size' p = some r → ∀ a0, a0 = p → M_types_Size a0 r) ∧
    (∀ p r, types_Size_l0' p = some r → ∀ rest0 t3_0, (rest0, t3_0) = p → M_types_Size_l0 rest0 t3_0 r) := by
  refine types_Size'.mutual_partial_correctness (fun (p : Ty) (r : Int) => ∀ (a0 : Ty), a0 = p → M_types_Size a0 r) (fun (p : ((List Ty) × Int)) (r : Int) => ∀ (rest0 : (List Ty)) (t3_0 : Int), (rest0, t3_0) = p → M_types_Size_l0 rest0 t3_0 r) ?_ ?_
  · intro f_types_Size_l0 ih_types_Size_l0 p r e a0 hp
    subst hp
    refine pure_of_awp (js := []) T_ok Try.func166 rfl (by decide +kernel) rfl ?_; (conv => whnf)
    refine RunsL.runs (RunsL.weak ((ih_types_Size_l0 _ _ e _ _ rfl) a0 0 (by simp)) ?_)
    repeat' first | exact wk.of_eq rfl | exact wk.pure rfl | exact wk.un _ | exact wk.hold _ _ _ | exact wk.holdG _ _ _ | exact rfl | exact trivial | refine ⟨?_, ?_⟩ | (refine wk.of_eq ?_; (conv => lhs; whnf); (simp [Ty.Ds_all, Ty.D, listAll] <;> (repeat' first | rfl | apply And.intro)); done) | (refine wk.pure ?_; (conv => lhs; whnf); (simp [Ty.Ds_all, Ty.D, listAll] <;> (repeat' first | rfl | apply And.intro)); done) | ((simp [Ty.Ds_all, Ty.D, listAll] <;> (repeat' first | rfl | apply And.intro)); done) | (simp [Ty.Ds_all, Ty.D, listAll]; omega)
  · intro f_types_Size f_types_Size_l0 ih_types_Size ih_types_Size_l0 p r e rest0 t3_0 hp
    subst hp
    intro a0 k0 hd0
    refine RunsL.len_tmp 7 rfl fun hlenk0 => ?_
    refine RunsL.of_awp (js := []) T_ok ?_; (conv => whnf)
    have hls := Ty.Ds_len a0.args
    cases rest0 with
    | nil =>
      have hk := drop_nil hd0
      refine ⟨⟨fun h => absurd h (by omega), fun _ => ?_⟩⟩; (conv => whnf)
      obtain rfl := sm e
      repeat' first | exact rfl | exact trivial | refine ⟨?_, ?_⟩
    | cons v10 rest0 =>
      obtain ⟨hxv10, hd0, hltv10⟩ := drop_head hd0
      refine ⟨⟨fun _ => ?_, fun h => absurd (by omega) h⟩⟩; (conv => whnf)
      refine ⟨k0, _, rfl, Ty.Ds_get hxv10, ?_⟩; (conv => whnf)
      refine ⟨Ty.Ds_fit _ rfl rfl, ?_⟩; (conv => whnf)
      obtain ⟨v11, qv11, e⟩ := bnd e
      refine said_pure (ih_types_Size _ _ qv11 _ rfl) rfl ?_; (conv => whnf)
      obtain ⟨v12, qv12, e⟩ := bnd e
      refine ⟨v12, sm qv12, ?_⟩; (conv => whnf)
      refine ⟨((k0 + 1 : Nat) : Int), wrap64e (by omega) (by omega) (by omega), ?_⟩; (conv => whnf)
      refine (RunsL.weak ((ih_types_Size_l0 _ _ e _ _ rfl) a0 (k0 + 1) hd0) ?_)
      repeat' first | exact wk.of_eq rfl | exact wk.pure rfl | exact wk.un _ | exact wk.hold _ _ _ | exact wk.holdG _ _ _ | exact rfl | exact trivial | refine ⟨?_, ?_⟩ | (refine wk.of_eq ?_; (conv => lhs; whnf); (simp [Ty.Ds_all, Ty.D, listAll] <;> (repeat' first | rfl | apply And.intro)); done) | (refine wk.pure ?_; (conv => lhs; whnf); (simp [Ty.Ds_all, Ty.D, listAll] <;> (repeat' first | rfl | apply And.intro)); done) | ((simp [Ty.Ds_all, Ty.D, listAll] <;> (repeat' first | rfl | apply And.intro)); done) | (simp [Ty.Ds_all, Ty.D, listAll]; omega)
theorem P_types_Size {a0 : Ty} {r : Int} (e : types_Size a0 = some r) : M_types_Size a0 r := G_types_Size.1 _ _ e _ rfl
end Go.Proofs.Ytdjmibbgoajcaaa.Fw

