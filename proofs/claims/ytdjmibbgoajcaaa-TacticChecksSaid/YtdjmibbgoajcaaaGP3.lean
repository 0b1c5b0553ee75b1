/- The code computes the functions. -/
import Derived.Test.YtdjmibbgoajcaaaGP2
set_option autoImplicit false
set_option linter.unusedVariables false
set_option linter.unusedSimpArgs false
set_option maxHeartbeats 4000000
namespace Go.Proofs.Ytdjmibbgoajcaaa.Fw
open Go Go.Proofs Go.RowKit
def M_sequentref29_shape (a0 : ATactic) (r : Bool) : Prop := Pure Try.prog 95 [(ATactic.D a0)] (.bool r)
def M_sequentref29_shape_j0 (a0 : ATactic) (r : Bool) : Prop := JoinAt T Try.prog Try.f95 Fx0 [4, 6] [1, 1, 1, 0, 0] (EP T Try.f95 (.bool r)) [(1, .ptr 0 0 0), (3, .d (.int .i64 ((ATactic.Ds a0.kids).length : Int)))] [[.cells [.d (.int .u8 a0.kind), .d (.int .i64 a0.at_), .d (.int .i64 a0.to_), .d (.int .u8 a0.term.kind), .d (.str a0.term.name), .d (.bool a0.term.ty.v), .d (.str a0.term.ty.name), .d (.slice 3 (Ty.Ds a0.term.ty.args)), .d (.int .i64 a0.term.index), .d (.slice 7 (Tm.Ds a0.term.sub)), .d (.slice 11 (ATactic.Ds a0.kids))]]]
def M_sequentref29_shape_j1 (a0 : ATactic) (r : Bool) : Prop := JoinAt T Try.prog Try.f95 Fx0 [4, 6] [1, 1, 1, 1, 0, 0] (EP T Try.f95 (.bool r)) [(1, .ptr 0 0 0), (3, .d (.int .i64 ((ATactic.Ds a0.kids).length : Int)))] [[.cells [.d (.int .u8 a0.kind), .d (.int .i64 a0.at_), .d (.int .i64 a0.to_), .d (.int .u8 a0.term.kind), .d (.str a0.term.name), .d (.bool a0.term.ty.v), .d (.str a0.term.ty.name), .d (.slice 3 (Ty.Ds a0.term.ty.args)), .d (.int .i64 a0.term.index), .d (.slice 7 (Tm.Ds a0.term.sub)), .d (.slice 11 (ATactic.Ds a0.kids))]]]
def M_sequentref29_shape_l0 (rest0 : (List ATactic)) (r : Bool) : Prop := ∀ (a0 : ATactic) (k0 : Nat) (hd0 : rest0 = a0.kids.drop k0), LoopAt T Try.prog Try.f95 Fx0 [4, 6] [1, 1, 1, 1, 0, 1, 0] (EP T Try.f95 (.bool r)) [(1, .ptr 0 0 0), (3, .d (.int .i64 ((ATactic.Ds a0.kids).length : Int))), (4, .d (.int .i64 (k0 : Int)))] [[.cells [.d (.int .u8 a0.kind), .d (.int .i64 a0.at_), .d (.int .i64 a0.to_), .d (.int .u8 a0.term.kind), .d (.str a0.term.name), .d (.bool a0.term.ty.v), .d (.str a0.term.ty.name), .d (.slice 3 (Ty.Ds a0.term.ty.args)), .d (.int .i64 a0.term.index), .d (.slice 7 (Tm.Ds a0.term.sub)), .d (.slice 11 (ATactic.Ds a0.kids))]]]
theorem G_sequentref29_shape : (∀ p r, sequentref29_shape' p = some r → ∀ a0, a0 = p → M_sequentref29_shape a0 r) ∧
    (∀ p r, sequentref29_shape_j0' p = some r → ∀ a0, a0 = p → M_sequentref29_shape_j0 a0 r) ∧
    (∀ p r, sequentref29_shape_j1' p = some r → ∀ a0, a0 = p → M_sequentref29_shape_j1 a0 r) ∧
    (∀ p r, sequentref29_shape_l0' p = some r → ∀ rest0, rest0 = p → M_sequentref29_shape_l0 rest0 r) := by
  refine sequentref29_shape'.mutual_partial_correctness (fun (p : ATactic) (r : Bool) => ∀ (a0 : ATactic), a0 = p → M_sequentref29_shape a0 r) (fun (p : ATactic) (r : Bool) => ∀ (a0 : ATactic), a0 = p → M_sequentref29_shape_j0 a0 r) (fun (p : ATactic) (r : Bool) => ∀ (a0 : ATactic), a0 = p → M_sequentref29_shape_j1 a0 r) (fun (p : (List ATactic)) (r : Bool) => ∀ (rest0 : (List ATactic)), rest0 = p → M_sequentref29_shape_l0 rest0 r) ?_ ?_ ?_ ?_
  · intro f_sequentref29_shape_j0 ih_sequentref29_shape_j0 p r e a0 hp
    subst hp
    refine pure_of_awp (js := [4, 6]) T_ok Try.func95 rfl (by decide +kernel) rfl ?_; (conv => whnf)
    obtain ⟨v1, qv1, e⟩ := bnd e
    refine said_pure (P_sequentref29_kids qv1) rfl ?_; (conv => whnf)
    refine ⟨⟨fun h2 => ?_, fun h2 => ?_⟩⟩
    · replace e := ifp (by first | exact h2 | omega | simpa [ATactic.Ds_all, Tm.Ds_all, Ty.Ds_all, ATactic.D, Tm.D, Ty.D, listAll] using h2) e; (conv => whnf)
      refine ⟨⟨fun h3 => ?_, fun h3 => ?_⟩⟩
      · replace e := ifp h3 e; (conv => whnf)
        obtain rfl := sm e
        repeat' first | exact rfl | exact trivial | refine ⟨?_, ?_⟩
      · replace e := ifn h3 e; (conv => whnf)
        refine ⟨⟨fun h4 => ?_, fun h4 => ?_⟩⟩
        · replace e := ifp (by first | exact h4 | omega | simpa [ATactic.Ds_all, Tm.Ds_all, Ty.Ds_all, ATactic.D, Tm.D, Ty.D, listAll] using h4) e; (conv => whnf)
          obtain rfl := sm e
          repeat' first | exact rfl | exact trivial | refine ⟨?_, ?_⟩
        · replace e := ifn (by first | exact h4 | omega | simpa [ATactic.Ds_all, Tm.Ds_all, Ty.Ds_all, ATactic.D, Tm.D, Ty.D, listAll] using h4) e; (conv => whnf)
          refine ⟨⟨fun h5 => ?_, fun h5 => ?_⟩⟩
          · replace e := ifp (by first | exact h5 | omega | simpa [ATactic.Ds_all, Tm.Ds_all, Ty.Ds_all, ATactic.D, Tm.D, Ty.D, listAll] using h5) e; (conv => whnf)
            obtain rfl := sm e
            repeat' first | exact rfl | exact trivial | refine ⟨?_, ?_⟩
          · replace e := ifn (by first | exact h5 | omega | simpa [ATactic.Ds_all, Tm.Ds_all, Ty.Ds_all, ATactic.D, Tm.D, Ty.D, listAll] using h5) e; (conv => whnf)
            refine Runs.weak (ih_sequentref29_shape_j0 _ _ e _ rfl) ?_
            repeat' first | exact wk.of_eq rfl | exact wk.pure rfl | exact wk.un _ | exact wk.hold _ _ _ | exact wk.holdG _ _ _ | exact rfl | exact trivial | refine ⟨?_, ?_⟩ | (refine wk.of_eq ?_; (conv => lhs; whnf); (simp [ATactic.Ds_all, Tm.Ds_all, Ty.Ds_all, ATactic.D, Tm.D, Ty.D, listAll] <;> (repeat' first | rfl | apply And.intro)); done) | (refine wk.pure ?_; (conv => lhs; whnf); (simp [ATactic.Ds_all, Tm.Ds_all, Ty.Ds_all, ATactic.D, Tm.D, Ty.D, listAll] <;> (repeat' first | rfl | apply And.intro)); done) | ((simp [ATactic.Ds_all, Tm.Ds_all, Ty.Ds_all, ATactic.D, Tm.D, Ty.D, listAll] <;> (repeat' first | rfl | apply And.intro)); done) | (simp [ATactic.Ds_all, Tm.Ds_all, Ty.Ds_all, ATactic.D, Tm.D, Ty.D, listAll]; omega)
    · replace e := ifn (by first | exact h2 | omega | simpa [ATactic.Ds_all, Tm.Ds_all, Ty.Ds_all, ATactic.D, Tm.D, Ty.D, listAll] using h2) e; (conv => whnf)
      refine Runs.weak (ih_sequentref29_shape_j0 _ _ e _ rfl) ?_
      repeat' first | exact wk.of_eq rfl | exact wk.pure rfl | exact wk.un _ | exact wk.hold _ _ _ | exact wk.holdG _ _ _ | exact rfl | exact trivial | refine ⟨?_, ?_⟩ | (refine wk.of_eq ?_; (conv => lhs; whnf); (simp [ATactic.Ds_all, Tm.Ds_all, Ty.Ds_all, ATactic.D, Tm.D, Ty.D, listAll] <;> (repeat' first | rfl | apply And.intro)); done) | (refine wk.pure ?_; (conv => lhs; whnf); (simp [ATactic.Ds_all, Tm.Ds_all, Ty.Ds_all, ATactic.D, Tm.D, Ty.D, listAll] <;> (repeat' first | rfl | apply And.intro)); done) | ((simp [ATactic.Ds_all, Tm.Ds_all, Ty.Ds_all, ATactic.D, Tm.D, Ty.D, listAll] <;> (repeat' first | rfl | apply And.intro)); done) | (simp [ATactic.Ds_all, Tm.Ds_all, Ty.Ds_all, ATactic.D, Tm.D, Ty.D, listAll]; omega)
  · intro f_sequentref29_shape_j1 ih_sequentref29_shape_j1 p r e a0 hp
    subst hp
    refine Runs.enter T_ok ?_; (conv => whnf)
    obtain ⟨v2, qv2, e⟩ := bnd e
    refine said_pure (P_sequentref29_usesAt qv2) rfl ?_; (conv => whnf)
    refine brK.nsplit (fun hb3 => ?_) (fun hb3 => ?_)
    · replace e := ifpb hb3 e; (conv => whnf)
      refine brK.ntt hb3 ?_; (conv => whnf)
      refine brK.ntt hb3 ?_; (conv => whnf)
      refine brK.ntt hb3 ?_; (conv => whnf)
      refine ⟨⟨fun h4 => ?_, fun h4 => ?_⟩⟩
      · replace e := ifp h4 e; (conv => whnf)
        refine ⟨⟨fun h5 => ?_, fun h5 => ?_⟩⟩
        · replace e := ifp h5 e; (conv => whnf)
          obtain rfl := sm e
          repeat' first | exact rfl | exact trivial | refine ⟨?_, ?_⟩
        · replace e := ifn h5 e; (conv => whnf)
          obtain ⟨v6, qv6, e⟩ := bnd e
          refine said_pure (P_sequentref29_usesTerm qv6) rfl ?_; (conv => whnf)
          refine brK.nsplit (fun hb7 => ?_) (fun hb7 => ?_)
          · replace e := ifpb hb7 e; (conv => whnf)
            refine brK.ntt hb7 ?_; (conv => whnf)
            refine brK.ntt hb7 ?_; (conv => whnf)
            refine brK.ntt hb7 ?_; (conv => whnf)
            refine brK.ntt hb7 ?_; (conv => whnf)
            refine Runs.weak (ih_sequentref29_shape_j1 _ _ e _ rfl) ?_
            repeat' first | exact wk.of_eq rfl | exact wk.pure rfl | exact wk.un _ | exact wk.hold _ _ _ | exact wk.holdG _ _ _ | exact rfl | exact trivial | refine ⟨?_, ?_⟩ | (refine wk.of_eq ?_; (conv => lhs; whnf); (simp [ATactic.Ds_all, Tm.Ds_all, Ty.Ds_all, ATactic.D, Tm.D, Ty.D, listAll] <;> (repeat' first | rfl | apply And.intro)); done) | (refine wk.pure ?_; (conv => lhs; whnf); (simp [ATactic.Ds_all, Tm.Ds_all, Ty.Ds_all, ATactic.D, Tm.D, Ty.D, listAll] <;> (repeat' first | rfl | apply And.intro)); done) | ((simp [ATactic.Ds_all, Tm.Ds_all, Ty.Ds_all, ATactic.D, Tm.D, Ty.D, listAll] <;> (repeat' first | rfl | apply And.intro)); done) | (simp [ATactic.Ds_all, Tm.Ds_all, Ty.Ds_all, ATactic.D, Tm.D, Ty.D, listAll]; omega)
          · replace e := ifnb hb7 e; (conv => whnf)
            refine brK.nff hb7 ?_; (conv => whnf)
            refine brK.nff hb7 ?_; (conv => whnf)
            obtain ⟨v8, qv8, e⟩ := bnd e
            refine said_pure (P_sequentref29_Blank qv8) rfl ?_; (conv => whnf)
            refine brK.nff hb7 ?_; (conv => whnf)
            refine brK.nff hb7 ?_; (conv => whnf)
            refine brK.nsplit (fun hb9 => ?_) (fun hb9 => ?_)
            · replace e := ifpb hb9 e; (conv => whnf)
              refine Runs.weak (ih_sequentref29_shape_j1 _ _ e _ rfl) ?_
              repeat' first | exact wk.of_eq rfl | exact wk.pure rfl | exact wk.un _ | exact wk.hold _ _ _ | exact wk.holdG _ _ _ | exact rfl | exact trivial | refine ⟨?_, ?_⟩ | (refine wk.of_eq ?_; (conv => lhs; whnf); (simp [ATactic.Ds_all, Tm.Ds_all, Ty.Ds_all, ATactic.D, Tm.D, Ty.D, listAll] <;> (repeat' first | rfl | apply And.intro)); done) | (refine wk.pure ?_; (conv => lhs; whnf); (simp [ATactic.Ds_all, Tm.Ds_all, Ty.Ds_all, ATactic.D, Tm.D, Ty.D, listAll] <;> (repeat' first | rfl | apply And.intro)); done) | ((simp [ATactic.Ds_all, Tm.Ds_all, Ty.Ds_all, ATactic.D, Tm.D, Ty.D, listAll] <;> (repeat' first | rfl | apply And.intro)); done) | (simp [ATactic.Ds_all, Tm.Ds_all, Ty.Ds_all, ATactic.D, Tm.D, Ty.D, listAll]; omega)
            · replace e := ifnb hb9 e; (conv => whnf)
              obtain rfl := sm e
              repeat' first | exact rfl | exact trivial | refine ⟨?_, ?_⟩
      · replace e := ifn h4 e; (conv => whnf)
        obtain ⟨v5, qv5, e⟩ := bnd e
        refine said_pure (P_sequentref29_usesTerm qv5) rfl ?_; (conv => whnf)
        refine brK.nsplit (fun hb6 => ?_) (fun hb6 => ?_)
        · replace e := ifpb hb6 e; (conv => whnf)
          refine brK.ntt hb6 ?_; (conv => whnf)
          refine brK.ntt hb6 ?_; (conv => whnf)
          refine brK.ntt hb6 ?_; (conv => whnf)
          refine brK.ntt hb6 ?_; (conv => whnf)
          refine Runs.weak (ih_sequentref29_shape_j1 _ _ e _ rfl) ?_
          repeat' first | exact wk.of_eq rfl | exact wk.pure rfl | exact wk.un _ | exact wk.hold _ _ _ | exact wk.holdG _ _ _ | exact rfl | exact trivial | refine ⟨?_, ?_⟩ | (refine wk.of_eq ?_; (conv => lhs; whnf); (simp [ATactic.Ds_all, Tm.Ds_all, Ty.Ds_all, ATactic.D, Tm.D, Ty.D, listAll] <;> (repeat' first | rfl | apply And.intro)); done) | (refine wk.pure ?_; (conv => lhs; whnf); (simp [ATactic.Ds_all, Tm.Ds_all, Ty.Ds_all, ATactic.D, Tm.D, Ty.D, listAll] <;> (repeat' first | rfl | apply And.intro)); done) | ((simp [ATactic.Ds_all, Tm.Ds_all, Ty.Ds_all, ATactic.D, Tm.D, Ty.D, listAll] <;> (repeat' first | rfl | apply And.intro)); done) | (simp [ATactic.Ds_all, Tm.Ds_all, Ty.Ds_all, ATactic.D, Tm.D, Ty.D, listAll]; omega)
        · replace e := ifnb hb6 e; (conv => whnf)
          refine brK.nff hb6 ?_; (conv => whnf)
          refine brK.nff hb6 ?_; (conv => whnf)
          obtain ⟨v7, qv7, e⟩ := bnd e
          refine said_pure (P_sequentref29_Blank qv7) rfl ?_; (conv => whnf)
          refine brK.nff hb6 ?_; (conv => whnf)
          refine brK.nff hb6 ?_; (conv => whnf)
          refine brK.nsplit (fun hb8 => ?_) (fun hb8 => ?_)
          · replace e := ifpb hb8 e; (conv => whnf)
            refine Runs.weak (ih_sequentref29_shape_j1 _ _ e _ rfl) ?_
            repeat' first | exact wk.of_eq rfl | exact wk.pure rfl | exact wk.un _ | exact wk.hold _ _ _ | exact wk.holdG _ _ _ | exact rfl | exact trivial | refine ⟨?_, ?_⟩ | (refine wk.of_eq ?_; (conv => lhs; whnf); (simp [ATactic.Ds_all, Tm.Ds_all, Ty.Ds_all, ATactic.D, Tm.D, Ty.D, listAll] <;> (repeat' first | rfl | apply And.intro)); done) | (refine wk.pure ?_; (conv => lhs; whnf); (simp [ATactic.Ds_all, Tm.Ds_all, Ty.Ds_all, ATactic.D, Tm.D, Ty.D, listAll] <;> (repeat' first | rfl | apply And.intro)); done) | ((simp [ATactic.Ds_all, Tm.Ds_all, Ty.Ds_all, ATactic.D, Tm.D, Ty.D, listAll] <;> (repeat' first | rfl | apply And.intro)); done) | (simp [ATactic.Ds_all, Tm.Ds_all, Ty.Ds_all, ATactic.D, Tm.D, Ty.D, listAll]; omega)
          · replace e := ifnb hb8 e; (conv => whnf)
            obtain rfl := sm e
            repeat' first | exact rfl | exact trivial | refine ⟨?_, ?_⟩
    · replace e := ifnb hb3 e; (conv => whnf)
      refine brK.nff hb3 ?_; (conv => whnf)
      refine brK.nff hb3 ?_; (conv => whnf)
      refine ⟨⟨fun h4 => ?_, fun h4 => ?_⟩⟩
      · replace e := ifp h4 e; (conv => whnf)
        refine brK.nff hb3 ?_; (conv => whnf)
        obtain rfl := sm e
        repeat' first | exact rfl | exact trivial | refine ⟨?_, ?_⟩
      · replace e := ifn h4 e; (conv => whnf)
        refine brK.nff hb3 ?_; (conv => whnf)
        refine ⟨⟨fun h5 => ?_, fun h5 => ?_⟩⟩
        · replace e := ifp h5 e; (conv => whnf)
          refine ⟨⟨fun h6 => ?_, fun h6 => ?_⟩⟩
          · replace e := ifp h6 e; (conv => whnf)
            obtain rfl := sm e
            repeat' first | exact rfl | exact trivial | refine ⟨?_, ?_⟩
          · replace e := ifn h6 e; (conv => whnf)
            obtain ⟨v7, qv7, e⟩ := bnd e
            refine said_pure (P_sequentref29_usesTerm qv7) rfl ?_; (conv => whnf)
            refine brK.nsplit (fun hb8 => ?_) (fun hb8 => ?_)
            · replace e := ifpb hb8 e; (conv => whnf)
              refine brK.ntt hb8 ?_; (conv => whnf)
              refine brK.ntt hb8 ?_; (conv => whnf)
              refine brK.ntt hb8 ?_; (conv => whnf)
              refine brK.ntt hb8 ?_; (conv => whnf)
              refine Runs.weak (ih_sequentref29_shape_j1 _ _ e _ rfl) ?_
              repeat' first | exact wk.of_eq rfl | exact wk.pure rfl | exact wk.un _ | exact wk.hold _ _ _ | exact wk.holdG _ _ _ | exact rfl | exact trivial | refine ⟨?_, ?_⟩ | (refine wk.of_eq ?_; (conv => lhs; whnf); (simp [ATactic.Ds_all, Tm.Ds_all, Ty.Ds_all, ATactic.D, Tm.D, Ty.D, listAll] <;> (repeat' first | rfl | apply And.intro)); done) | (refine wk.pure ?_; (conv => lhs; whnf); (simp [ATactic.Ds_all, Tm.Ds_all, Ty.Ds_all, ATactic.D, Tm.D, Ty.D, listAll] <;> (repeat' first | rfl | apply And.intro)); done) | ((simp [ATactic.Ds_all, Tm.Ds_all, Ty.Ds_all, ATactic.D, Tm.D, Ty.D, listAll] <;> (repeat' first | rfl | apply And.intro)); done) | (simp [ATactic.Ds_all, Tm.Ds_all, Ty.Ds_all, ATactic.D, Tm.D, Ty.D, listAll]; omega)
            · replace e := ifnb hb8 e; (conv => whnf)
              refine brK.nff hb8 ?_; (conv => whnf)
              refine brK.nff hb8 ?_; (conv => whnf)
              obtain ⟨v9, qv9, e⟩ := bnd e
              refine said_pure (P_sequentref29_Blank qv9) rfl ?_; (conv => whnf)
              refine brK.nff hb8 ?_; (conv => whnf)
              refine brK.nff hb8 ?_; (conv => whnf)
              refine brK.nsplit (fun hb10 => ?_) (fun hb10 => ?_)
              · replace e := ifpb hb10 e; (conv => whnf)
                refine Runs.weak (ih_sequentref29_shape_j1 _ _ e _ rfl) ?_
                repeat' first | exact wk.of_eq rfl | exact wk.pure rfl | exact wk.un _ | exact wk.hold _ _ _ | exact wk.holdG _ _ _ | exact rfl | exact trivial | refine ⟨?_, ?_⟩ | (refine wk.of_eq ?_; (conv => lhs; whnf); (simp [ATactic.Ds_all, Tm.Ds_all, Ty.Ds_all, ATactic.D, Tm.D, Ty.D, listAll] <;> (repeat' first | rfl | apply And.intro)); done) | (refine wk.pure ?_; (conv => lhs; whnf); (simp [ATactic.Ds_all, Tm.Ds_all, Ty.Ds_all, ATactic.D, Tm.D, Ty.D, listAll] <;> (repeat' first | rfl | apply And.intro)); done) | ((simp [ATactic.Ds_all, Tm.Ds_all, Ty.Ds_all, ATactic.D, Tm.D, Ty.D, listAll] <;> (repeat' first | rfl | apply And.intro)); done) | (simp [ATactic.Ds_all, Tm.Ds_all, Ty.Ds_all, ATactic.D, Tm.D, Ty.D, listAll]; omega)
              · replace e := ifnb hb10 e; (conv => whnf)
                obtain rfl := sm e
                repeat' first | exact rfl | exact trivial | refine ⟨?_, ?_⟩
        · replace e := ifn h5 e; (conv => whnf)
          obtain ⟨v6, qv6, e⟩ := bnd e
          refine said_pure (P_sequentref29_usesTerm qv6) rfl ?_; (conv => whnf)
          refine brK.nsplit (fun hb7 => ?_) (fun hb7 => ?_)
          · replace e := ifpb hb7 e; (conv => whnf)
            refine brK.ntt hb7 ?_; (conv => whnf)
            refine brK.ntt hb7 ?_; (conv => whnf)
            refine brK.ntt hb7 ?_; (conv => whnf)
            refine brK.ntt hb7 ?_; (conv => whnf)
            refine Runs.weak (ih_sequentref29_shape_j1 _ _ e _ rfl) ?_
            repeat' first | exact wk.of_eq rfl | exact wk.pure rfl | exact wk.un _ | exact wk.hold _ _ _ | exact wk.holdG _ _ _ | exact rfl | exact trivial | refine ⟨?_, ?_⟩ | (refine wk.of_eq ?_; (conv => lhs; whnf); (simp [ATactic.Ds_all, Tm.Ds_all, Ty.Ds_all, ATactic.D, Tm.D, Ty.D, listAll] <;> (repeat' first | rfl | apply And.intro)); done) | (refine wk.pure ?_; (conv => lhs; whnf); (simp [ATactic.Ds_all, Tm.Ds_all, Ty.Ds_all, ATactic.D, Tm.D, Ty.D, listAll] <;> (repeat' first | rfl | apply And.intro)); done) | ((simp [ATactic.Ds_all, Tm.Ds_all, Ty.Ds_all, ATactic.D, Tm.D, Ty.D, listAll] <;> (repeat' first | rfl | apply And.intro)); done) | (simp [ATactic.Ds_all, Tm.Ds_all, Ty.Ds_all, ATactic.D, Tm.D, Ty.D, listAll]; omega)
          · replace e := ifnb hb7 e; (conv => whnf)
            refine brK.nff hb7 ?_; (conv => whnf)
            refine brK.nff hb7 ?_; (conv => whnf)
            obtain ⟨v8, qv8, e⟩ := bnd e
            refine said_pure (P_sequentref29_Blank qv8) rfl ?_; (conv => whnf)
            refine brK.nff hb7 ?_; (conv => whnf)
            refine brK.nff hb7 ?_; (conv => whnf)
            refine brK.nsplit (fun hb9 => ?_) (fun hb9 => ?_)
            · replace e := ifpb hb9 e; (conv => whnf)
              refine Runs.weak (ih_sequentref29_shape_j1 _ _ e _ rfl) ?_
              repeat' first | exact wk.of_eq rfl | exact wk.pure rfl | exact wk.un _ | exact wk.hold _ _ _ | exact wk.holdG _ _ _ | exact rfl | exact trivial | refine ⟨?_, ?_⟩ | (refine wk.of_eq ?_; (conv => lhs; whnf); (simp [ATactic.Ds_all, Tm.Ds_all, Ty.Ds_all, ATactic.D, Tm.D, Ty.D, listAll] <;> (repeat' first | rfl | apply And.intro)); done) | (refine wk.pure ?_; (conv => lhs; whnf); (simp [ATactic.Ds_all, Tm.Ds_all, Ty.Ds_all, ATactic.D, Tm.D, Ty.D, listAll] <;> (repeat' first | rfl | apply And.intro)); done) | ((simp [ATactic.Ds_all, Tm.Ds_all, Ty.Ds_all, ATactic.D, Tm.D, Ty.D, listAll] <;> (repeat' first | rfl | apply And.intro)); done) | (simp [ATactic.Ds_all, Tm.Ds_all, Ty.Ds_all, ATactic.D, Tm.D, Ty.D, listAll]; omega)
            · replace e := ifnb hb9 e; (conv => whnf)
              obtain rfl := sm e
              repeat' first | exact rfl | exact trivial | refine ⟨?_, ?_⟩
  · intro f_sequentref29_shape_l0 ih_sequentref29_shape_l0 p r e a0 hp
    subst hp
    refine Runs.enter T_ok ?_; (conv => whnf)
    refine RunsL.runs (RunsL.weak ((ih_sequentref29_shape_l0 _ _ e _ rfl) a0 0 (by simp)) ?_)
    repeat' first | exact wk.of_eq rfl | exact wk.pure rfl | exact wk.un _ | exact wk.hold _ _ _ | exact wk.holdG _ _ _ | exact rfl | exact trivial | refine ⟨?_, ?_⟩ | (refine wk.of_eq ?_; (conv => lhs; whnf); (simp [ATactic.Ds_all, Tm.Ds_all, Ty.Ds_all, ATactic.D, Tm.D, Ty.D, listAll] <;> (repeat' first | rfl | apply And.intro)); done) | (refine wk.pure ?_; (conv => lhs; whnf); (simp [ATactic.Ds_all, Tm.Ds_all, Ty.Ds_all, ATactic.D, Tm.D, Ty.D, listAll] <;> (repeat' first | rfl | apply And.intro)); done) | ((simp [ATactic.Ds_all, Tm.Ds_all, Ty.Ds_all, ATactic.D, Tm.D, Ty.D, listAll] <;> (repeat' first | rfl | apply And.intro)); done) | (simp [ATactic.Ds_all, Tm.Ds_all, Ty.Ds_all, ATactic.D, Tm.D, Ty.D, listAll]; omega)
  · intro f_sequentref29_shape f_sequentref29_shape_l0 ih_sequentref29_shape ih_sequentref29_shape_l0 p r e rest0 hp
    subst hp
    intro a0 k0 hd0
    refine RunsL.len_cell 0 10 rfl rfl rfl fun hlenk0 => ?_
    refine RunsL.of_awp (js := [4, 6]) T_ok ?_; (conv => whnf)
    have hls := ATactic.Ds_len a0.kids
    cases rest0 with
    | nil =>
      have hk := drop_nil hd0
      refine ⟨⟨fun h => absurd h (by omega), fun _ => ?_⟩⟩; (conv => whnf)
      obtain rfl := sm e
      repeat' first | exact rfl | exact trivial | refine ⟨?_, ?_⟩
    | cons v11 rest0 =>
      obtain ⟨hxv11, hd0, hltv11⟩ := drop_head hd0
      refine ⟨⟨fun _ => ?_, fun h => absurd (by omega) h⟩⟩; (conv => whnf)
      refine ⟨k0, _, rfl, ATactic.Ds_get hxv11, ?_⟩; (conv => whnf)
      refine ⟨ATactic.Ds_fit _ rfl rfl, ?_⟩; (conv => whnf)
      obtain ⟨v12, qv12, e⟩ := bnd e
      refine said_pure (ih_sequentref29_shape _ _ qv12 _ rfl) rfl ?_; (conv => whnf)
      refine brK.nsplit (fun hb13 => ?_) (fun hb13 => ?_)
      · replace e := ifpb hb13 e; (conv => whnf)
        refine ⟨((k0 + 1 : Nat) : Int), wrap64e (by omega) (by omega) (by omega), ?_⟩; (conv => whnf)
        refine (RunsL.weak ((ih_sequentref29_shape_l0 _ _ e _ rfl) a0 (k0 + 1) hd0) ?_)
        repeat' first | exact wk.of_eq rfl | exact wk.pure rfl | exact wk.un _ | exact wk.hold _ _ _ | exact wk.holdG _ _ _ | exact rfl | exact trivial | refine ⟨?_, ?_⟩ | (refine wk.of_eq ?_; (conv => lhs; whnf); (simp [ATactic.Ds_all, Tm.Ds_all, Ty.Ds_all, ATactic.D, Tm.D, Ty.D, listAll] <;> (repeat' first | rfl | apply And.intro)); done) | (refine wk.pure ?_; (conv => lhs; whnf); (simp [ATactic.Ds_all, Tm.Ds_all, Ty.Ds_all, ATactic.D, Tm.D, Ty.D, listAll] <;> (repeat' first | rfl | apply And.intro)); done) | ((simp [ATactic.Ds_all, Tm.Ds_all, Ty.Ds_all, ATactic.D, Tm.D, Ty.D, listAll] <;> (repeat' first | rfl | apply And.intro)); done) | (simp [ATactic.Ds_all, Tm.Ds_all, Ty.Ds_all, ATactic.D, Tm.D, Ty.D, listAll]; omega)
      · replace e := ifnb hb13 e; (conv => whnf)
        obtain rfl := sm e
        repeat' first | exact rfl | exact trivial | refine ⟨?_, ?_⟩
theorem P_sequentref29_shape {a0 : ATactic} {r : Bool} (e : sequentref29_shape a0 = some r) : M_sequentref29_shape a0 r := G_sequentref29_shape.1 _ _ e _ rfl
def M_sequentref29_Given_io (a0 : (List Tm)) (a1 : ATactic) (r : (List Tm)) : Prop := IoR Try.prog 96 [.own 0 0 7 (Tm.Ds a0), .d (ATactic.D a1)] [.grow 7 (Tm.Ds a0).length] (.own 0 0 7 (Tm.Ds r)) ([.grow 7 (Tm.Ds r).length])
def M_sequentref29_Given_io_j0 (t0_1 : (List Tm)) (a1 : ATactic) (r : (List Tm)) : Prop := JoinAt T Try.prog Try.f96 ⟨[], 1⟩ [3] [1, 1, 0, 0] (ES T Try.f96 1 (.own 0 0 7 (Tm.Ds r)) ([.grow 7 (Tm.Ds r).length])) [(0, .own 0 0 7 (Tm.Ds t0_1)), (3, .ptr 0 1 0)] [[.grow 7 (Tm.Ds t0_1).length, .cells [.d (.int .u8 a1.kind), .d (.int .i64 a1.at_), .d (.int .i64 a1.to_), .d (.int .u8 a1.term.kind), .d (.str a1.term.name), .d (.bool a1.term.ty.v), .d (.str a1.term.ty.name), .d (.slice 3 (Ty.Ds a1.term.ty.args)), .d (.int .i64 a1.term.index), .d (.slice 7 (Tm.Ds a1.term.sub)), .d (.slice 11 (ATactic.Ds a1.kids))]]]
def M_sequentref29_Given_io_l0 (rest0 : (List ATactic)) (t0_0 : (List Tm)) (r : (List Tm)) : Prop := ∀ (a1 : ATactic) (k0 : Nat) (hd0 : rest0 = a1.kids.drop k0), LoopAt T Try.prog Try.f96 ⟨[], 1⟩ [3] [1, 1, 0, 1, 0] (ES T Try.f96 1 (.own 0 0 7 (Tm.Ds r)) ([.grow 7 (Tm.Ds r).length])) [(0, .own 0 0 7 (Tm.Ds t0_0)), (3, .ptr 0 1 0), (5, .d (.int .i64 (k0 : Int)))] [[.grow 7 (Tm.Ds t0_0).length, .cells [.d (.int .u8 a1.kind), .d (.int .i64 a1.at_), .d (.int .i64 a1.to_), .d (.int .u8 a1.term.kind), .d (.str a1.term.name), .d (.bool a1.term.ty.v), .d (.str a1.term.ty.name), .d (.slice 3 (Ty.Ds a1.term.ty.args)), .d (.int .i64 a1.term.index), .d (.slice 7 (Tm.Ds a1.term.sub)), .d (.slice 11 (ATactic.Ds a1.kids))]]]
theorem G_sequentref29_Given_io : (∀ p r, sequentref29_Given_io' p = some r → ∀ a0 a1, (a0, a1) = p → M_sequentref29_Given_io a0 a1 r) ∧
    (∀ p r, sequentref29_Given_io_j0' p = some r → ∀ t0_1 a1, (t0_1, a1) = p → M_sequentref29_Given_io_j0 t0_1 a1 r) ∧
    (∀ p r, sequentref29_Given_io_l0' p = some r → ∀ rest0 t0_0, (rest0, t0_0) = p → M_sequentref29_Given_io_l0 rest0 t0_0 r) := by
  refine sequentref29_Given_io'.mutual_partial_correctness (fun (p : ((List Tm) × ATactic)) (r : (List Tm)) => ∀ (a0 : (List Tm)) (a1 : ATactic), (a0, a1) = p → M_sequentref29_Given_io a0 a1 r) (fun (p : ((List Tm) × ATactic)) (r : (List Tm)) => ∀ (t0_1 : (List Tm)) (a1 : ATactic), (t0_1, a1) = p → M_sequentref29_Given_io_j0 t0_1 a1 r) (fun (p : ((List ATactic) × (List Tm))) (r : (List Tm)) => ∀ (rest0 : (List ATactic)) (t0_0 : (List Tm)), (rest0, t0_0) = p → M_sequentref29_Given_io_l0 rest0 t0_0 r) ?_ ?_ ?_
  · intro f_sequentref29_Given_io_j0 ih_sequentref29_Given_io_j0 p r e a0 a1 hp
    subst hp
    refine io_of_awp2 (js := [3]) T_ok Try.func96 rfl (by decide +kernel) rfl ?_; (conv => whnf)
    obtain ⟨v1, qv1, e⟩ := bnd e
    refine said_pure (P_sequentref29_usesTerm qv1) rfl ?_; (conv => whnf)
    refine brK.split (fun hb2 => ?_) (fun hb2 => ?_)
    · replace e := ifpb hb2 e; (conv => whnf)
      refine ⟨⟨⟨rfl, rfl⟩, trivial⟩, ?_⟩; (conv => whnf)
      obtain ⟨v3, qv3, e⟩ := bnd e
      obtain ⟨qv3l, qv3e⟩ := app_some qv3
      refine ⟨(by first | exact qv3l | simpa [ATactic.Ds_all, Tm.Ds_all, Ty.Ds_all, ATactic.D, Tm.D, Ty.D, listAll] using qv3l), rfl, (by first | rfl | simp [ATactic.Ds_all, Tm.Ds_all, Ty.Ds_all, ATactic.D, Tm.D, Ty.D, listAll]), ?_⟩; (conv => whnf)
      refine Runs.weak (ih_sequentref29_Given_io_j0 _ _ e _ _ rfl) ?_
      repeat' first | exact wk.of_eq rfl | exact wk.pure rfl | exact wk.un _ | exact wk.hold _ _ _ | exact wk.holdG _ _ _ | exact rfl | exact trivial | refine ⟨?_, ?_⟩ | (refine wk.of_eq ?_; (conv => lhs; whnf); (simp [ATactic.Ds_all, Tm.Ds_all, Ty.Ds_all, ATactic.D, Tm.D, Ty.D, listAll, qv3e] <;> (repeat' first | rfl | apply And.intro)); done) | (refine wk.pure ?_; (conv => lhs; whnf); (simp [ATactic.Ds_all, Tm.Ds_all, Ty.Ds_all, ATactic.D, Tm.D, Ty.D, listAll, qv3e] <;> (repeat' first | rfl | apply And.intro)); done) | ((simp [ATactic.Ds_all, Tm.Ds_all, Ty.Ds_all, ATactic.D, Tm.D, Ty.D, listAll, qv3e] <;> (repeat' first | rfl | apply And.intro)); done) | (simp [ATactic.Ds_all, Tm.Ds_all, Ty.Ds_all, ATactic.D, Tm.D, Ty.D, listAll, qv3e]; omega)
    · replace e := ifnb hb2 e; (conv => whnf)
      refine Runs.weak (ih_sequentref29_Given_io_j0 _ _ e _ _ rfl) ?_
      repeat' first | exact wk.of_eq rfl | exact wk.pure rfl | exact wk.un _ | exact wk.hold _ _ _ | exact wk.holdG _ _ _ | exact rfl | exact trivial | refine ⟨?_, ?_⟩ | (refine wk.of_eq ?_; (conv => lhs; whnf); (simp [ATactic.Ds_all, Tm.Ds_all, Ty.Ds_all, ATactic.D, Tm.D, Ty.D, listAll] <;> (repeat' first | rfl | apply And.intro)); done) | (refine wk.pure ?_; (conv => lhs; whnf); (simp [ATactic.Ds_all, Tm.Ds_all, Ty.Ds_all, ATactic.D, Tm.D, Ty.D, listAll] <;> (repeat' first | rfl | apply And.intro)); done) | ((simp [ATactic.Ds_all, Tm.Ds_all, Ty.Ds_all, ATactic.D, Tm.D, Ty.D, listAll] <;> (repeat' first | rfl | apply And.intro)); done) | (simp [ATactic.Ds_all, Tm.Ds_all, Ty.Ds_all, ATactic.D, Tm.D, Ty.D, listAll]; omega)
  · intro f_sequentref29_Given_io_l0 ih_sequentref29_Given_io_l0 p r e t0_1 a1 hp
    subst hp
    refine Runs.enter T_ok ?_; (conv => whnf)
    refine RunsL.runs (RunsL.weak ((ih_sequentref29_Given_io_l0 _ _ e _ _ rfl) a1 0 (by simp)) ?_)
    repeat' first | exact wk.of_eq rfl | exact wk.pure rfl | exact wk.un _ | exact wk.hold _ _ _ | exact wk.holdG _ _ _ | exact rfl | exact trivial | refine ⟨?_, ?_⟩ | (refine wk.of_eq ?_; (conv => lhs; whnf); (simp [ATactic.Ds_all, Tm.Ds_all, Ty.Ds_all, ATactic.D, Tm.D, Ty.D, listAll] <;> (repeat' first | rfl | apply And.intro)); done) | (refine wk.pure ?_; (conv => lhs; whnf); (simp [ATactic.Ds_all, Tm.Ds_all, Ty.Ds_all, ATactic.D, Tm.D, Ty.D, listAll] <;> (repeat' first | rfl | apply And.intro)); done) | ((simp [ATactic.Ds_all, Tm.Ds_all, Ty.Ds_all, ATactic.D, Tm.D, Ty.D, listAll] <;> (repeat' first | rfl | apply And.intro)); done) | (simp [ATactic.Ds_all, Tm.Ds_all, Ty.Ds_all, ATactic.D, Tm.D, Ty.D, listAll]; omega)
  · intro f_sequentref29_Given_io f_sequentref29_Given_io_l0 ih_sequentref29_Given_io ih_sequentref29_Given_io_l0 p r e rest0 t0_0 hp
    subst hp
    intro a1 k0 hd0
    refine RunsL.len_cell 1 10 rfl rfl rfl fun hlenk0 => ?_
    refine RunsL.of_awp (js := [3]) T_ok ?_; (conv => whnf)
    have hls := ATactic.Ds_len a1.kids
    cases rest0 with
    | nil =>
      have hk := drop_nil hd0
      refine ⟨⟨fun h => absurd h (by omega), fun _ => ?_⟩⟩; (conv => whnf)
      obtain rfl := sm e
      refine ⟨[0], ⟨rfl, rfl, rfl⟩, ?_, ⟨⟨_, rfl, ?_⟩, trivial⟩⟩
      repeat' first | exact rfl | exact trivial | refine ⟨?_, ?_⟩ | (simp [ATactic.Ds_all, Tm.Ds_all, Ty.Ds_all, ATactic.D, Tm.D, Ty.D, listAll] <;> (repeat' first | rfl | apply And.intro); done)
    | cons v6 rest0 =>
      obtain ⟨hxv6, hd0, hltv6⟩ := drop_head hd0
      refine ⟨⟨fun _ => ?_, fun h => absurd (by omega) h⟩⟩; (conv => whnf)
      refine ⟨k0, _, rfl, ATactic.Ds_get hxv6, ?_⟩; (conv => whnf)
      refine ⟨ATactic.Ds_fit _ rfl rfl, ?_⟩; (conv => whnf)
      obtain ⟨v7, qv7, e⟩ := bnd e
      refine said_iorF (ih_sequentref29_Given_io _ _ qv7 _ _ rfl) [0] [.own 0 0 7 (Tm.Ds t0_0), .d (ATactic.D v6)] rfl ⟨wk.refl _, wk.pure rfl, trivial⟩ rfl rfl ?_; (conv => whnf)
      refine ⟨((k0 + 1 : Nat) : Int), wrap64e (by omega) (by omega) (by omega), ?_⟩; (conv => whnf)
      refine (RunsL.weak ((ih_sequentref29_Given_io_l0 _ _ e _ _ rfl) a1 (k0 + 1) hd0) ?_)
      repeat' first | exact wk.of_eq rfl | exact wk.pure rfl | exact wk.un _ | exact wk.hold _ _ _ | exact wk.holdG _ _ _ | exact rfl | exact trivial | refine ⟨?_, ?_⟩ | (refine wk.of_eq ?_; (conv => lhs; whnf); (simp [ATactic.Ds_all, Tm.Ds_all, Ty.Ds_all, ATactic.D, Tm.D, Ty.D, listAll] <;> (repeat' first | rfl | apply And.intro)); done) | (refine wk.pure ?_; (conv => lhs; whnf); (simp [ATactic.Ds_all, Tm.Ds_all, Ty.Ds_all, ATactic.D, Tm.D, Ty.D, listAll] <;> (repeat' first | rfl | apply And.intro)); done) | ((simp [ATactic.Ds_all, Tm.Ds_all, Ty.Ds_all, ATactic.D, Tm.D, Ty.D, listAll] <;> (repeat' first | rfl | apply And.intro)); done) | (simp [ATactic.Ds_all, Tm.Ds_all, Ty.Ds_all, ATactic.D, Tm.D, Ty.D, listAll]; omega)
theorem P_sequentref29_Given_io {a0 : (List Tm)} {a1 : ATactic} {r : (List Tm)} (e : sequentref29_Given_io a0 a1 = some r) : M_sequentref29_Given_io a0 a1 r := G_sequentref29_Given_io.1 _ _ e _ _ rfl
def M_sequentref01_Name_l0 (t3_0 : Int) (a0 : ByteArray) (r : Bool) : Prop := LoopAt T Try.prog Try.f167 Fx0 [] [1, 1, 0, 1, 0] (EP T Try.f167 (.bool r)) [(0, .d (.str a0)), (3, .d (.int .i64 t3_0))] [[]]
theorem G_sequentref01_Name_l0 : (∀ p r, sequentref01_Name_l0' p = some r → ∀ t3_0 a0, (t3_0, a0) = p → M_sequentref01_Name_l0 t3_0 a0 r) := by
  refine sequentref01_Name_l0'.partial_correctness (fun (p : (Int × ByteArray)) (r : Bool) => ∀ (t3_0 : Int) (a0 : ByteArray), (t3_0, a0) = p → M_sequentref01_Name_l0 t3_0 a0 r) ?_
  · intro f_sequentref01_Name_l0 ih_sequentref01_Name_l0 p r e t3_0 a0 hp
    subst hp
    refine RunsL.of_awp (js := []) T_ok ?_; (conv => whnf)
    refine ⟨⟨fun h4 => ?_, fun h4 => ?_⟩⟩
    · replace e := ifp h4 e; (conv => whnf)
      obtain ⟨v5, qv5, e⟩ := bnd e
      obtain ⟨qv5k, qv5q, qv5a, qv5b, qv5c⟩ := getb_some qv5
      refine ⟨qv5k, qv5q, qv5a, qv5b, ?_⟩; rw [qv5c]; (conv => whnf)
      refine ⟨⟨fun h6 => ?_, fun h6 => ?_⟩⟩
      · replace e := ifp h6 e; (conv => whnf)
        obtain rfl := sm e
        repeat' first | exact rfl | exact trivial | refine ⟨?_, ?_⟩
      · replace e := ifn h6 e; (conv => whnf)
        refine ⟨⟨fun h7 => ?_, fun h7 => ?_⟩⟩
        · replace e := ifp h7 e; (conv => whnf)
          obtain rfl := sm e
          repeat' first | exact rfl | exact trivial | refine ⟨?_, ?_⟩
        · replace e := ifn h7 e; (conv => whnf)
          refine ⟨⟨fun h8 => ?_, fun h8 => ?_⟩⟩
          · replace e := ifp h8 e; (conv => whnf)
            obtain rfl := sm e
            repeat' first | exact rfl | exact trivial | refine ⟨?_, ?_⟩
          · replace e := ifn h8 e; (conv => whnf)
            refine ⟨⟨fun h9 => ?_, fun h9 => ?_⟩⟩
            · replace e := ifp h9 e; (conv => whnf)
              obtain rfl := sm e
              repeat' first | exact rfl | exact trivial | refine ⟨?_, ?_⟩
            · replace e := ifn h9 e; (conv => whnf)
              refine ⟨⟨fun h10 => ?_, fun h10 => ?_⟩⟩
              · replace e := ifp h10 e; (conv => whnf)
                obtain rfl := sm e
                repeat' first | exact rfl | exact trivial | refine ⟨?_, ?_⟩
              · replace e := ifn h10 e; (conv => whnf)
                refine ⟨⟨fun h11 => ?_, fun h11 => ?_⟩⟩
                · replace e := ifp h11 e; (conv => whnf)
                  obtain rfl := sm e
                  repeat' first | exact rfl | exact trivial | refine ⟨?_, ?_⟩
                · replace e := ifn h11 e; (conv => whnf)
                  refine ⟨⟨fun h12 => ?_, fun h12 => ?_⟩⟩
                  · replace e := ifp h12 e; (conv => whnf)
                    obtain rfl := sm e
                    repeat' first | exact rfl | exact trivial | refine ⟨?_, ?_⟩
                  · replace e := ifn h12 e; (conv => whnf)
                    refine ⟨⟨fun h13 => ?_, fun h13 => ?_⟩⟩
                    · replace e := ifp h13 e; (conv => whnf)
                      obtain rfl := sm e
                      repeat' first | exact rfl | exact trivial | refine ⟨?_, ?_⟩
                    · replace e := ifn h13 e; (conv => whnf)
                      refine ⟨⟨fun h14 => ?_, fun h14 => ?_⟩⟩
                      · replace e := ifp h14 e; (conv => whnf)
                        obtain rfl := sm e
                        repeat' first | exact rfl | exact trivial | refine ⟨?_, ?_⟩
                      · replace e := ifn h14 e; (conv => whnf)
                        obtain ⟨v15, qv15, e⟩ := bnd e
                        refine ⟨v15, sm qv15, ?_⟩; (conv => whnf)
                        refine (RunsL.weak (ih_sequentref01_Name_l0 _ _ e _ _ rfl) ?_)
                        repeat' first | exact wk.of_eq rfl | exact wk.pure rfl | exact wk.un _ | exact wk.hold _ _ _ | exact wk.holdG _ _ _ | exact rfl | exact trivial | refine ⟨?_, ?_⟩
    · replace e := ifn h4 e; (conv => whnf)
      obtain rfl := sm e
      repeat' first | exact rfl | exact trivial | refine ⟨?_, ?_⟩
theorem P_sequentref01_Name_l0 {t3_0 : Int} {a0 : ByteArray} {r : Bool} (e : sequentref01_Name_l0 t3_0 a0 = some r) : M_sequentref01_Name_l0 t3_0 a0 r := G_sequentref01_Name_l0 _ _ e _ _ rfl
theorem P_sequentref01_Name {a0 : ByteArray} {r : Bool} (e : sequentref01_Name a0 = some r) : Pure Try.prog 167 [(.str a0)] (.bool r) := by
  unfold sequentref01_Name at e
  refine pure_of_awp (js := []) T_ok Try.func167 rfl (by decide +kernel) rfl ?_; (conv => whnf)
  refine ⟨⟨fun h1 => ?_, fun h1 => ?_⟩⟩
  · replace e := ifp h1 e; (conv => whnf)
    obtain rfl := sm e
    repeat' first | exact rfl | exact trivial | refine ⟨?_, ?_⟩
  · replace e := ifn h1 e; (conv => whnf)
    refine ⟨⟨fun h2 => ?_, fun h2 => ?_⟩⟩
    · replace e := ifp h2 e; (conv => whnf)
      obtain rfl := sm e
      repeat' first | exact rfl | exact trivial | refine ⟨?_, ?_⟩
    · replace e := ifn h2 e; (conv => whnf)
      refine RunsL.runs (RunsL.weak (P_sequentref01_Name_l0 e) ?_)
      repeat' first | exact wk.of_eq rfl | exact wk.pure rfl | exact wk.un _ | exact wk.hold _ _ _ | exact wk.holdG _ _ _ | exact rfl | exact trivial | refine ⟨?_, ?_⟩
theorem P_sequentref02_Name {a0 : ByteArray} {r : Bool} (e : sequentref02_Name a0 = some r) : Pure Try.prog 152 [(.str a0)] (.bool r) := by
  unfold sequentref02_Name at e
  refine pure_of_awp (js := []) T_ok Try.func152 rfl (by decide +kernel) rfl ?_; (conv => whnf)
  obtain ⟨v1, qv1, e⟩ := bnd e
  refine said_pure (P_sequentref01_Name qv1) rfl ?_; (conv => whnf)
  refine brK.split (fun hb2 => ?_) (fun hb2 => ?_)
  · replace e := ifpb hb2 e; (conv => whnf)
    refine brK.tt hb2 ?_; (conv => whnf)
    obtain ⟨v3, qv3, e⟩ := bnd e
    obtain ⟨qv3k, qv3q, qv3a, qv3b, qv3c⟩ := getb_some qv3
    refine ⟨qv3k, qv3q, qv3a, qv3b, ?_⟩; rw [qv3c]; (conv => whnf)
    refine brK.tt hb2 ?_; (conv => whnf)
    refine test.dec ?_; (conv => whnf)
    refine brK.tt hb2 ?_; (conv => whnf)
    obtain rfl := sm e
    repeat' first | exact rfl | exact trivial | refine ⟨?_, ?_⟩
  · replace e := ifnb hb2 e; (conv => whnf)
    refine brK.ff hb2 ?_; (conv => whnf)
    refine brK.ff hb2 ?_; (conv => whnf)
    refine brK.ff hb2 ?_; (conv => whnf)
    obtain rfl := sm e
    repeat' first | exact rfl | exact trivial | refine ⟨?_, ?_⟩
def M_sequentref01_Size (a0 : Ty) (r : Int) : Prop := Pure Try.prog 170 [(Ty.D a0)] (.int .i64 r)
def M_sequentref01_Size_l0 (rest0 : (List Ty)) (t3_0 : Int) (r : Int) : Prop := ∀ (a0 : Ty) (k0 : Nat) (hd0 : rest0 = a0.args.drop k0), LoopAt T Try.prog Try.f170 Fx0 [] [1, 1, 0, 1, 0] (EP T Try.f170 (.int .i64 r)) [(1, .ptr 0 0 0), (3, .d (.int .i64 t3_0)), (4, .d (.int .i64 (k0 : Int)))] [[.cells [.d (.bool a0.v), .d (.str a0.name), .d (.slice 3 (Ty.Ds a0.args))]]]
theorem G_sequentref01_Size : (∀ p r, sequentref01_Size' p = some r → ∀ a0, a0 = p → M_sequentref01_Size a0 r) ∧
    (∀ p r, sequentref01_Size_l0' p = some r → ∀ rest0 t3_0, (rest0, t3_0) = p → M_sequentref01_Size_l0 rest0 t3_0 r) := by
  refine sequentref01_Size'.mutual_partial_correctness (fun (p : Ty) (r : Int) => ∀ (a0 : Ty), a0 = p → M_sequentref01_Size a0 r) (fun (p : ((List Ty) × Int)) (r : Int) => ∀ (rest0 : (List Ty)) (t3_0 : Int), (rest0, t3_0) = p → M_sequentref01_Size_l0 rest0 t3_0 r) ?_ ?_
  · intro f_sequentref01_Size_l0 ih_sequentref01_Size_l0 p r e a0 hp
    subst hp
    refine pure_of_awp (js := []) T_ok Try.func170 rfl (by decide +kernel) rfl ?_; (conv => whnf)
    refine RunsL.runs (RunsL.weak ((ih_sequentref01_Size_l0 _ _ e _ _ rfl) a0 0 (by simp)) ?_)
    repeat' first | exact wk.of_eq rfl | exact wk.pure rfl | exact wk.un _ | exact wk.hold _ _ _ | exact wk.holdG _ _ _ | exact rfl | exact trivial | refine ⟨?_, ?_⟩
  · intro f_sequentref01_Size f_sequentref01_Size_l0 ih_sequentref01_Size ih_sequentref01_Size_l0 p r e rest0 t3_0 hp
    subst hp
    intro a0 k0 hd0
    refine RunsL.len_cell 0 2 rfl rfl rfl fun hlenk0 => ?_
    refine RunsL.of_awp (js := []) T_ok ?_; (conv => whnf)
    have hls := Ty.Ds_len a0.args
    cases rest0 with
    | nil =>
      have hk := drop_nil hd0
      refine ⟨⟨fun h => absurd h (by omega), fun _ => ?_⟩⟩; (conv => whnf)
      obtain rfl := sm e
      repeat' first | exact rfl | exact trivial | refine ⟨?_, ?_⟩
    | cons v5 rest0 =>
      obtain ⟨hxv5, hd0, hltv5⟩ := drop_head hd0
      refine ⟨⟨fun _ => ?_, fun h => absurd (by omega) h⟩⟩; (conv => whnf)
      refine ⟨k0, _, rfl, Ty.Ds_get hxv5, ?_⟩; (conv => whnf)
      refine ⟨Ty.Ds_fit _ rfl rfl, ?_⟩; (conv => whnf)
      obtain ⟨v6, qv6, e⟩ := bnd e
      refine said_pure (ih_sequentref01_Size _ _ qv6 _ rfl) rfl ?_; (conv => whnf)
      obtain ⟨v7, qv7, e⟩ := bnd e
      refine ⟨v7, sm qv7, ?_⟩; (conv => whnf)
      refine ⟨((k0 + 1 : Nat) : Int), wrap64e (by omega) (by omega) (by omega), ?_⟩; (conv => whnf)
      refine (RunsL.weak ((ih_sequentref01_Size_l0 _ _ e _ _ rfl) a0 (k0 + 1) hd0) ?_)
      repeat' first | exact wk.of_eq rfl | exact wk.pure rfl | exact wk.un _ | exact wk.hold _ _ _ | exact wk.holdG _ _ _ | exact rfl | exact trivial | refine ⟨?_, ?_⟩
theorem P_sequentref01_Size {a0 : Ty} {r : Int} (e : sequentref01_Size a0 = some r) : M_sequentref01_Size a0 r := G_sequentref01_Size.1 _ _ e _ rfl
def M_sequentref01_Depth (a0 : Ty) (r : Int) : Prop := Pure Try.prog 173 [(Ty.D a0)] (.int .i64 r)
def M_sequentref01_Depth_l0 (rest0 : (List Ty)) (t3_0 : Int) (r : Int) : Prop := ∀ (a0 : Ty) (k0 : Nat) (hd0 : rest0 = a0.args.drop k0), LoopAt T Try.prog Try.f173 Fx0 [] [1, 1, 0, 1, 0] (EP T Try.f173 (.int .i64 r)) [(1, .ptr 0 0 0), (3, .d (.int .i64 t3_0)), (4, .d (.int .i64 (k0 : Int)))] [[.cells [.d (.bool a0.v), .d (.str a0.name), .d (.slice 3 (Ty.Ds a0.args))]]]
theorem G_sequentref01_Depth : (∀ p r, sequentref01_Depth' p = some r → ∀ a0, a0 = p → M_sequentref01_Depth a0 r) ∧
    (∀ p r, sequentref01_Depth_l0' p = some r → ∀ rest0 t3_0, (rest0, t3_0) = p → M_sequentref01_Depth_l0 rest0 t3_0 r) := by
  refine sequentref01_Depth'.mutual_partial_correctness (fun (p : Ty) (r : Int) => ∀ (a0 : Ty), a0 = p → M_sequentref01_Depth a0 r) (fun (p : ((List Ty) × Int)) (r : Int) => ∀ (rest0 : (List Ty)) (t3_0 : Int), (rest0, t3_0) = p → M_sequentref01_Depth_l0 rest0 t3_0 r) ?_ ?_
  · intro f_sequentref01_Depth_l0 ih_sequentref01_Depth_l0 p r e a0 hp
    subst hp
    refine pure_of_awp (js := []) T_ok Try.func173 rfl (by decide +kernel) rfl ?_; (conv => whnf)
    refine RunsL.runs (RunsL.weak ((ih_sequentref01_Depth_l0 _ _ e _ _ rfl) a0 0 (by simp)) ?_)
    repeat' first | exact wk.of_eq rfl | exact wk.pure rfl | exact wk.un _ | exact wk.hold _ _ _ | exact wk.holdG _ _ _ | exact rfl | exact trivial | refine ⟨?_, ?_⟩
  · intro f_sequentref01_Depth f_sequentref01_Depth_l0 ih_sequentref01_Depth ih_sequentref01_Depth_l0 p r e rest0 t3_0 hp
    subst hp
    intro a0 k0 hd0
    refine RunsL.len_cell 0 2 rfl rfl rfl fun hlenk0 => ?_
    refine RunsL.of_awp (js := []) T_ok ?_; (conv => whnf)
    have hls := Ty.Ds_len a0.args
    cases rest0 with
    | nil =>
      have hk := drop_nil hd0
      refine ⟨⟨fun h => absurd h (by omega), fun _ => ?_⟩⟩; (conv => whnf)
      obtain ⟨v6, qv6, e⟩ := bnd e
      refine ⟨v6, sm qv6, ?_⟩; (conv => whnf)
      obtain rfl := sm e
      repeat' first | exact rfl | exact trivial | refine ⟨?_, ?_⟩
    | cons v5 rest0 =>
      obtain ⟨hxv5, hd0, hltv5⟩ := drop_head hd0
      refine ⟨⟨fun _ => ?_, fun h => absurd (by omega) h⟩⟩; (conv => whnf)
      refine ⟨k0, _, rfl, Ty.Ds_get hxv5, ?_⟩; (conv => whnf)
      refine ⟨Ty.Ds_fit _ rfl rfl, ?_⟩; (conv => whnf)
      obtain ⟨v6, qv6, e⟩ := bnd e
      refine said_pure (ih_sequentref01_Depth _ _ qv6 _ rfl) rfl ?_; (conv => whnf)
      refine ⟨((k0 + 1 : Nat) : Int), wrap64e (by omega) (by omega) (by omega), ?_⟩; (conv => whnf)
      refine (RunsL.weak ((ih_sequentref01_Depth_l0 _ _ e _ _ rfl) a0 (k0 + 1) hd0) ?_)
      repeat' first | exact wk.of_eq rfl | exact wk.pure rfl | exact wk.un _ | exact wk.hold _ _ _ | exact wk.holdG _ _ _ | exact rfl | exact trivial | refine ⟨?_, ?_⟩
theorem P_sequentref01_Depth {a0 : Ty} {r : Int} (e : sequentref01_Depth a0 = some r) : M_sequentref01_Depth a0 r := G_sequentref01_Depth.1 _ _ e _ rfl
theorem P_sequentref01_Small {a0 : Ty} {r : Bool} (e : sequentref01_Small a0 = some r) : Pure Try.prog 168 [(Ty.D a0)] (.bool r) := by
  unfold sequentref01_Small at e
  refine pure_of_awp (js := []) T_ok Try.func168 rfl (by decide +kernel) rfl ?_; (conv => whnf)
  obtain ⟨v1, qv1, e⟩ := bnd e
  refine said_pure (P_sequentref01_Size qv1) rfl ?_; (conv => whnf)
  refine ⟨⟨fun h2 => ?_, fun h2 => ?_⟩⟩
  · replace e := ifp h2 e; (conv => whnf)
    obtain ⟨v3, qv3, e⟩ := bnd e
    refine said_pure (P_sequentref01_Depth qv3) rfl ?_; (conv => whnf)
    refine test.dec ?_; (conv => whnf)
    obtain rfl := sm e
    repeat' first | exact rfl | exact trivial | refine ⟨?_, ?_⟩
  · replace e := ifn h2 e; (conv => whnf)
    obtain rfl := sm e
    repeat' first | exact rfl | exact trivial | refine ⟨?_, ?_⟩
def M_sequentref01_shape (a0 : Ty) (r : Bool) : Prop := Pure Try.prog 169 [(Ty.D a0)] (.bool r)
def M_sequentref01_shape_j0 (a0 : Ty) (r : Bool) : Prop := JoinAt T Try.prog Try.f169 Fx0 [3] [1, 1, 0, 0] (EP T Try.f169 (.bool r)) [(1, .ptr 0 0 0)] [[.cells [.d (.bool a0.v), .d (.str a0.name), .d (.slice 3 (Ty.Ds a0.args))]]]
def M_sequentref01_shape_l0 (rest0 : (List Ty)) (r : Bool) : Prop := ∀ (a0 : Ty) (k0 : Nat) (hd0 : rest0 = a0.args.drop k0), LoopAt T Try.prog Try.f169 Fx0 [3] [1, 1, 0, 1, 0] (EP T Try.f169 (.bool r)) [(1, .ptr 0 0 0), (3, .d (.int .i64 (k0 : Int)))] [[.cells [.d (.bool a0.v), .d (.str a0.name), .d (.slice 3 (Ty.Ds a0.args))]]]
theorem G_sequentref01_shape : (∀ p r, sequentref01_shape' p = some r → ∀ a0, a0 = p → M_sequentref01_shape a0 r) ∧
    (∀ p r, sequentref01_shape_j0' p = some r → ∀ a0, a0 = p → M_sequentref01_shape_j0 a0 r) ∧
    (∀ p r, sequentref01_shape_l0' p = some r → ∀ rest0, rest0 = p → M_sequentref01_shape_l0 rest0 r) := by
  refine sequentref01_shape'.mutual_partial_correctness (fun (p : Ty) (r : Bool) => ∀ (a0 : Ty), a0 = p → M_sequentref01_shape a0 r) (fun (p : Ty) (r : Bool) => ∀ (a0 : Ty), a0 = p → M_sequentref01_shape_j0 a0 r) (fun (p : (List Ty)) (r : Bool) => ∀ (rest0 : (List Ty)), rest0 = p → M_sequentref01_shape_l0 rest0 r) ?_ ?_ ?_
  · intro f_sequentref01_shape_j0 ih_sequentref01_shape_j0 p r e a0 hp
    subst hp
    refine pure_of_awp (js := [3]) T_ok Try.func169 rfl (by decide +kernel) rfl ?_; (conv => whnf)
    refine draw_rule [] T_ok mixed sequentref01_shape_pl1 (by decide +kernel) ?_; (conv => whnf)
    obtain ⟨v1, qv1, e⟩ := bnd e
    refine said_pure (P_sequentref01_Name qv1) rfl ⟨Keeps.refl _ _, ?_⟩; (conv => whnf)
    refine brK.nsplit (fun hb2 => ?_) (fun hb2 => ?_)
    · replace e := ifpb hb2 e; (conv => whnf)
      refine brK.ntt hb2 ?_; (conv => whnf)
      refine brK.ntt hb2 ?_; (conv => whnf)
      refine brK.ntt hb2 ?_; (conv => whnf)
      refine brK.ntt hb2 ?_; (conv => whnf)
      obtain ⟨v3, qv3, e⟩ := bnd e
      obtain ⟨qv3k, qv3q, qv3a, qv3b, qv3c⟩ := getb_some qv3
      refine ⟨qv3k, qv3q, qv3a, qv3b, ?_⟩; rw [qv3c]; (conv => whnf)
      refine brK.ntt hb2 ?_; (conv => whnf)
      refine test.dec ?_; (conv => whnf)
      refine brK.ntt hb2 ?_; (conv => whnf)
      refine ⟨⟨fun h4 => ?_, fun h4 => ?_⟩⟩
      · replace e := ifp h4 e; (conv => whnf)
        refine brK.ntt hb2 ?_; (conv => whnf)
        obtain rfl := sm e
        repeat' first | exact rfl | exact trivial | refine ⟨?_, ?_⟩
      · replace e := ifn h4 e; (conv => whnf)
        refine brK.ntt hb2 ?_; (conv => whnf)
        refine brK.split (fun hb5 => ?_) (fun hb5 => ?_)
        · replace e := ifpb hb5 e; (conv => whnf)
          refine brK.tt hb5 ?_; (conv => whnf)
          refine brK.tt hb5 ?_; (conv => whnf)
          refine brK.tt hb5 ?_; (conv => whnf)
          refine ⟨⟨fun h6 => ?_, fun h6 => ?_⟩⟩
          · replace e := ifp (by first | exact h6 | omega | simpa [Ty.Ds_all, Ty.D, listAll] using h6) e; (conv => whnf)
            refine brK.tt hb5 ?_; (conv => whnf)
            obtain rfl := sm e
            repeat' first | exact rfl | exact trivial | refine ⟨?_, ?_⟩
          · replace e := ifn (by first | exact h6 | omega | simpa [Ty.Ds_all, Ty.D, listAll] using h6) e; (conv => whnf)
            refine brK.tt hb5 ?_; (conv => whnf)
            refine ⟨⟨fun h7 => ?_, fun h7 => ?_⟩⟩
            · replace e := ifp (by first | exact h7 | omega | simpa [Ty.Ds_all, Ty.D, listAll] using h7) e; (conv => whnf)
              obtain rfl := sm e
              repeat' first | exact rfl | exact trivial | refine ⟨?_, ?_⟩
            · replace e := ifn (by first | exact h7 | omega | simpa [Ty.Ds_all, Ty.D, listAll] using h7) e; (conv => whnf)
              refine Runs.weak (ih_sequentref01_shape_j0 _ _ e _ rfl) ?_
              repeat' first | exact wk.of_eq rfl | exact wk.pure rfl | exact wk.un _ | exact wk.hold _ _ _ | exact wk.holdG _ _ _ | exact rfl | exact trivial | refine ⟨?_, ?_⟩
        · replace e := ifnb hb5 e; (conv => whnf)
          refine brK.ff hb5 ?_; (conv => whnf)
          refine brK.ff hb5 ?_; (conv => whnf)
          refine brK.ff hb5 ?_; (conv => whnf)
          refine brK.ff hb5 ?_; (conv => whnf)
          refine ⟨⟨fun h6 => ?_, fun h6 => ?_⟩⟩
          · replace e := ifp (by first | exact h6 | omega | simpa [Ty.Ds_all, Ty.D, listAll] using h6) e; (conv => whnf)
            obtain rfl := sm e
            repeat' first | exact rfl | exact trivial | refine ⟨?_, ?_⟩
          · replace e := ifn (by first | exact h6 | omega | simpa [Ty.Ds_all, Ty.D, listAll] using h6) e; (conv => whnf)
            refine Runs.weak (ih_sequentref01_shape_j0 _ _ e _ rfl) ?_
            repeat' first | exact wk.of_eq rfl | exact wk.pure rfl | exact wk.un _ | exact wk.hold _ _ _ | exact wk.holdG _ _ _ | exact rfl | exact trivial | refine ⟨?_, ?_⟩
    · replace e := ifnb hb2 e; (conv => whnf)
      refine brK.nff hb2 ?_; (conv => whnf)
      refine brK.nff hb2 ?_; (conv => whnf)
      refine brK.nff hb2 ?_; (conv => whnf)
      refine brK.nff hb2 ?_; (conv => whnf)
      refine brK.nff hb2 ?_; (conv => whnf)
      refine brK.nff hb2 ?_; (conv => whnf)
      refine brK.nff hb2 ?_; (conv => whnf)
      obtain rfl := sm e
      repeat' first | exact rfl | exact trivial | refine ⟨?_, ?_⟩
  · intro f_sequentref01_shape_l0 ih_sequentref01_shape_l0 p r e a0 hp
    subst hp
    refine Runs.enter T_ok ?_; (conv => whnf)
    refine RunsL.runs (RunsL.weak ((ih_sequentref01_shape_l0 _ _ e _ rfl) a0 0 (by simp)) ?_)
    repeat' first | exact wk.of_eq rfl | exact wk.pure rfl | exact wk.un _ | exact wk.hold _ _ _ | exact wk.holdG _ _ _ | exact rfl | exact trivial | refine ⟨?_, ?_⟩
  · intro f_sequentref01_shape f_sequentref01_shape_l0 ih_sequentref01_shape ih_sequentref01_shape_l0 p r e rest0 hp
    subst hp
    intro a0 k0 hd0
    refine RunsL.len_cell 0 2 rfl rfl rfl fun hlenk0 => ?_
    refine RunsL.of_awp (js := [3]) T_ok ?_; (conv => whnf)
    have hls := Ty.Ds_len a0.args
    cases rest0 with
    | nil =>
      have hk := drop_nil hd0
      refine ⟨⟨fun h => absurd h (by omega), fun _ => ?_⟩⟩; (conv => whnf)
      obtain rfl := sm e
      repeat' first | exact rfl | exact trivial | refine ⟨?_, ?_⟩
    | cons v4 rest0 =>
      obtain ⟨hxv4, hd0, hltv4⟩ := drop_head hd0
      refine ⟨⟨fun _ => ?_, fun h => absurd (by omega) h⟩⟩; (conv => whnf)
      refine ⟨k0, _, rfl, Ty.Ds_get hxv4, ?_⟩; (conv => whnf)
      refine ⟨Ty.Ds_fit _ rfl rfl, ?_⟩; (conv => whnf)
      obtain ⟨v5, qv5, e⟩ := bnd e
      refine said_pure (ih_sequentref01_shape _ _ qv5 _ rfl) rfl ?_; (conv => whnf)
      refine brK.nsplit (fun hb6 => ?_) (fun hb6 => ?_)
      · replace e := ifpb hb6 e; (conv => whnf)
        refine ⟨((k0 + 1 : Nat) : Int), wrap64e (by omega) (by omega) (by omega), ?_⟩; (conv => whnf)
        refine (RunsL.weak ((ih_sequentref01_shape_l0 _ _ e _ rfl) a0 (k0 + 1) hd0) ?_)
        repeat' first | exact wk.of_eq rfl | exact wk.pure rfl | exact wk.un _ | exact wk.hold _ _ _ | exact wk.holdG _ _ _ | exact rfl | exact trivial | refine ⟨?_, ?_⟩
      · replace e := ifnb hb6 e; (conv => whnf)
        obtain rfl := sm e
        repeat' first | exact rfl | exact trivial | refine ⟨?_, ?_⟩
theorem P_sequentref01_shape {a0 : Ty} {r : Bool} (e : sequentref01_shape a0 = some r) : M_sequentref01_shape a0 r := G_sequentref01_shape.1 _ _ e _ rfl
theorem P_sequentref01_Valid {a0 : Ty} {r : Bool} (e : sequentref01_Valid a0 = some r) : Pure Try.prog 153 [(Ty.D a0)] (.bool r) := by
  unfold sequentref01_Valid at e
  refine pure_of_awp (js := []) T_ok Try.func153 rfl (by decide +kernel) rfl ?_; (conv => whnf)
  obtain ⟨v1, qv1, e⟩ := bnd e
  refine said_pure (P_sequentref01_Small qv1) rfl ?_; (conv => whnf)
  refine brK.split (fun hb2 => ?_) (fun hb2 => ?_)
  · replace e := ifpb hb2 e; (conv => whnf)
    refine brK.tt hb2 ?_; (conv => whnf)
    obtain ⟨v3, qv3, e⟩ := bnd e
    refine said_pure (P_sequentref01_shape qv3) rfl ?_; (conv => whnf)
    refine brK.tt hb2 ?_; (conv => whnf)
    obtain rfl := sm e
    repeat' first | exact rfl | exact trivial | refine ⟨?_, ?_⟩
  · replace e := ifnb hb2 e; (conv => whnf)
    refine brK.ff hb2 ?_; (conv => whnf)
    refine brK.ff hb2 ?_; (conv => whnf)
    obtain rfl := sm e
    repeat' first | exact rfl | exact trivial | refine ⟨?_, ?_⟩
theorem P_sequentref02_none {a0 : Ty} {r : Bool} (e : sequentref02_none a0 = some r) : Pure Try.prog 154 [(Ty.D a0)] (.bool r) := by
  unfold sequentref02_none at e
  refine pure_of_awp (js := []) T_ok Try.func154 rfl (by decide +kernel) rfl ?_; (conv => whnf)
  refine brK.nsplit (fun hb1 => ?_) (fun hb1 => ?_)
  · replace e := ifpb hb1 e; (conv => whnf)
    refine brK.ntt hb1 ?_; (conv => whnf)
    refine brK.ntt hb1 ?_; (conv => whnf)
    refine brK.ntt hb1 ?_; (conv => whnf)
    obtain rfl := sm e
    repeat' first | exact rfl | exact trivial | refine ⟨?_, ?_⟩
  · replace e := ifnb hb1 e; (conv => whnf)
    refine brK.nff hb1 ?_; (conv => whnf)
    refine brK.nff hb1 ?_; (conv => whnf)
    refine ⟨⟨fun h2 => ?_, fun h2 => ?_⟩⟩
    · replace e := ifp h2 e; (conv => whnf)
      refine brK.nff hb1 ?_; (conv => whnf)
      refine test.dec ?_; (conv => whnf)
      obtain rfl := sm e
      repeat' first | exact rfl | exact trivial | refine ⟨?_, ?_⟩
    · replace e := ifn h2 e; (conv => whnf)
      refine brK.nff hb1 ?_; (conv => whnf)
      obtain rfl := sm e
      repeat' first | exact rfl | exact trivial | refine ⟨?_, ?_⟩
def M_sequentref01_Compare (a0 : Ty) (a1 : Ty) (r : Int) : Prop := Pure Try.prog 111 [(Ty.D a0), (Ty.D a1)] (.int .i64 r)
def M_sequentref01_Compare_l0 (rest0 : (List Ty)) (k0 : Nat) (a1 : Ty) (r : Int) : Prop := ∀ (a0 : Ty) (hd0 : rest0 = a0.args.drop k0), LoopAt T Try.prog Try.f111 Fx0 [] [1, 1, 1, 1, 0, 1, 0] (EP T Try.f111 (.int .i64 r)) [(2, .ptr 0 0 0), (3, .ptr 0 1 0), (5, .d (.int .i64 (k0 : Int)))] [[.cells [.d (.bool a0.v), .d (.str a0.name), .d (.slice 3 (Ty.Ds a0.args))], .cells [.d (.bool a1.v), .d (.str a1.name), .d (.slice 3 (Ty.Ds a1.args))]]]
theorem G_sequentref01_Compare : (∀ p r, sequentref01_Compare' p = some r → ∀ a0 a1, (a0, a1) = p → M_sequentref01_Compare a0 a1 r) ∧
    (∀ p r, sequentref01_Compare_l0' p = some r → ∀ rest0 k0 a1, (rest0, k0, a1) = p → M_sequentref01_Compare_l0 rest0 k0 a1 r) := by
  refine sequentref01_Compare'.mutual_partial_correctness (fun (p : (Ty × Ty)) (r : Int) => ∀ (a0 : Ty) (a1 : Ty), (a0, a1) = p → M_sequentref01_Compare a0 a1 r) (fun (p : ((List Ty) × Nat × Ty)) (r : Int) => ∀ (rest0 : (List Ty)) (k0 : Nat) (a1 : Ty), (rest0, k0, a1) = p → M_sequentref01_Compare_l0 rest0 k0 a1 r) ?_ ?_
  · intro f_sequentref01_Compare_l0 ih_sequentref01_Compare_l0 p r e a0 a1 hp
    subst hp
    refine pure_of_awp (js := []) T_ok Try.func111 rfl (by decide +kernel) rfl ?_; (conv => whnf)
    refine ⟨⟨fun h1 => ?_, fun h1 => ?_⟩⟩
    · replace e := ifp h1 e; (conv => whnf)
      refine brK.split (fun hb2 => ?_) (fun hb2 => ?_)
      · replace e := ifpb hb2 e; (conv => whnf)
        obtain rfl := sm e
        repeat' first | exact rfl | exact trivial | refine ⟨?_, ?_⟩
      · replace e := ifnb hb2 e; (conv => whnf)
        obtain rfl := sm e
        repeat' first | exact rfl | exact trivial | refine ⟨?_, ?_⟩
    · replace e := ifn h1 e; (conv => whnf)
      refine ⟨⟨fun h2 => ?_, fun h2 => ?_⟩⟩
      · replace e := ifp h2 e; (conv => whnf)
        refine ⟨⟨fun h3 => ?_, fun h3 => ?_⟩⟩
        · replace e := ifp h3 e; (conv => whnf)
          obtain rfl := sm e
          repeat' first | exact rfl | exact trivial | refine ⟨?_, ?_⟩
        · replace e := ifn h3 e; (conv => whnf)
          obtain rfl := sm e
          repeat' first | exact rfl | exact trivial | refine ⟨?_, ?_⟩
      · replace e := ifn h2 e; (conv => whnf)
        refine ⟨⟨fun h3 => ?_, fun h3 => ?_⟩⟩
        · replace e := ifp (by first | exact h3 | omega | simpa [Ty.Ds_all, Ty.D, listAll] using h3) e; (conv => whnf)
          refine ⟨⟨fun h4 => ?_, fun h4 => ?_⟩⟩
          · replace e := ifp (by first | exact h4 | omega | simpa [Ty.Ds_all, Ty.D, listAll] using h4) e; (conv => whnf)
            obtain rfl := sm e
            repeat' first | exact rfl | exact trivial | refine ⟨?_, ?_⟩
          · replace e := ifn (by first | exact h4 | omega | simpa [Ty.Ds_all, Ty.D, listAll] using h4) e; (conv => whnf)
            obtain rfl := sm e
            repeat' first | exact rfl | exact trivial | refine ⟨?_, ?_⟩
        · replace e := ifn (by first | exact h3 | omega | simpa [Ty.Ds_all, Ty.D, listAll] using h3) e; (conv => whnf)
          refine RunsL.runs (RunsL.weak ((ih_sequentref01_Compare_l0 _ _ e _ _ _ rfl) a0 (by simp)) ?_)
          repeat' first | exact wk.of_eq rfl | exact wk.pure rfl | exact wk.un _ | exact wk.hold _ _ _ | exact wk.holdG _ _ _ | exact rfl | exact trivial | refine ⟨?_, ?_⟩
  · intro f_sequentref01_Compare f_sequentref01_Compare_l0 ih_sequentref01_Compare ih_sequentref01_Compare_l0 p r e rest0 k0 a1 hp
    subst hp
    intro a0 hd0
    refine RunsL.len_cell 0 2 rfl rfl rfl fun hlenk0 => ?_
    refine RunsL.of_awp (js := []) T_ok ?_; (conv => whnf)
    have hls := Ty.Ds_len a0.args
    cases rest0 with
    | nil =>
      have hk := drop_nil hd0
      refine ⟨⟨fun h => absurd h (by omega), fun _ => ?_⟩⟩; (conv => whnf)
      obtain rfl := sm e
      repeat' first | exact rfl | exact trivial | refine ⟨?_, ?_⟩
    | cons v6 rest0 =>
      obtain ⟨hxv6, hd0, hltv6⟩ := drop_head hd0
      refine ⟨⟨fun _ => ?_, fun h => absurd (by omega) h⟩⟩; (conv => whnf)
      refine draw_rule [] T_ok mixed sequentref01_Compare_pl16 (by decide +kernel) ?_; (conv => whnf)
      refine ⟨k0, _, rfl, Ty.Ds_get hxv6, ?_⟩; (conv => whnf)
      refine ⟨Ty.Ds_fit _ rfl rfl, ?_⟩; (conv => whnf)
      obtain ⟨v7, qv7, e⟩ := bnd e
      obtain ⟨qv7k, qv7a, qv7b⟩ := geti_some qv7
      refine ⟨qv7k, _, qv7a, Ty.Ds_get qv7b, ?_⟩; (conv => whnf)
      refine ⟨Ty.Ds_fit _ rfl rfl, ?_⟩; (conv => whnf)
      obtain ⟨v8, qv8, e⟩ := bnd e
      refine said_pure (ih_sequentref01_Compare _ _ qv8 _ _ rfl) rfl ⟨Keeps.refl _ _, ?_⟩; (conv => whnf)
      refine ⟨⟨fun h9 => ?_, fun h9 => ?_⟩⟩
      · replace e := ifp h9 e; (conv => whnf)
        obtain rfl := sm e
        repeat' first | exact rfl | exact trivial | refine ⟨?_, ?_⟩
      · replace e := ifn h9 e; (conv => whnf)
        refine ⟨((k0 + 1 : Nat) : Int), wrap64e (by omega) (by omega) (by omega), ?_⟩; (conv => whnf)
        refine (RunsL.weak ((ih_sequentref01_Compare_l0 _ _ e _ _ _ rfl) a0 hd0) ?_)
        repeat' first | exact wk.of_eq rfl | exact wk.pure rfl | exact wk.un _ | exact wk.hold _ _ _ | exact wk.holdG _ _ _ | exact rfl | exact trivial | refine ⟨?_, ?_⟩
theorem P_sequentref01_Compare {a0 : Ty} {a1 : Ty} {r : Int} (e : sequentref01_Compare a0 a1 = some r) : M_sequentref01_Compare a0 a1 r := G_sequentref01_Compare.1 _ _ e _ _ rfl
theorem P_sequentref01_Same {a0 : Ty} {a1 : Ty} {r : Bool} (e : sequentref01_Same a0 a1 = some r) : Pure Try.prog 118 [(Ty.D a0), (Ty.D a1)] (.bool r) := by
  unfold sequentref01_Same at e
  refine pure_of_awp (js := []) T_ok Try.func118 rfl (by decide +kernel) rfl ?_; (conv => whnf)
  obtain ⟨v1, qv1, e⟩ := bnd e
  refine said_pure (P_sequentref01_Compare qv1) rfl ?_; (conv => whnf)
  refine test.dec ?_; (conv => whnf)
  obtain rfl := sm e
  repeat' first | exact rfl | exact trivial | refine ⟨?_, ?_⟩
theorem P_sequentref01_Fun {a0 : Ty} {a1 : Ty} {r : Ty} (e : sequentref01_Fun a0 a1 = some r) : Pure Try.prog 121 [(Ty.D a0), (Ty.D a1)] (Ty.D r) := by
  unfold sequentref01_Fun at e
  refine pure_of_awp (js := []) T_ok Try.func121 rfl (by decide +kernel) rfl ?_; (conv => whnf)
  refine draw_rule [] T_ok mixed sequentref01_Fun_pl1 (by decide +kernel) ?_; (conv => whnf)
  obtain ⟨v1, qv1, e⟩ := bnd e
  refine said_pure (P_sequentref01_Twin qv1) rfl ⟨Keeps.refl _ _, ?_⟩; (conv => whnf)
  obtain ⟨v2, qv2, e⟩ := bnd e
  refine said_pure (P_sequentref01_Twin qv2) rfl ⟨Keeps.refl _ _, ?_⟩; (conv => whnf)
  refine ⟨⟨⟨rfl, rfl⟩, ⟨⟨rfl, rfl⟩, trivial⟩⟩, ?_⟩; (conv => whnf)
  obtain rfl := sm e
  repeat' first | exact rfl | exact trivial | exact ⟨_, rfl, (by first | exact rfl | (simp [Ty.Ds_all, Ty.D, listAll] <;> (repeat' first | rfl | apply And.intro))), (by first | exact rfl | (simp [Ty.Ds_all, Ty.D, listAll] <;> (repeat' first | rfl | apply And.intro)))⟩ | refine ⟨?_, ?_⟩ | (simp [Ty.Ds_all, Ty.D, listAll] <;> (repeat' first | rfl | apply And.intro))
theorem P_sequentref02_Formed_j0 {a0 : Tm} {v14 : (Ty × Bool)} {r : (Ty × Bool)} (e : sequentref02_Formed_j0 a0 v14 = some r) : (∀ (v13 : (List Ty)), JoinAt T Try.prog Try.f137 Fx0 [21] [1, 0, 1, 0, 1, 1, 1, 1, 1, 1, 1, 0, 1, 1, 0] (EP T Try.f137 (.tuple [(Ty.D r.1), (.bool r.2)])) [(2, .ptr 0 0 0), (4, .ptr 0 1 0), (10, .ptr 0 3 0), (11, .d (.bool v14.2))] [[.cells [.d (.int .u8 a0.kind), .d (.str a0.name), .d (.bool a0.ty.v), .d (.str a0.ty.name), .d (.slice 3 (Ty.Ds a0.ty.args)), .d (.int .i64 a0.index), .d (.slice 7 (Tm.Ds a0.sub))], .cells [.d (.bool false), .d (.str ByteArray.empty), .nil 3], .grow 3 (Ty.Ds v13).length, .cells [.d (.bool v14.1.v), .d (.str v14.1.name), .d (.slice 3 (Ty.Ds v14.1.args))]]]) ∧ (JoinAt T Try.prog Try.f137 Fx0 [21] [1, 0, 1, 0, 1, 1, 1, 1, 1, 1, 1, 0, 1, 1, 0] (EP T Try.f137 (.tuple [(Ty.D r.1), (.bool r.2)])) [(2, .ptr 0 0 0), (4, .ptr 0 1 0), (10, .ptr 0 2 0), (11, .d (.bool v14.2))] [[.cells [.d (.int .u8 a0.kind), .d (.str a0.name), .d (.bool a0.ty.v), .d (.str a0.ty.name), .d (.slice 3 (Ty.Ds a0.ty.args)), .d (.int .i64 a0.index), .d (.slice 7 (Tm.Ds a0.sub))], .cells [.d (.bool false), .d (.str ByteArray.empty), .nil 3], .cells [.d (.bool v14.1.v), .d (.str v14.1.name), .d (.slice 3 (Ty.Ds v14.1.args))]]]) := by
  unfold sequentref02_Formed_j0 at e
  refine ⟨?_, ?_⟩
  · intro v13
    refine Runs.enter T_ok ?_; (conv => whnf)
    obtain ⟨v15, qv15, e⟩ := bnd e
    refine said_pure (P_sequentref01_Fun qv15) rfl ?_; (conv => whnf)
    refine draw_rule [] T_ok mixed sequentref02_Formed_pl22 (by decide +kernel) ?_; (conv => whnf)
    refine brK.split (fun hb16 => ?_) (fun hb16 => ?_)
    · replace e := ifpb hb16 e; (conv => whnf)
      refine brK.tt hb16 ?_; (conv => whnf)
      obtain ⟨v17, qv17, e⟩ := bnd e
      refine said_pure (P_sequentref01_Valid qv17) rfl ⟨Keeps.refl _ _, ?_⟩; (conv => whnf)
      refine brK.tt hb16 ?_; (conv => whnf)
      obtain rfl := sm e
      repeat' first | exact rfl | exact trivial | refine ⟨?_, ?_⟩
    · replace e := ifnb hb16 e; (conv => whnf)
      refine brK.ff hb16 ?_; (conv => whnf)
      refine brK.ff hb16 ?_; (conv => whnf)
      obtain rfl := sm e
      repeat' first | exact rfl | exact trivial | refine ⟨?_, ?_⟩
  · refine Runs.enter T_ok ?_; (conv => whnf)
    obtain ⟨v15, qv15, e⟩ := bnd e
    refine said_pure (P_sequentref01_Fun qv15) rfl ?_; (conv => whnf)
    refine draw_rule [] T_ok mixed sequentref02_Formed_pl22 (by decide +kernel) ?_; (conv => whnf)
    refine brK.split (fun hb16 => ?_) (fun hb16 => ?_)
    · replace e := ifpb hb16 e; (conv => whnf)
      refine brK.tt hb16 ?_; (conv => whnf)
      obtain ⟨v17, qv17, e⟩ := bnd e
      refine said_pure (P_sequentref01_Valid qv17) rfl ⟨Keeps.refl _ _, ?_⟩; (conv => whnf)
      refine brK.tt hb16 ?_; (conv => whnf)
      obtain rfl := sm e
      repeat' first | exact rfl | exact trivial | refine ⟨?_, ?_⟩
    · replace e := ifnb hb16 e; (conv => whnf)
      refine brK.ff hb16 ?_; (conv => whnf)
      refine brK.ff hb16 ?_; (conv => whnf)
      obtain rfl := sm e
      repeat' first | exact rfl | exact trivial | refine ⟨?_, ?_⟩
def M_sequentref02_Formed (a0 : Tm) (a1 : (List Ty)) (r : (Ty × Bool)) : Prop := Pure Try.prog 137 [(Tm.D a0), (.slice 3 (Ty.Ds a1))] (.tuple [(Ty.D r.1), (.bool r.2)])
theorem G_sequentref02_Formed : (∀ p r, sequentref02_Formed' p = some r → ∀ a0 a1, (a0, a1) = p → M_sequentref02_Formed a0 a1 r) := by
  refine sequentref02_Formed'.partial_correctness (fun (p : (Tm × (List Ty))) (r : (Ty × Bool)) => ∀ (a0 : Tm) (a1 : (List Ty)), (a0, a1) = p → M_sequentref02_Formed a0 a1 r) ?_
  · intro f_sequentref02_Formed ih_sequentref02_Formed p r e a0 a1 hp
    subst hp
    refine pure_of_awp (js := [21]) T_ok Try.func137 rfl (by decide +kernel) rfl ?_; (conv => whnf)
    refine ⟨⟨fun h1 => ?_, fun h1 => ?_⟩⟩
    · replace e := ifp h1 e; (conv => whnf)
      refine draw_rule [] T_ok mixed sequentref02_Formed_pl4 (by decide +kernel) ?_; (conv => whnf)
      obtain ⟨v2, qv2, e⟩ := bnd e
      refine said_pure (P_sequentref02_Name qv2) rfl ⟨Keeps.refl _ _, ?_⟩; (conv => whnf)
      refine brK.split (fun hb3 => ?_) (fun hb3 => ?_)
      · replace e := ifpb hb3 e; (conv => whnf)
        refine brK.tt hb3 ?_; (conv => whnf)
        refine brK.tt hb3 ?_; (conv => whnf)
        obtain ⟨v4, qv4, e⟩ := bnd e
        refine said_pure (P_sequentref01_Valid qv4) rfl ⟨Keeps.refl _ _, ?_⟩; (conv => whnf)
        refine brK.tt hb3 ?_; (conv => whnf)
        refine brK.split (fun hb5 => ?_) (fun hb5 => ?_)
        · replace e := ifpb hb5 e; (conv => whnf)
          refine brK.tt hb5 ?_; (conv => whnf)
          refine brK.tt hb5 ?_; (conv => whnf)
          refine ⟨⟨fun h6 => ?_, fun h6 => ?_⟩⟩
          · replace e := ifp h6 e; (conv => whnf)
            refine brK.tt hb5 ?_; (conv => whnf)
            refine test.dec ?_; (conv => whnf)
            obtain rfl := sm e
            repeat' first | exact rfl | exact trivial | refine ⟨?_, ?_⟩
          · replace e := ifn h6 e; (conv => whnf)
            refine brK.tt hb5 ?_; (conv => whnf)
            obtain rfl := sm e
            repeat' first | exact rfl | exact trivial | refine ⟨?_, ?_⟩
        · replace e := ifnb hb5 e; (conv => whnf)
          refine brK.ff hb5 ?_; (conv => whnf)
          refine brK.ff hb5 ?_; (conv => whnf)
          refine brK.ff hb5 ?_; (conv => whnf)
          obtain rfl := sm e
          repeat' first | exact rfl | exact trivial | refine ⟨?_, ?_⟩
      · replace e := ifnb hb3 e; (conv => whnf)
        refine brK.ff hb3 ?_; (conv => whnf)
        refine brK.ff hb3 ?_; (conv => whnf)
        refine brK.ff hb3 ?_; (conv => whnf)
        obtain rfl := sm e
        repeat' first | exact rfl | exact trivial | refine ⟨?_, ?_⟩
    · replace e := ifn h1 e; (conv => whnf)
      refine ⟨⟨fun h2 => ?_, fun h2 => ?_⟩⟩
      · replace e := ifp h2 e; (conv => whnf)
        refine draw_rule [] T_ok mixed sequentref02_Formed_pl4 (by decide +kernel) ?_; (conv => whnf)
        obtain ⟨v3, qv3, e⟩ := bnd e
        refine said_pure (P_sequentref02_Name qv3) rfl ⟨Keeps.refl _ _, ?_⟩; (conv => whnf)
        refine brK.split (fun hb4 => ?_) (fun hb4 => ?_)
        · replace e := ifpb hb4 e; (conv => whnf)
          refine brK.tt hb4 ?_; (conv => whnf)
          refine brK.tt hb4 ?_; (conv => whnf)
          obtain ⟨v5, qv5, e⟩ := bnd e
          refine said_pure (P_sequentref01_Valid qv5) rfl ⟨Keeps.refl _ _, ?_⟩; (conv => whnf)
          refine brK.tt hb4 ?_; (conv => whnf)
          refine brK.split (fun hb6 => ?_) (fun hb6 => ?_)
          · replace e := ifpb hb6 e; (conv => whnf)
            refine brK.tt hb6 ?_; (conv => whnf)
            refine brK.tt hb6 ?_; (conv => whnf)
            refine ⟨⟨fun h7 => ?_, fun h7 => ?_⟩⟩
            · replace e := ifp h7 e; (conv => whnf)
              refine brK.tt hb6 ?_; (conv => whnf)
              refine test.dec ?_; (conv => whnf)
              obtain rfl := sm e
              repeat' first | exact rfl | exact trivial | refine ⟨?_, ?_⟩
            · replace e := ifn h7 e; (conv => whnf)
              refine brK.tt hb6 ?_; (conv => whnf)
              obtain rfl := sm e
              repeat' first | exact rfl | exact trivial | refine ⟨?_, ?_⟩
          · replace e := ifnb hb6 e; (conv => whnf)
            refine brK.ff hb6 ?_; (conv => whnf)
            refine brK.ff hb6 ?_; (conv => whnf)
            refine brK.ff hb6 ?_; (conv => whnf)
            obtain rfl := sm e
            repeat' first | exact rfl | exact trivial | refine ⟨?_, ?_⟩
        · replace e := ifnb hb4 e; (conv => whnf)
          refine brK.ff hb4 ?_; (conv => whnf)
          refine brK.ff hb4 ?_; (conv => whnf)
          refine brK.ff hb4 ?_; (conv => whnf)
          obtain rfl := sm e
          repeat' first | exact rfl | exact trivial | refine ⟨?_, ?_⟩
      · replace e := ifn h2 e; (conv => whnf)
        refine ⟨⟨fun h3 => ?_, fun h3 => ?_⟩⟩
        · replace e := ifp h3 e; (conv => whnf)
          refine ⟨⟨fun h4 => ?_, fun h4 => ?_⟩⟩
          · replace e := ifp h4 e; (conv => whnf)
            obtain rfl := sm e
            repeat' first | exact rfl | exact trivial | refine ⟨?_, ?_⟩
          · replace e := ifn h4 e; (conv => whnf)
            obtain ⟨v5, qv5, e⟩ := bnd e
            refine said_pure (P_sequentref02_none qv5) rfl ?_; (conv => whnf)
            refine brK.nsplit (fun hb6 => ?_) (fun hb6 => ?_)
            · replace e := ifpb hb6 e; (conv => whnf)
              refine brK.ntt hb6 ?_; (conv => whnf)
              refine brK.ntt hb6 ?_; (conv => whnf)
              refine brK.ntt hb6 ?_; (conv => whnf)
              refine ⟨⟨fun h7 => ?_, fun h7 => ?_⟩⟩
              · replace e := ifp (by first | exact h7 | omega | simpa [Tm.Ds_all, Ty.Ds_all, Tm.D, Ty.D, listAll] using h7) e; (conv => whnf)
                refine brK.ntt hb6 ?_; (conv => whnf)
                obtain rfl := sm e
                repeat' first | exact rfl | exact trivial | refine ⟨?_, ?_⟩
              · replace e := ifn (by first | exact h7 | omega | simpa [Tm.Ds_all, Ty.Ds_all, Tm.D, Ty.D, listAll] using h7) e; (conv => whnf)
                refine brK.ntt hb6 ?_; (conv => whnf)
                refine ⟨⟨fun h8 => ?_, fun h8 => ?_⟩⟩
                · replace e := ifp h8 e; (conv => whnf)
                  obtain rfl := sm e
                  repeat' first | exact rfl | exact trivial | refine ⟨?_, ?_⟩
                · replace e := ifn h8 e; (conv => whnf)
                  refine ⟨⟨fun h9 => ?_, fun h9 => ?_⟩⟩
                  · replace e := ifp (by first | exact h9 | omega | simpa [Tm.Ds_all, Ty.Ds_all, Tm.D, Ty.D, listAll] using h9) e; (conv => whnf)
                    obtain rfl := sm e
                    repeat' first | exact rfl | exact trivial | refine ⟨?_, ?_⟩
                  · replace e := ifn (by first | exact h9 | omega | simpa [Tm.Ds_all, Ty.Ds_all, Tm.D, Ty.D, listAll] using h9) e; (conv => whnf)
                    obtain ⟨v10, qv10, e⟩ := bnd e
                    obtain ⟨qv10k, qv10a, qv10b⟩ := geti_some qv10
                    refine ⟨qv10k, _, qv10a, Ty.Ds_get qv10b, ?_⟩; (conv => whnf)
                    refine ⟨Ty.Ds_fit _ rfl rfl, ?_⟩; (conv => whnf)
                    obtain rfl := sm e
                    repeat' first | exact rfl | exact trivial | refine ⟨?_, ?_⟩
            · replace e := ifnb hb6 e; (conv => whnf)
              refine brK.nff hb6 ?_; (conv => whnf)
              refine brK.nff hb6 ?_; (conv => whnf)
              refine brK.nff hb6 ?_; (conv => whnf)
              refine brK.nff hb6 ?_; (conv => whnf)
              obtain rfl := sm e
              repeat' first | exact rfl | exact trivial | refine ⟨?_, ?_⟩
        · replace e := ifn h3 e; (conv => whnf)
          refine ⟨⟨fun h4 => ?_, fun h4 => ?_⟩⟩
          · replace e := ifp h4 e; (conv => whnf)
            refine ⟨⟨fun h5 => ?_, fun h5 => ?_⟩⟩
            · replace e := ifp h5 e; (conv => whnf)
              obtain rfl := sm e
              repeat' first | exact rfl | exact trivial | refine ⟨?_, ?_⟩
            · replace e := ifn h5 e; (conv => whnf)
              obtain ⟨v6, qv6, e⟩ := bnd e
              refine said_pure (P_sequentref02_none qv6) rfl ?_; (conv => whnf)
              refine brK.nsplit (fun hb7 => ?_) (fun hb7 => ?_)
              · replace e := ifpb hb7 e; (conv => whnf)
                refine brK.ntt hb7 ?_; (conv => whnf)
                refine brK.ntt hb7 ?_; (conv => whnf)
                refine ⟨⟨fun h8 => ?_, fun h8 => ?_⟩⟩
                · replace e := ifp h8 e; (conv => whnf)
                  refine brK.ntt hb7 ?_; (conv => whnf)
                  obtain rfl := sm e
                  repeat' first | exact rfl | exact trivial | refine ⟨?_, ?_⟩
                · replace e := ifn h8 e; (conv => whnf)
                  refine brK.ntt hb7 ?_; (conv => whnf)
                  refine ⟨⟨fun h9 => ?_, fun h9 => ?_⟩⟩
                  · replace e := ifp (by first | exact h9 | omega | simpa [Tm.Ds_all, Ty.Ds_all, Tm.D, Ty.D, listAll] using h9) e; (conv => whnf)
                    obtain rfl := sm e
                    repeat' first | exact rfl | exact trivial | refine ⟨?_, ?_⟩
                  · replace e := ifn (by first | exact h9 | omega | simpa [Tm.Ds_all, Ty.Ds_all, Tm.D, Ty.D, listAll] using h9) e; (conv => whnf)
                    obtain ⟨v10, qv10, e⟩ := bnd e
                    obtain ⟨qv10k, qv10a, qv10b⟩ := geti_some qv10
                    refine ⟨qv10k, _, qv10a, Tm.Ds_get qv10b, ?_⟩; (conv => whnf)
                    refine ⟨Tm.Ds_fit _ rfl rfl, ?_⟩; (conv => whnf)
                    obtain ⟨v11, qv11, e⟩ := bnd e
                    refine said_pure (ih_sequentref02_Formed _ _ qv11 _ _ rfl) rfl ?_; (conv => whnf)
                    obtain ⟨v12, qv12, e⟩ := bnd e
                    obtain ⟨qv12k, qv12a, qv12b⟩ := geti_some qv12
                    refine ⟨qv12k, _, qv12a, Tm.Ds_get qv12b, ?_⟩; (conv => whnf)
                    refine ⟨Tm.Ds_fit _ rfl rfl, ?_⟩; (conv => whnf)
                    obtain ⟨v13, qv13, e⟩ := bnd e
                    refine said_pure (ih_sequentref02_Formed _ _ qv13 _ _ rfl) rfl ?_; (conv => whnf)
                    refine draw_rule [] T_ok mixed sequentref02_Formed_pl14 (by decide +kernel) ?_; (conv => whnf)
                    refine brK.nsplit (fun hb14 => ?_) (fun hb14 => ?_)
                    · replace e := ifpb hb14 e; (conv => whnf)
                      refine brK.ntt hb14 ?_; (conv => whnf)
                      refine brK.ntt hb14 ?_; (conv => whnf)
                      refine brK.nsplit (fun hb15 => ?_) (fun hb15 => ?_)
                      · replace e := ifpb hb15 e; (conv => whnf)
                        refine brK.ntt hb15 ?_; (conv => whnf)
                        refine brK.ntt hb15 ?_; (conv => whnf)
                        refine brK.split (fun hb16 => ?_) (fun hb16 => ?_)
                        · replace e := ifpb hb16 e; (conv => whnf)
                          refine brK.tt hb16 ?_; (conv => whnf)
                          refine brK.tt hb16 ?_; (conv => whnf)
                          refine brK.tt hb16 ?_; (conv => whnf)
                          obtain rfl := sm e
                          repeat' first | exact rfl | exact trivial | refine ⟨?_, ?_⟩
                        · replace e := ifnb hb16 e; (conv => whnf)
                          refine brK.ff hb16 ?_; (conv => whnf)
                          refine brK.ff hb16 ?_; (conv => whnf)
                          refine ⟨⟨fun h17 => ?_, fun h17 => ?_⟩⟩
                          · replace e := ifp h17 e; (conv => whnf)
                            refine brK.ff hb16 ?_; (conv => whnf)
                            obtain rfl := sm e
                            repeat' first | exact rfl | exact trivial | refine ⟨?_, ?_⟩
                          · replace e := ifn h17 e; (conv => whnf)
                            refine brK.ff hb16 ?_; (conv => whnf)
                            refine ⟨⟨fun h18 => ?_, fun h18 => ?_⟩⟩
                            · replace e := ifp (by first | exact h18 | omega | simpa [Tm.Ds_all, Ty.Ds_all, Tm.D, Ty.D, listAll] using h18) e; (conv => whnf)
                              obtain rfl := sm e
                              repeat' first | exact rfl | exact trivial | refine ⟨?_, ?_⟩
                            · replace e := ifn (by first | exact h18 | omega | simpa [Tm.Ds_all, Ty.Ds_all, Tm.D, Ty.D, listAll] using h18) e; (conv => whnf)
                              obtain ⟨v19, qv19, e⟩ := bnd e
                              obtain ⟨qv19k, qv19a, qv19b⟩ := geti_some qv19
                              refine ⟨qv19k, _, qv19a, Ty.Ds_get qv19b, ?_⟩; (conv => whnf)
                              refine ⟨Ty.Ds_fit _ rfl rfl, ?_⟩; (conv => whnf)
                              obtain ⟨v20, qv20, e⟩ := bnd e
                              refine said_pure (P_sequentref01_Same qv20) rfl ⟨Keeps.refl _ _, ?_⟩; (conv => whnf)
                              refine brK.nsplit (fun hb21 => ?_) (fun hb21 => ?_)
                              · replace e := ifpb hb21 e; (conv => whnf)
                                obtain ⟨v22, qv22, e⟩ := bnd e
                                obtain ⟨qv22k, qv22a, qv22b⟩ := geti_some qv22
                                refine ⟨qv22k, _, qv22a, Ty.Ds_get qv22b, ?_⟩; (conv => whnf)
                                refine ⟨Ty.Ds_fit _ rfl rfl, ?_⟩; (conv => whnf)
                                obtain rfl := sm e
                                repeat' first | exact rfl | exact trivial | refine ⟨?_, ?_⟩
                              · replace e := ifnb hb21 e; (conv => whnf)
                                obtain rfl := sm e
                                repeat' first | exact rfl | exact trivial | refine ⟨?_, ?_⟩
                      · replace e := ifnb hb15 e; (conv => whnf)
                        refine brK.nff hb15 ?_; (conv => whnf)
                        refine brK.nff hb15 ?_; (conv => whnf)
                        obtain rfl := sm e
                        repeat' first | exact rfl | exact trivial | refine ⟨?_, ?_⟩
                    · replace e := ifnb hb14 e; (conv => whnf)
                      refine brK.nff hb14 ?_; (conv => whnf)
                      refine brK.nff hb14 ?_; (conv => whnf)
                      obtain rfl := sm e
                      repeat' first | exact rfl | exact trivial | refine ⟨?_, ?_⟩
              · replace e := ifnb hb7 e; (conv => whnf)
                refine brK.nff hb7 ?_; (conv => whnf)
                refine brK.nff hb7 ?_; (conv => whnf)
                refine brK.nff hb7 ?_; (conv => whnf)
                obtain rfl := sm e
                repeat' first | exact rfl | exact trivial | refine ⟨?_, ?_⟩
          · replace e := ifn h4 e; (conv => whnf)
            refine ⟨⟨fun h5 => ?_, fun h5 => ?_⟩⟩
            · replace e := ifp h5 e; (conv => whnf)
              obtain ⟨v6, qv6, e⟩ := bnd e
              refine said_pure (P_sequentref02_Name qv6) rfl ?_; (conv => whnf)
              refine brK.nsplit (fun hb7 => ?_) (fun hb7 => ?_)
              · replace e := ifpb hb7 e; (conv => whnf)
                refine brK.ntt hb7 ?_; (conv => whnf)
                refine brK.ntt hb7 ?_; (conv => whnf)
                obtain ⟨v8, qv8, e⟩ := bnd e
                refine said_pure (P_sequentref01_Valid qv8) rfl ?_; (conv => whnf)
                refine brK.ntt hb7 ?_; (conv => whnf)
                refine brK.ntt hb7 ?_; (conv => whnf)
                refine brK.nsplit (fun hb9 => ?_) (fun hb9 => ?_)
                · replace e := ifpb hb9 e; (conv => whnf)
                  refine brK.ntt hb9 ?_; (conv => whnf)
                  refine brK.ntt hb9 ?_; (conv => whnf)
                  refine ⟨⟨fun h10 => ?_, fun h10 => ?_⟩⟩
                  · replace e := ifp h10 e; (conv => whnf)
                    refine brK.ntt hb9 ?_; (conv => whnf)
                    obtain rfl := sm e
                    repeat' first | exact rfl | exact trivial | refine ⟨?_, ?_⟩
                  · replace e := ifn h10 e; (conv => whnf)
                    refine brK.ntt hb9 ?_; (conv => whnf)
                    refine ⟨⟨fun h11 => ?_, fun h11 => ?_⟩⟩
                    · replace e := ifp (by first | exact h11 | omega | simpa [Tm.Ds_all, Ty.Ds_all, Tm.D, Ty.D, listAll] using h11) e; (conv => whnf)
                      obtain rfl := sm e
                      repeat' first | exact rfl | exact trivial | refine ⟨?_, ?_⟩
                    · replace e := ifn (by first | exact h11 | omega | simpa [Tm.Ds_all, Ty.Ds_all, Tm.D, Ty.D, listAll] using h11) e; (conv => whnf)
                      refine draw_rule [] T_ok mixed sequentref02_Formed_pl20 (by decide +kernel) ?_; (conv => whnf)
                      obtain ⟨v12, qv12, e⟩ := bnd e
                      obtain ⟨qv12k, qv12a, qv12b⟩ := geti_some qv12
                      refine ⟨qv12k, _, qv12a, Tm.Ds_get qv12b, ?_⟩; (conv => whnf)
                      refine ⟨Tm.Ds_fit _ rfl rfl, ?_⟩; (conv => whnf)
                      refine ⟨⟨⟨rfl, rfl⟩, trivial⟩, ?_⟩; (conv => whnf)
                      obtain ⟨v13, qv13, e⟩ := bnd e
                      obtain ⟨v14, qv14, e⟩ := bnd e
                      refine ⟨?_, ?_⟩
                      · (conv => whnf)
                        obtain ⟨qv13l, qv13e⟩ := app_some qv13
                        refine ⟨(by first | exact qv13l | simpa [Tm.Ds_all, Ty.Ds_all, Tm.D, Ty.D, listAll] using qv13l), rfl, fun hz => ?_, fun hz => ?_⟩
                        · have hyv13 : a1 = [] := by simpa [Ty.Ds_map, List.map_eq_nil_iff, Tm.Ds_all, Ty.Ds_all, Tm.D, Ty.D, listAll] using hz
                          have hzv13 : v13 = [a0.ty] := by rw [qv13e, hyv13]; simp
                          (conv => whnf)
                          refine ⟨?_, ?_⟩
                          · (conv => whnf)
                            first | (refine said_pure (ih_sequentref02_Formed _ _ qv14 _ _ rfl) rfl ⟨Keeps.refl _ _, ?_⟩) | (refine said_pure2 (ih_sequentref02_Formed _ _ qv14 _ _ rfl) rfl (by simp [Tm.Ds_all, Ty.Ds_all, Tm.D, Ty.D, listAll, hzv13] <;> (repeat' first | rfl | apply And.intro)) ⟨Keeps.refl _ _, ?_⟩)
                            (conv => whnf)
                            refine Runs.weak (P_sequentref02_Formed_j0 e).2 ?_
                            repeat' first | exact wk.of_eq rfl | exact wk.pure rfl | exact wk.un _ | exact wk.hold _ _ _ | exact wk.holdG _ _ _ | exact rfl | exact trivial | refine ⟨?_, ?_⟩
                          · (conv => whnf)
                            first | (refine said_pure (ih_sequentref02_Formed _ _ qv14 _ _ rfl) rfl ⟨Keeps.refl _ _, ?_⟩) | (refine said_pure2 (ih_sequentref02_Formed _ _ qv14 _ _ rfl) rfl (by simp [Tm.Ds_all, Ty.Ds_all, Tm.D, Ty.D, listAll, hzv13] <;> (repeat' first | rfl | apply And.intro)) ⟨Keeps.refl _ _, ?_⟩)
                            (conv => whnf)
                            refine Runs.weak (P_sequentref02_Formed_j0 e).2 ?_
                            repeat' first | exact wk.of_eq rfl | exact wk.pure rfl | exact wk.un _ | exact wk.hold _ _ _ | exact wk.holdG _ _ _ | exact rfl | exact trivial | refine ⟨?_, ?_⟩
                        · (conv => whnf)
                          refine ⟨?_, ?_⟩
                          · (conv => whnf)
                            first | (refine said_pure (ih_sequentref02_Formed _ _ qv14 _ _ rfl) rfl ⟨Keeps.refl _ _, ?_⟩) | (refine said_pure2 (ih_sequentref02_Formed _ _ qv14 _ _ rfl) rfl (by simp [Tm.Ds_all, Ty.Ds_all, Tm.D, Ty.D, listAll, qv13e] <;> (repeat' first | rfl | apply And.intro)) ⟨Keeps.refl _ _, ?_⟩)
                            (conv => whnf)
                            refine Runs.weak ((P_sequentref02_Formed_j0 e).1 v13) ?_
                            repeat' first | exact wk.of_eq rfl | exact wk.pure rfl | exact wk.un _ | exact wk.hold _ _ _ | exact wk.holdG _ _ _ | exact rfl | exact trivial | refine ⟨?_, ?_⟩ | (refine wk.of_eq ?_; (conv => lhs; whnf); (simp [Tm.Ds_all, Ty.Ds_all, Tm.D, Ty.D, listAll, qv13e] <;> (repeat' first | rfl | apply And.intro)); done) | (refine wk.pure ?_; (conv => lhs; whnf); (simp [Tm.Ds_all, Ty.Ds_all, Tm.D, Ty.D, listAll, qv13e] <;> (repeat' first | rfl | apply And.intro)); done) | ((simp [Tm.Ds_all, Ty.Ds_all, Tm.D, Ty.D, listAll, qv13e] <;> (repeat' first | rfl | apply And.intro)); done) | (simp [Tm.Ds_all, Ty.Ds_all, Tm.D, Ty.D, listAll, qv13e]; omega)
                          · (conv => whnf)
                            first | (refine said_pure (ih_sequentref02_Formed _ _ qv14 _ _ rfl) rfl ⟨Keeps.refl _ _, ?_⟩) | (refine said_pure2 (ih_sequentref02_Formed _ _ qv14 _ _ rfl) rfl (by simp [Tm.Ds_all, Ty.Ds_all, Tm.D, Ty.D, listAll, qv13e] <;> (repeat' first | rfl | apply And.intro)) ⟨Keeps.refl _ _, ?_⟩)
                            (conv => whnf)
                            refine Runs.weak ((P_sequentref02_Formed_j0 e).1 v13) ?_
                            repeat' first | exact wk.of_eq rfl | exact wk.pure rfl | exact wk.un _ | exact wk.hold _ _ _ | exact wk.holdG _ _ _ | exact rfl | exact trivial | refine ⟨?_, ?_⟩ | (refine wk.of_eq ?_; (conv => lhs; whnf); (simp [Tm.Ds_all, Ty.Ds_all, Tm.D, Ty.D, listAll, qv13e] <;> (repeat' first | rfl | apply And.intro)); done) | (refine wk.pure ?_; (conv => lhs; whnf); (simp [Tm.Ds_all, Ty.Ds_all, Tm.D, Ty.D, listAll, qv13e] <;> (repeat' first | rfl | apply And.intro)); done) | ((simp [Tm.Ds_all, Ty.Ds_all, Tm.D, Ty.D, listAll, qv13e] <;> (repeat' first | rfl | apply And.intro)); done) | (simp [Tm.Ds_all, Ty.Ds_all, Tm.D, Ty.D, listAll, qv13e]; omega)
                      · (conv => whnf)
                        obtain ⟨qv13l, qv13e⟩ := app_some qv13
                        refine ⟨(by first | exact qv13l | simpa [Tm.Ds_all, Ty.Ds_all, Tm.D, Ty.D, listAll] using qv13l), rfl, fun hz => ?_, fun hz => ?_⟩
                        · have hyv13 : a1 = [] := by simpa [Ty.Ds_map, List.map_eq_nil_iff, Tm.Ds_all, Ty.Ds_all, Tm.D, Ty.D, listAll] using hz
                          have hzv13 : v13 = [a0.ty] := by rw [qv13e, hyv13]; simp
                          (conv => whnf)
                          first | (refine said_pure (ih_sequentref02_Formed _ _ qv14 _ _ rfl) rfl ⟨Keeps.refl _ _, ?_⟩) | (refine said_pure2 (ih_sequentref02_Formed _ _ qv14 _ _ rfl) rfl (by simp [Tm.Ds_all, Ty.Ds_all, Tm.D, Ty.D, listAll, hzv13] <;> (repeat' first | rfl | apply And.intro)) ⟨Keeps.refl _ _, ?_⟩)
                          (conv => whnf)
                          refine Runs.weak (P_sequentref02_Formed_j0 e).2 ?_
                          repeat' first | exact wk.of_eq rfl | exact wk.pure rfl | exact wk.un _ | exact wk.hold _ _ _ | exact wk.holdG _ _ _ | exact rfl | exact trivial | refine ⟨?_, ?_⟩
                        · (conv => whnf)
                          first | (refine said_pure (ih_sequentref02_Formed _ _ qv14 _ _ rfl) rfl ⟨Keeps.refl _ _, ?_⟩) | (refine said_pure2 (ih_sequentref02_Formed _ _ qv14 _ _ rfl) rfl (by simp [Tm.Ds_all, Ty.Ds_all, Tm.D, Ty.D, listAll, qv13e] <;> (repeat' first | rfl | apply And.intro)) ⟨Keeps.refl _ _, ?_⟩)
                          (conv => whnf)
                          refine Runs.weak (P_sequentref02_Formed_j0 e).2 ?_
                          repeat' first | exact wk.of_eq rfl | exact wk.pure rfl | exact wk.un _ | exact wk.hold _ _ _ | exact wk.holdG _ _ _ | exact rfl | exact trivial | refine ⟨?_, ?_⟩
                · replace e := ifnb hb9 e; (conv => whnf)
                  refine brK.nff hb9 ?_; (conv => whnf)
                  refine brK.nff hb9 ?_; (conv => whnf)
                  refine brK.nff hb9 ?_; (conv => whnf)
                  obtain rfl := sm e
                  repeat' first | exact rfl | exact trivial | refine ⟨?_, ?_⟩
              · replace e := ifnb hb7 e; (conv => whnf)
                refine brK.nff hb7 ?_; (conv => whnf)
                refine brK.nff hb7 ?_; (conv => whnf)
                refine brK.nff hb7 ?_; (conv => whnf)
                refine brK.nff hb7 ?_; (conv => whnf)
                obtain rfl := sm e
                repeat' first | exact rfl | exact trivial | refine ⟨?_, ?_⟩
            · replace e := ifn h5 e; (conv => whnf)
              obtain rfl := sm e
              repeat' first | exact rfl | exact trivial | refine ⟨?_, ?_⟩
theorem P_sequentref02_Formed {a0 : Tm} {a1 : (List Ty)} {r : (Ty × Bool)} (e : sequentref02_Formed a0 a1 = some r) : M_sequentref02_Formed a0 a1 r := G_sequentref02_Formed _ _ e _ _ rfl
theorem P_sequentref02_Check {a0 : Tm} {r : Int} (e : sequentref02_Check a0 = some r) : Pure Try.prog 97 [(Tm.D a0)] (.int .i64 r) := by
  unfold sequentref02_Check at e
  refine pure_of_awp (js := []) T_ok Try.func97 rfl (by decide +kernel) rfl ?_; (conv => whnf)
  obtain ⟨v1, qv1, e⟩ := bnd e
  refine said_pure (P_sequentref02_Small qv1) rfl ?_; (conv => whnf)
  refine brK.nsplit (fun hb2 => ?_) (fun hb2 => ?_)
  · replace e := ifpb hb2 e; (conv => whnf)
    obtain ⟨v3, qv3, e⟩ := bnd e
    refine said_pure (P_sequentref02_Formed qv3) rfl ?_; (conv => whnf)
    refine brK.nsplit (fun hb4 => ?_) (fun hb4 => ?_)
    · replace e := ifpb hb4 e; (conv => whnf)
      obtain rfl := sm e
      repeat' first | exact rfl | exact trivial | refine ⟨?_, ?_⟩
    · replace e := ifnb hb4 e; (conv => whnf)
      obtain rfl := sm e
      repeat' first | exact rfl | exact trivial | refine ⟨?_, ?_⟩
  · replace e := ifnb hb2 e; (conv => whnf)
    obtain rfl := sm e
    repeat' first | exact rfl | exact trivial | refine ⟨?_, ?_⟩
theorem P_sequentref08_thin_j0 {a0 : Tm} {v6 : (Ty × Bool)} {r : (Ty × Bool)} (e : sequentref08_thin_j0 a0 v6 = some r) : (∀ (v5 : (List Ty)), JoinAt T Try.prog Try.f155 Fx0 [13] [1, 1, 0, 1, 0, 1, 1, 1, 1, 1, 0, 1, 0, 0] (EP T Try.f155 (.tuple [(Ty.D r.1), (.bool r.2)])) [(2, .ptr 0 0 0), (4, .ptr 0 1 0), (6, .ptr 0 2 0), (11, .ptr 0 4 0), (12, .d (.bool v6.2))] [[.cells [.d (.int .u8 a0.kind), .d (.str a0.name), .d (.bool a0.ty.v), .d (.str a0.ty.name), .d (.slice 3 (Ty.Ds a0.ty.args)), .d (.int .i64 a0.index), .d (.slice 7 (Tm.Ds a0.sub))], .cells [.d (.bool false), .d (.str ByteArray.empty), .nil 3], .cells [.d (.bool a0.ty.v), .d (.str a0.ty.name), .d (.slice 3 (Ty.Ds a0.ty.args))], .grow 3 (Ty.Ds v5).length, .cells [.d (.bool v6.1.v), .d (.str v6.1.name), .d (.slice 3 (Ty.Ds v6.1.args))]]]) ∧ (JoinAt T Try.prog Try.f155 Fx0 [13] [1, 1, 0, 1, 0, 1, 1, 1, 1, 1, 0, 1, 0, 0] (EP T Try.f155 (.tuple [(Ty.D r.1), (.bool r.2)])) [(2, .ptr 0 0 0), (4, .ptr 0 1 0), (6, .ptr 0 2 0), (11, .ptr 0 3 0), (12, .d (.bool v6.2))] [[.cells [.d (.int .u8 a0.kind), .d (.str a0.name), .d (.bool a0.ty.v), .d (.str a0.ty.name), .d (.slice 3 (Ty.Ds a0.ty.args)), .d (.int .i64 a0.index), .d (.slice 7 (Tm.Ds a0.sub))], .cells [.d (.bool false), .d (.str ByteArray.empty), .nil 3], .cells [.d (.bool a0.ty.v), .d (.str a0.ty.name), .d (.slice 3 (Ty.Ds a0.ty.args))], .cells [.d (.bool v6.1.v), .d (.str v6.1.name), .d (.slice 3 (Ty.Ds v6.1.args))]]]) := by
  unfold sequentref08_thin_j0 at e
  refine ⟨?_, ?_⟩
  · intro v5
    refine Runs.enter T_ok ?_; (conv => whnf)
    refine brK.nsplit (fun hb7 => ?_) (fun hb7 => ?_)
    · replace e := ifpb hb7 e; (conv => whnf)
      obtain ⟨v8, qv8, e⟩ := bnd e
      refine said_pure (P_sequentref01_Fun qv8) rfl ?_; (conv => whnf)
      refine draw_rule [] T_ok mixed sequentref08_thin_pl16 (by decide +kernel) ?_; (conv => whnf)
      obtain ⟨v9, qv9, e⟩ := bnd e
      refine said_pure (P_sequentref01_Size qv9) rfl ⟨Keeps.refl _ _, ?_⟩; (conv => whnf)
      refine test.dec ?_; (conv => whnf)
      obtain rfl := sm e
      repeat' first | exact rfl | exact trivial | refine ⟨?_, ?_⟩
    · replace e := ifnb hb7 e; (conv => whnf)
      obtain rfl := sm e
      repeat' first | exact rfl | exact trivial | refine ⟨?_, ?_⟩
  · refine Runs.enter T_ok ?_; (conv => whnf)
    refine brK.nsplit (fun hb7 => ?_) (fun hb7 => ?_)
    · replace e := ifpb hb7 e; (conv => whnf)
      obtain ⟨v8, qv8, e⟩ := bnd e
      refine said_pure (P_sequentref01_Fun qv8) rfl ?_; (conv => whnf)
      refine draw_rule [] T_ok mixed sequentref08_thin_pl16 (by decide +kernel) ?_; (conv => whnf)
      obtain ⟨v9, qv9, e⟩ := bnd e
      refine said_pure (P_sequentref01_Size qv9) rfl ⟨Keeps.refl _ _, ?_⟩; (conv => whnf)
      refine test.dec ?_; (conv => whnf)
      obtain rfl := sm e
      repeat' first | exact rfl | exact trivial | refine ⟨?_, ?_⟩
    · replace e := ifnb hb7 e; (conv => whnf)
      obtain rfl := sm e
      repeat' first | exact rfl | exact trivial | refine ⟨?_, ?_⟩
end Go.Proofs.Ytdjmibbgoajcaaa.Fw

