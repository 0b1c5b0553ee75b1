/- The code computes the functions. -/
import Derived.Test.YtpgecpmonaldiaaGP2
set_option autoImplicit false
set_option linter.unusedVariables false
set_option linter.unusedSimpArgs false
set_option maxHeartbeats 4000000
namespace Go.Proofs.Ytpgecpmonaldiaa.Fw
open Go Go.Proofs Go.RowKit
def M_slices_CompareFunc_Term_Term_Term_Term__terms_Compare (a0 : (List Tm)) (a1 : (List Tm)) (r : Int) : Prop := Pure Try.prog 117 [(.slice 7 (Tm.Ds a0)), (.slice 7 (Tm.Ds a1)), (.func (.func 96) [] [])] (.int .i64 r)
def M_slices_CompareFunc_Term_Term_Term_Term__terms_Compare_l0 (rest0 : (List Tm)) (k0 : Nat) (a0 : (List Tm)) (a1 : (List Tm)) (r : Int) : Prop := ∀ (hd0 : rest0 = a0.drop k0), LoopAt T Try.prog Try.f117 Fx0 [] [1, 0, 1, 0] (EP T Try.f117 (.int .i64 r)) [(0, .d (.slice 7 (Tm.Ds a0))), (1, .d (.slice 7 (Tm.Ds a1))), (2, .d (.func (.func 96) [] [])), (11, .d (.slice 7 (Tm.Ds a0))), (12, .d (.int .i64 ((Tm.Ds a0).length : Int))), (13, .d (.int .i64 (k0 : Int)))] [[]]
def M_terms_Compare (a0 : Tm) (a1 : Tm) (r : Int) : Prop := Pure Try.prog 96 [(Tm.D a0), (Tm.D a1)] (.int .i64 r)
def M_terms_Compare_j0 (a0 : Tm) (a1 : Tm) (r : Int) : Prop := JoinAt T Try.prog Try.f96 Fx0 [7] [1, 1, 1, 0, 0] (EP T Try.f96 (.int .i64 r)) [(2, .ptr 0 0 0), (3, .ptr 0 1 0)] [[.cells [.d (.int .u8 a0.kind), .d (.str a0.name), .d (.bool a0.ty.v), .d (.str a0.ty.name), .d (.slice 3 (Ty.Ds a0.ty.args)), .d (.int .i64 a0.index), .d (.slice 7 (Tm.Ds a0.sub))], .cells [.d (.int .u8 a1.kind), .d (.str a1.name), .d (.bool a1.ty.v), .d (.str a1.ty.name), .d (.slice 3 (Ty.Ds a1.ty.args)), .d (.int .i64 a1.index), .d (.slice 7 (Tm.Ds a1.sub))]]]
theorem G_slices_CompareFunc_Term_Term_Term_Term__terms_Compare : (∀ p r, slices_CompareFunc_Term_Term_Term_Term__terms_Compare' p = some r → ∀ a0 a1, (a0, a1) = p → M_slices_CompareFunc_Term_Term_Term_Term__terms_Compare a0 a1 r) ∧
    (∀ p r, slices_CompareFunc_Term_Term_Term_Term__terms_Compare_l0' p = some r → ∀ rest0 k0 a0 a1, (rest0, k0, a0, a1) = p → M_slices_CompareFunc_Term_Term_Term_Term__terms_Compare_l0 rest0 k0 a0 a1 r) ∧
    (∀ p r, terms_Compare' p = some r → ∀ a0 a1, (a0, a1) = p → M_terms_Compare a0 a1 r) ∧
    (∀ p r, terms_Compare_j0' p = some r → ∀ a0 a1, (a0, a1) = p → M_terms_Compare_j0 a0 a1 r) := by
  refine slices_CompareFunc_Term_Term_Term_Term__terms_Compare'.mutual_partial_correctness (fun (p : ((List Tm) × (List Tm))) (r : Int) => ∀ (a0 : (List Tm)) (a1 : (List Tm)), (a0, a1) = p → M_slices_CompareFunc_Term_Term_Term_Term__terms_Compare a0 a1 r) (fun (p : ((List Tm) × Nat × (List Tm) × (List Tm))) (r : Int) => ∀ (rest0 : (List Tm)) (k0 : Nat) (a0 : (List Tm)) (a1 : (List Tm)), (rest0, k0, a0, a1) = p → M_slices_CompareFunc_Term_Term_Term_Term__terms_Compare_l0 rest0 k0 a0 a1 r) (fun (p : (Tm × Tm)) (r : Int) => ∀ (a0 : Tm) (a1 : Tm), (a0, a1) = p → M_terms_Compare a0 a1 r) (fun (p : (Tm × Tm)) (r : Int) => ∀ (a0 : Tm) (a1 : Tm), (a0, a1) = p → M_terms_Compare_j0 a0 a1 r) ?_ ?_ ?_ ?_
  · intro f_slices_CompareFunc_Term_Term_Term_Term__terms_Compare_l0 ih_slices_CompareFunc_Term_Term_Term_Term__terms_Compare_l0 p r e a0 a1 hp
    subst hp
    refine pure_of_awp (js := []) T_ok Try.func117 rfl (by decide +kernel) rfl ?_; (conv => whnf)
    refine RunsL.runs (RunsL.weak ((ih_slices_CompareFunc_Term_Term_Term_Term__terms_Compare_l0 _ _ e _ _ _ _ rfl) (by simp)) ?_)
    repeat' first | exact wk.of_eq rfl | exact wk.pure rfl | exact wk.un _ | exact wk.hold _ _ _ | exact rfl | exact trivial | refine ⟨?_, ?_⟩ | (refine wk.of_eq ?_; (conv => lhs; whnf); (simp [Tm.Ds_all, Tm.D, listAll] <;> (repeat' first | rfl | apply And.intro)); done) | (refine wk.pure ?_; (conv => lhs; whnf); (simp [Tm.Ds_all, Tm.D, listAll] <;> (repeat' first | rfl | apply And.intro)); done) | ((simp [Tm.Ds_all, Tm.D, listAll] <;> (repeat' first | rfl | apply And.intro)); done)
  · intro f_slices_CompareFunc_Term_Term_Term_Term__terms_Compare_l0 f_terms_Compare ih_slices_CompareFunc_Term_Term_Term_Term__terms_Compare_l0 ih_terms_Compare p r e rest0 k0 a0 a1 hp
    subst hp
    intro hd0
    refine RunsL.len_tmp 0 rfl fun hlenk0 => ?_
    refine RunsL.of_awp (js := []) T_ok ?_; (conv => whnf)
    have hls := Tm.Ds_len a0
    cases rest0 with
    | nil =>
      have hk := drop_nil hd0
      refine ⟨⟨fun h => absurd h (by omega), fun _ => ?_⟩⟩; (conv => whnf)
      refine ⟨⟨fun h15 => ?_, fun h15 => ?_⟩⟩
      · replace e := ifp (by first | exact h15 | simpa [Tm.Ds_all, Tm.D, listAll] using h15) e; (conv => whnf)
        obtain rfl := sm e
        repeat' first | exact rfl | exact trivial | refine ⟨?_, ?_⟩
      · replace e := ifn (by first | exact h15 | simpa [Tm.Ds_all, Tm.D, listAll] using h15) e; (conv => whnf)
        obtain rfl := sm e
        repeat' first | exact rfl | exact trivial | refine ⟨?_, ?_⟩
    | cons v14 rest0 =>
      obtain ⟨hxv14, hd0, hltv14⟩ := drop_head hd0
      refine ⟨⟨fun _ => ?_, fun h => absurd (by omega) h⟩⟩; (conv => whnf)
      refine ⟨k0, _, rfl, Tm.Ds_get hxv14, ?_⟩; (conv => whnf)
      refine ⟨Tm.Ds_fit _ rfl rfl, ?_⟩; (conv => whnf)
      refine ⟨⟨fun h15 => ?_, fun h15 => ?_⟩⟩
      · replace e := ifp (by first | exact h15 | simpa [Tm.Ds_all, Tm.D, listAll] using h15) e; (conv => whnf)
        obtain rfl := sm e
        repeat' first | exact rfl | exact trivial | refine ⟨?_, ?_⟩
      · replace e := ifn (by first | exact h15 | simpa [Tm.Ds_all, Tm.D, listAll] using h15) e; (conv => whnf)
        obtain ⟨v16, qv16, e⟩ := bnd e
        obtain ⟨qv16k, qv16a, qv16b⟩ := geti_some qv16
        refine ⟨qv16k, _, qv16a, Tm.Ds_get qv16b, ?_⟩; (conv => whnf)
        refine ⟨Tm.Ds_fit _ rfl rfl, ?_⟩; (conv => whnf)
        obtain ⟨v17, qv17, e⟩ := bnd e
        refine said_pure (ih_terms_Compare _ _ qv17 _ _ rfl) rfl ?_; (conv => whnf)
        refine ⟨⟨fun h18 => ?_, fun h18 => ?_⟩⟩
        · replace e := ifp h18 e; (conv => whnf)
          obtain rfl := sm e
          repeat' first | exact rfl | exact trivial | refine ⟨?_, ?_⟩
        · replace e := ifn h18 e; (conv => whnf)
          refine ⟨((k0 + 1 : Nat) : Int), wrap64e (by omega) (by omega) (by omega), ?_⟩; (conv => whnf)
          refine (RunsL.weak ((ih_slices_CompareFunc_Term_Term_Term_Term__terms_Compare_l0 _ _ e _ _ _ _ rfl) hd0) ?_)
          repeat' first | exact wk.of_eq rfl | exact wk.pure rfl | exact wk.un _ | exact wk.hold _ _ _ | exact rfl | exact trivial | refine ⟨?_, ?_⟩ | (refine wk.of_eq ?_; (conv => lhs; whnf); (simp [Tm.Ds_all, Tm.D, listAll] <;> (repeat' first | rfl | apply And.intro)); done) | (refine wk.pure ?_; (conv => lhs; whnf); (simp [Tm.Ds_all, Tm.D, listAll] <;> (repeat' first | rfl | apply And.intro)); done) | ((simp [Tm.Ds_all, Tm.D, listAll] <;> (repeat' first | rfl | apply And.intro)); done)
  · intro f_terms_Compare_j0 ih_terms_Compare_j0 p r e a0 a1 hp
    subst hp
    refine pure_of_awp (js := [7]) T_ok Try.func96 rfl (by decide +kernel) rfl ?_; (conv => whnf)
    obtain ⟨v1, qv1, e⟩ := bnd e
    refine said_pure (P_cmp_Compare_uint8 qv1) rfl ?_; (conv => whnf)
    refine ⟨⟨fun h2 => ?_, fun h2 => ?_⟩⟩
    · replace e := ifp h2 e; (conv => whnf)
      obtain rfl := sm e
      repeat' first | exact rfl | exact trivial | refine ⟨?_, ?_⟩
    · replace e := ifn h2 e; (conv => whnf)
      obtain ⟨v3, qv3, e⟩ := bnd e
      refine said_pure (P_strings_Compare qv3) rfl ?_; (conv => whnf)
      refine ⟨⟨fun h4 => ?_, fun h4 => ?_⟩⟩
      · replace e := ifp h4 e; (conv => whnf)
        refine ⟨⟨fun h5 => ?_, fun h5 => ?_⟩⟩
        · replace e := ifp h5 e; (conv => whnf)
          obtain rfl := sm e
          repeat' first | exact rfl | exact trivial | refine ⟨?_, ?_⟩
        · replace e := ifn h5 e; (conv => whnf)
          refine Runs.weak (ih_terms_Compare_j0 _ _ e _ _ rfl) ?_
          repeat' first | exact wk.of_eq rfl | exact wk.pure rfl | exact wk.un _ | exact wk.hold _ _ _ | exact rfl | exact trivial | refine ⟨?_, ?_⟩
      · replace e := ifn h4 e; (conv => whnf)
        refine Runs.weak (ih_terms_Compare_j0 _ _ e _ _ rfl) ?_
        repeat' first | exact wk.of_eq rfl | exact wk.pure rfl | exact wk.un _ | exact wk.hold _ _ _ | exact rfl | exact trivial | refine ⟨?_, ?_⟩
  · intro f_slices_CompareFunc_Term_Term_Term_Term__terms_Compare ih_slices_CompareFunc_Term_Term_Term_Term__terms_Compare p r e a0 a1 hp
    subst hp
    refine Runs.enter T_ok ?_; (conv => whnf)
    refine draw_rule [] T_ok mixed terms_Compare_pl7 (by decide +kernel) ?_; (conv => whnf)
    obtain ⟨v4, qv4, e⟩ := bnd e
    refine said_pure (P_types_Compare qv4) rfl ⟨Keeps.refl _ _, ?_⟩; (conv => whnf)
    obtain ⟨v5, qv5, e⟩ := bnd e
    refine said_pure (P_cmp_Compare_int qv5) rfl ⟨Keeps.refl _ _, ?_⟩; (conv => whnf)
    obtain ⟨v6, qv6, e⟩ := bnd e
    first | (refine said_pure (P_cmp_Compare_int qv6) rfl ⟨Keeps.refl _ _, ?_⟩) | (refine said_pure2 (P_cmp_Compare_int qv6) rfl (by simp [Tm.Ds_all, Ty.Ds_all, intDs_i64_all, Tm.D, Ty.D, listAll] <;> (repeat' first | rfl | apply And.intro)) ⟨Keeps.refl _ _, ?_⟩)
    (conv => whnf)
    refine ⟨⟨⟨rfl, rfl⟩, ⟨⟨rfl, rfl⟩, ⟨⟨rfl, rfl⟩, trivial⟩⟩⟩, ?_⟩; (conv => whnf)
    obtain ⟨v7, qv7, e⟩ := bnd e
    first | (refine said_pure (P_cmp_Or_int qv7) rfl ⟨Keeps.refl _ _, ?_⟩) | (refine said_pure2 (P_cmp_Or_int qv7) rfl (by simp [Tm.Ds_all, Ty.Ds_all, intDs_i64_all, Tm.D, Ty.D, listAll] <;> (repeat' first | rfl | apply And.intro)) ⟨Keeps.refl _ _, ?_⟩)
    (conv => whnf)
    refine ⟨⟨fun h8 => ?_, fun h8 => ?_⟩⟩
    · replace e := ifp h8 e; (conv => whnf)
      obtain rfl := sm e
      repeat' first | exact rfl | exact trivial | refine ⟨?_, ?_⟩
    · replace e := ifn h8 e; (conv => whnf)
      obtain ⟨v9, qv9, e⟩ := bnd e
      refine said_pure (ih_slices_CompareFunc_Term_Term_Term_Term__terms_Compare _ _ qv9 _ _ rfl) rfl ?_; (conv => whnf)
      obtain rfl := sm e
      repeat' first | exact rfl | exact trivial | refine ⟨?_, ?_⟩
theorem P_slices_CompareFunc_Term_Term_Term_Term__terms_Compare {a0 : (List Tm)} {a1 : (List Tm)} {r : Int} (e : slices_CompareFunc_Term_Term_Term_Term__terms_Compare a0 a1 = some r) : M_slices_CompareFunc_Term_Term_Term_Term__terms_Compare a0 a1 r := G_slices_CompareFunc_Term_Term_Term_Term__terms_Compare.1 _ _ e _ _ rfl
theorem P_slices_CompareFunc_Term_Term_Term_Term__terms_Compare_l0 {rest0 : (List Tm)} {k0 : Nat} {a0 : (List Tm)} {a1 : (List Tm)} {r : Int} (e : slices_CompareFunc_Term_Term_Term_Term__terms_Compare_l0 rest0 k0 a0 a1 = some r) : M_slices_CompareFunc_Term_Term_Term_Term__terms_Compare_l0 rest0 k0 a0 a1 r := G_slices_CompareFunc_Term_Term_Term_Term__terms_Compare.2.1 _ _ e _ _ _ _ rfl
theorem P_terms_Compare {a0 : Tm} {a1 : Tm} {r : Int} (e : terms_Compare a0 a1 = some r) : M_terms_Compare a0 a1 r := G_slices_CompareFunc_Term_Term_Term_Term__terms_Compare.2.2.1 _ _ e _ _ rfl
theorem P_terms_Compare_j0 {a0 : Tm} {a1 : Tm} {r : Int} (e : terms_Compare_j0 a0 a1 = some r) : M_terms_Compare_j0 a0 a1 r := G_slices_CompareFunc_Term_Term_Term_Term__terms_Compare.2.2.2 _ _ e _ _ rfl

theorem P_terms_Same {a0 : Tm} {a1 : Tm} {r : Bool} (e : terms_Same a0 a1 = some r) : Pure Try.prog 73 [(Tm.D a0), (Tm.D a1)] (.bool r) := by
  unfold terms_Same at e
  refine pure_of_awp (js := []) T_ok Try.func73 rfl (by decide +kernel) rfl ?_; (conv => whnf)
  obtain ⟨v1, qv1, e⟩ := bnd e
  refine said_pure (P_terms_Compare qv1) rfl ?_; (conv => whnf)
  refine test.dec ?_; (conv => whnf)
  obtain rfl := sm e
  repeat' first | exact rfl | exact trivial | refine ⟨?_, ?_⟩

def M_sequentref31_ints_l0 (rest0 : (List Int)) (k0 : Nat) (a1 : (List Int)) (r : Bool) : Prop := ∀ (a0 : (List Int)) (hd0 : rest0 = a0.drop k0), LoopAt T Try.prog Try.f88 Fx0 [] [1, 1, 0, 1, 0] (EP T Try.f88 (.bool r)) [(0, .d (.slice 1 (intDs_i64 a0))), (1, .d (.slice 1 (intDs_i64 a1))), (5, .d (.int .i64 (k0 : Int)))] [[]]
theorem G_sequentref31_ints_l0 : (∀ p r, sequentref31_ints_l0' p = some r → ∀ rest0 k0 a1, (rest0, k0, a1) = p → M_sequentref31_ints_l0 rest0 k0 a1 r) := by
  refine sequentref31_ints_l0'.partial_correctness (fun (p : ((List Int) × Nat × (List Int))) (r : Bool) => ∀ (rest0 : (List Int)) (k0 : Nat) (a1 : (List Int)), (rest0, k0, a1) = p → M_sequentref31_ints_l0 rest0 k0 a1 r) ?_
  · intro f_sequentref31_ints_l0 ih_sequentref31_ints_l0 p r e rest0 k0 a1 hp
    subst hp
    intro a0 hd0
    refine RunsL.len_tmp 0 rfl fun hlenk0 => ?_
    refine RunsL.of_awp (js := []) T_ok ?_; (conv => whnf)
    have hls := intDs_i64_len a0
    cases rest0 with
    | nil =>
      have hk := drop_nil hd0
      refine ⟨⟨fun h => absurd h (by omega), fun _ => ?_⟩⟩; (conv => whnf)
      obtain rfl := sm e
      repeat' first | exact rfl | exact trivial | refine ⟨?_, ?_⟩
    | cons v6 rest0 =>
      obtain ⟨hxv6, hd0, hltv6⟩ := drop_head hd0
      refine ⟨⟨fun _ => ?_, fun h => absurd (by omega) h⟩⟩; (conv => whnf)
      refine draw_rule [] T_ok mixed sequentref31_ints_pl6 (by decide +kernel) ?_; (conv => whnf)
      refine ⟨k0, _, rfl, intDs_i64_get hxv6, ?_⟩; (conv => whnf)
      refine ⟨intDs_i64_fit _ rfl rfl, ?_⟩; (conv => whnf)
      obtain ⟨v7, qv7, e⟩ := bnd e
      obtain ⟨qv7k, qv7a, qv7b⟩ := geti_some qv7
      refine ⟨qv7k, _, qv7a, intDs_i64_get qv7b, ?_⟩; (conv => whnf)
      refine ⟨intDs_i64_fit _ rfl rfl, ?_⟩; (conv => whnf)
      refine ⟨⟨fun h8 => ?_, fun h8 => ?_⟩⟩
      · replace e := ifp h8 e; (conv => whnf)
        obtain rfl := sm e
        repeat' first | exact rfl | exact trivial | refine ⟨?_, ?_⟩
      · replace e := ifn h8 e; (conv => whnf)
        refine ⟨((k0 + 1 : Nat) : Int), wrap64e (by omega) (by omega) (by omega), ?_⟩; (conv => whnf)
        refine (RunsL.weak ((ih_sequentref31_ints_l0 _ _ e _ _ _ rfl) a0 hd0) ?_)
        repeat' first | exact wk.of_eq rfl | exact wk.pure rfl | exact wk.un _ | exact wk.hold _ _ _ | exact rfl | exact trivial | refine ⟨?_, ?_⟩
theorem P_sequentref31_ints_l0 {rest0 : (List Int)} {k0 : Nat} {a1 : (List Int)} {r : Bool} (e : sequentref31_ints_l0 rest0 k0 a1 = some r) : M_sequentref31_ints_l0 rest0 k0 a1 r := G_sequentref31_ints_l0 _ _ e _ _ _ rfl

theorem P_sequentref31_ints {a0 : (List Int)} {a1 : (List Int)} {r : Bool} (e : sequentref31_ints a0 a1 = some r) : Pure Try.prog 88 [(.slice 1 (intDs_i64 a0)), (.slice 1 (intDs_i64 a1))] (.bool r) := by
  unfold sequentref31_ints at e
  refine pure_of_awp (js := []) T_ok Try.func88 rfl (by decide +kernel) rfl ?_; (conv => whnf)
  refine ⟨⟨fun h1 => ?_, fun h1 => ?_⟩⟩
  · replace e := ifp (by first | exact h1 | simpa [intDs_i64_all, listAll] using h1) e; (conv => whnf)
    obtain rfl := sm e
    repeat' first | exact rfl | exact trivial | refine ⟨?_, ?_⟩
  · replace e := ifn (by first | exact h1 | simpa [intDs_i64_all, listAll] using h1) e; (conv => whnf)
    refine RunsL.runs (RunsL.weak ((P_sequentref31_ints_l0 e) a0 (by simp)) ?_)
    repeat' first | exact wk.of_eq rfl | exact wk.pure rfl | exact wk.un _ | exact wk.hold _ _ _ | exact rfl | exact trivial | refine ⟨?_, ?_⟩

theorem P_sequentref31_sameType {a0 : ATypeNode} {a1 : ATypeNode} {r : Bool} (e : sequentref31_sameType a0 a1 = some r) : Pure Try.prog 51 [(ATypeNode.D a0), (ATypeNode.D a1)] (.bool r) := by
  unfold sequentref31_sameType at e
  refine pure_of_awp (js := []) T_ok Try.func51 rfl (by decide +kernel) rfl ?_; (conv => whnf)
  refine ⟨⟨fun h1 => ?_, fun h1 => ?_⟩⟩
  · replace e := ifp h1 e; (conv => whnf)
    refine ⟨⟨fun h2 => ?_, fun h2 => ?_⟩⟩
    · replace e := ifp h2 e; (conv => whnf)
      obtain ⟨v3, qv3, e⟩ := bnd e
      refine said_pure (P_sequentref31_ints qv3) rfl ?_; (conv => whnf)
      obtain rfl := sm e
      repeat' first | exact rfl | exact trivial | refine ⟨?_, ?_⟩
    · replace e := ifn h2 e; (conv => whnf)
      obtain rfl := sm e
      repeat' first | exact rfl | exact trivial | refine ⟨?_, ?_⟩
  · replace e := ifn h1 e; (conv => whnf)
    obtain rfl := sm e
    repeat' first | exact rfl | exact trivial | refine ⟨?_, ?_⟩

theorem P_sequentref31_sameTerm {a0 : ATermNode} {a1 : ATermNode} {r : Bool} (e : sequentref31_sameTerm a0 a1 = some r) : Pure Try.prog 52 [(ATermNode.D a0), (ATermNode.D a1)] (.bool r) := by
  unfold sequentref31_sameTerm at e
  refine pure_of_awp (js := []) T_ok Try.func52 rfl (by decide +kernel) rfl ?_; (conv => whnf)
  refine ⟨⟨fun h1 => ?_, fun h1 => ?_⟩⟩
  · replace e := ifp h1 e; (conv => whnf)
    refine ⟨⟨fun h2 => ?_, fun h2 => ?_⟩⟩
    · replace e := ifp h2 e; (conv => whnf)
      refine ⟨⟨fun h3 => ?_, fun h3 => ?_⟩⟩
      · replace e := ifp h3 e; (conv => whnf)
        refine ⟨⟨fun h4 => ?_, fun h4 => ?_⟩⟩
        · replace e := ifp h4 e; (conv => whnf)
          obtain ⟨v5, qv5, e⟩ := bnd e
          refine said_pure (P_sequentref31_ints qv5) rfl ?_; (conv => whnf)
          obtain rfl := sm e
          repeat' first | exact rfl | exact trivial | refine ⟨?_, ?_⟩
        · replace e := ifn h4 e; (conv => whnf)
          obtain rfl := sm e
          repeat' first | exact rfl | exact trivial | refine ⟨?_, ?_⟩
      · replace e := ifn h3 e; (conv => whnf)
        obtain rfl := sm e
        repeat' first | exact rfl | exact trivial | refine ⟨?_, ?_⟩
    · replace e := ifn h2 e; (conv => whnf)
      refine ⟨⟨fun h3 => ?_, fun h3 => ?_⟩⟩
      · replace e := ifp h3 e; (conv => whnf)
        refine ⟨⟨fun h4 => ?_, fun h4 => ?_⟩⟩
        · replace e := ifp h4 e; (conv => whnf)
          refine ⟨⟨fun h5 => ?_, fun h5 => ?_⟩⟩
          · replace e := ifp h5 e; (conv => whnf)
            obtain ⟨v6, qv6, e⟩ := bnd e
            refine said_pure (P_sequentref31_ints qv6) rfl ?_; (conv => whnf)
            obtain rfl := sm e
            repeat' first | exact rfl | exact trivial | refine ⟨?_, ?_⟩
          · replace e := ifn h5 e; (conv => whnf)
            obtain rfl := sm e
            repeat' first | exact rfl | exact trivial | refine ⟨?_, ?_⟩
        · replace e := ifn h4 e; (conv => whnf)
          obtain rfl := sm e
          repeat' first | exact rfl | exact trivial | refine ⟨?_, ?_⟩
      · replace e := ifn h3 e; (conv => whnf)
        obtain rfl := sm e
        repeat' first | exact rfl | exact trivial | refine ⟨?_, ?_⟩
  · replace e := ifn h1 e; (conv => whnf)
    obtain rfl := sm e
    repeat' first | exact rfl | exact trivial | refine ⟨?_, ?_⟩

def M_sequentref31_Same_l1 (rest1 : (List ATermNode)) (k1 : Nat) (a1 : AStore) (r : Bool) : Prop := ∀ (a0 : AStore) (hd1 : rest1 = a0.terms.drop k1), LoopAt T Try.prog Try.f17 Fx0 [] [1, 1, 1, 0, 1, 0] (EP T Try.f17 (.bool r)) [(2, .ptr 0 0 0), (3, .ptr 0 1 0), (6, .d (.int .i64 (k1 : Int)))] [[.cells [.d (.slice 3 (ATypeNode.Ds a0.types)), .d (.slice 5 (ATermNode.Ds a0.terms))], .cells [.d (.slice 3 (ATypeNode.Ds a1.types)), .d (.slice 5 (ATermNode.Ds a1.terms))]]]
theorem G_sequentref31_Same_l1 : (∀ p r, sequentref31_Same_l1' p = some r → ∀ rest1 k1 a1, (rest1, k1, a1) = p → M_sequentref31_Same_l1 rest1 k1 a1 r) := by
  refine sequentref31_Same_l1'.partial_correctness (fun (p : ((List ATermNode) × Nat × AStore)) (r : Bool) => ∀ (rest1 : (List ATermNode)) (k1 : Nat) (a1 : AStore), (rest1, k1, a1) = p → M_sequentref31_Same_l1 rest1 k1 a1 r) ?_
  · intro f_sequentref31_Same_l1 ih_sequentref31_Same_l1 p r e rest1 k1 a1 hp
    subst hp
    intro a0 hd1
    refine RunsL.len_cell 0 1 rfl rfl rfl fun hlenk1 => ?_
    refine RunsL.of_awp (js := []) T_ok ?_; (conv => whnf)
    have hls := ATermNode.Ds_len a0.terms
    cases rest1 with
    | nil =>
      have hk := drop_nil hd1
      refine ⟨⟨fun h => absurd h (by omega), fun _ => ?_⟩⟩; (conv => whnf)
      obtain rfl := sm e
      repeat' first | exact rfl | exact trivial | refine ⟨?_, ?_⟩
    | cons v7 rest1 =>
      obtain ⟨hxv7, hd1, hltv7⟩ := drop_head hd1
      refine ⟨⟨fun _ => ?_, fun h => absurd (by omega) h⟩⟩; (conv => whnf)
      refine draw_rule [] T_ok mixed sequentref31_Same_pl11 (by decide +kernel) ?_; (conv => whnf)
      refine ⟨k1, _, rfl, ATermNode.Ds_get hxv7, ?_⟩; (conv => whnf)
      refine ⟨ATermNode.Ds_fit _ rfl rfl, ?_⟩; (conv => whnf)
      obtain ⟨v8, qv8, e⟩ := bnd e
      obtain ⟨qv8k, qv8a, qv8b⟩ := geti_some qv8
      refine ⟨qv8k, _, qv8a, ATermNode.Ds_get qv8b, ?_⟩; (conv => whnf)
      refine ⟨ATermNode.Ds_fit _ rfl rfl, ?_⟩; (conv => whnf)
      obtain ⟨v9, qv9, e⟩ := bnd e
      refine said_pure (P_sequentref31_sameTerm qv9) rfl ⟨Keeps.refl _ _, ?_⟩; (conv => whnf)
      refine brK.nsplit (fun hb10 => ?_) (fun hb10 => ?_)
      · replace e := ifpb hb10 e; (conv => whnf)
        refine brK.ntt hb10 ?_; (conv => whnf)
        refine brK.ntt hb10 ?_; (conv => whnf)
        refine brK.ntt hb10 ?_; (conv => whnf)
        refine ⟨k1, _, rfl, ATermNode.Ds_get hxv7, ?_⟩; (conv => whnf)
        refine brK.ntt hb10 ?_; (conv => whnf)
        refine brK.ntt hb10 ?_; (conv => whnf)
        refine brK.ntt hb10 ?_; (conv => whnf)
        refine brK.ntt hb10 ?_; (conv => whnf)
        refine brK.ntt hb10 ?_; (conv => whnf)
        refine brK.ntt hb10 ?_; (conv => whnf)
        obtain ⟨v11, qv11, e⟩ := bnd e
        obtain ⟨qv11k, qv11a, qv11b⟩ := geti_some qv11
        refine ⟨qv11k, _, qv11a, ATermNode.Ds_get qv11b, ?_⟩; (conv => whnf)
        refine brK.ntt hb10 ?_; (conv => whnf)
        refine brK.ntt hb10 ?_; (conv => whnf)
        refine brK.ntt hb10 ?_; (conv => whnf)
        refine ⟨⟨fun h12 => ?_, fun h12 => ?_⟩⟩
        · replace e := ifp h12 e; (conv => whnf)
          refine brK.ntt hb10 ?_; (conv => whnf)
          obtain rfl := sm e
          repeat' first | exact rfl | exact trivial | refine ⟨?_, ?_⟩
        · replace e := ifn h12 e; (conv => whnf)
          refine brK.ntt hb10 ?_; (conv => whnf)
          refine ⟨((k1 + 1 : Nat) : Int), wrap64e (by omega) (by omega) (by omega), ?_⟩; (conv => whnf)
          refine (RunsL.weak ((ih_sequentref31_Same_l1 _ _ e _ _ _ rfl) a0 hd1) ?_)
          repeat' first | exact wk.of_eq rfl | exact wk.pure rfl | exact wk.un _ | exact wk.hold _ _ _ | exact rfl | exact trivial | refine ⟨?_, ?_⟩
      · replace e := ifnb hb10 e; (conv => whnf)
        refine brK.nff hb10 ?_; (conv => whnf)
        refine brK.nff hb10 ?_; (conv => whnf)
        refine brK.nff hb10 ?_; (conv => whnf)
        refine brK.nff hb10 ?_; (conv => whnf)
        refine brK.nff hb10 ?_; (conv => whnf)
        refine brK.nff hb10 ?_; (conv => whnf)
        refine brK.nff hb10 ?_; (conv => whnf)
        refine brK.nff hb10 ?_; (conv => whnf)
        refine brK.nff hb10 ?_; (conv => whnf)
        refine brK.nff hb10 ?_; (conv => whnf)
        refine brK.nff hb10 ?_; (conv => whnf)
        refine brK.nff hb10 ?_; (conv => whnf)
        refine brK.nff hb10 ?_; (conv => whnf)
        obtain rfl := sm e
        repeat' first | exact rfl | exact trivial | refine ⟨?_, ?_⟩
theorem P_sequentref31_Same_l1 {rest1 : (List ATermNode)} {k1 : Nat} {a1 : AStore} {r : Bool} (e : sequentref31_Same_l1 rest1 k1 a1 = some r) : M_sequentref31_Same_l1 rest1 k1 a1 r := G_sequentref31_Same_l1 _ _ e _ _ _ rfl

def M_sequentref31_Same_l0 (rest0 : (List ATypeNode)) (k0 : Nat) (a0 : AStore) (a1 : AStore) (r : Bool) : Prop := ∀ (hd0 : rest0 = a0.types.drop k0), LoopAt T Try.prog Try.f17 Fx0 [] [1, 1, 0, 1, 0] (EP T Try.f17 (.bool r)) [(2, .ptr 0 0 0), (3, .ptr 0 1 0), (5, .d (.int .i64 (k0 : Int)))] [[.cells [.d (.slice 3 (ATypeNode.Ds a0.types)), .d (.slice 5 (ATermNode.Ds a0.terms))], .cells [.d (.slice 3 (ATypeNode.Ds a1.types)), .d (.slice 5 (ATermNode.Ds a1.terms))]]]
theorem G_sequentref31_Same_l0 : (∀ p r, sequentref31_Same_l0' p = some r → ∀ rest0 k0 a0 a1, (rest0, k0, a0, a1) = p → M_sequentref31_Same_l0 rest0 k0 a0 a1 r) := by
  refine sequentref31_Same_l0'.partial_correctness (fun (p : ((List ATypeNode) × Nat × AStore × AStore)) (r : Bool) => ∀ (rest0 : (List ATypeNode)) (k0 : Nat) (a0 : AStore) (a1 : AStore), (rest0, k0, a0, a1) = p → M_sequentref31_Same_l0 rest0 k0 a0 a1 r) ?_
  · intro f_sequentref31_Same_l0 ih_sequentref31_Same_l0 p r e rest0 k0 a0 a1 hp
    subst hp
    intro hd0
    refine RunsL.len_cell 0 0 rfl rfl rfl fun hlenk0 => ?_
    refine RunsL.of_awp (js := []) T_ok ?_; (conv => whnf)
    have hls := ATypeNode.Ds_len a0.types
    cases rest0 with
    | nil =>
      have hk := drop_nil hd0
      refine ⟨⟨fun h => absurd h (by omega), fun _ => ?_⟩⟩; (conv => whnf)
      refine RunsL.runs (RunsL.weak ((P_sequentref31_Same_l1 e) a0 (by simp)) ?_)
      repeat' first | exact wk.of_eq rfl | exact wk.pure rfl | exact wk.un _ | exact wk.hold _ _ _ | exact rfl | exact trivial | refine ⟨?_, ?_⟩
    | cons v6 rest0 =>
      obtain ⟨hxv6, hd0, hltv6⟩ := drop_head hd0
      refine ⟨⟨fun _ => ?_, fun h => absurd (by omega) h⟩⟩; (conv => whnf)
      refine draw_rule [] T_ok mixed sequentref31_Same_pl6 (by decide +kernel) ?_; (conv => whnf)
      refine ⟨k0, _, rfl, ATypeNode.Ds_get hxv6, ?_⟩; (conv => whnf)
      refine ⟨ATypeNode.Ds_fit _ rfl rfl, ?_⟩; (conv => whnf)
      obtain ⟨v7, qv7, e⟩ := bnd e
      obtain ⟨qv7k, qv7a, qv7b⟩ := geti_some qv7
      refine ⟨qv7k, _, qv7a, ATypeNode.Ds_get qv7b, ?_⟩; (conv => whnf)
      refine ⟨ATypeNode.Ds_fit _ rfl rfl, ?_⟩; (conv => whnf)
      obtain ⟨v8, qv8, e⟩ := bnd e
      refine said_pure (P_sequentref31_sameType qv8) rfl ⟨Keeps.refl _ _, ?_⟩; (conv => whnf)
      refine brK.nsplit (fun hb9 => ?_) (fun hb9 => ?_)
      · replace e := ifpb hb9 e; (conv => whnf)
        refine ⟨((k0 + 1 : Nat) : Int), wrap64e (by omega) (by omega) (by omega), ?_⟩; (conv => whnf)
        refine (RunsL.weak ((ih_sequentref31_Same_l0 _ _ e _ _ _ _ rfl) hd0) ?_)
        repeat' first | exact wk.of_eq rfl | exact wk.pure rfl | exact wk.un _ | exact wk.hold _ _ _ | exact rfl | exact trivial | refine ⟨?_, ?_⟩
      · replace e := ifnb hb9 e; (conv => whnf)
        obtain rfl := sm e
        repeat' first | exact rfl | exact trivial | refine ⟨?_, ?_⟩
theorem P_sequentref31_Same_l0 {rest0 : (List ATypeNode)} {k0 : Nat} {a0 : AStore} {a1 : AStore} {r : Bool} (e : sequentref31_Same_l0 rest0 k0 a0 a1 = some r) : M_sequentref31_Same_l0 rest0 k0 a0 a1 r := G_sequentref31_Same_l0 _ _ e _ _ _ _ rfl

theorem P_sequentref31_Same {a0 : AStore} {a1 : AStore} {r : Bool} (e : sequentref31_Same a0 a1 = some r) : Pure Try.prog 17 [(AStore.D a0), (AStore.D a1)] (.bool r) := by
  unfold sequentref31_Same at e
  refine pure_of_awp (js := []) T_ok Try.func17 rfl (by decide +kernel) rfl ?_; (conv => whnf)
  refine ⟨⟨fun h1 => ?_, fun h1 => ?_⟩⟩
  · replace e := ifp (by first | exact h1 | simpa [ATermNode.Ds_all, ATypeNode.Ds_all, AStore.D, ATermNode.D, ATypeNode.D, listAll] using h1) e; (conv => whnf)
    obtain rfl := sm e
    repeat' first | exact rfl | exact trivial | refine ⟨?_, ?_⟩
  · replace e := ifn (by first | exact h1 | simpa [ATermNode.Ds_all, ATypeNode.Ds_all, AStore.D, ATermNode.D, ATypeNode.D, listAll] using h1) e; (conv => whnf)
    refine ⟨⟨fun h2 => ?_, fun h2 => ?_⟩⟩
    · replace e := ifp (by first | exact h2 | simpa [ATermNode.Ds_all, ATypeNode.Ds_all, AStore.D, ATermNode.D, ATypeNode.D, listAll] using h2) e; (conv => whnf)
      obtain rfl := sm e
      repeat' first | exact rfl | exact trivial | refine ⟨?_, ?_⟩
    · replace e := ifn (by first | exact h2 | simpa [ATermNode.Ds_all, ATypeNode.Ds_all, AStore.D, ATermNode.D, ATypeNode.D, listAll] using h2) e; (conv => whnf)
      refine RunsL.runs (RunsL.weak ((P_sequentref31_Same_l0 e) (by simp)) ?_)
      repeat' first | exact wk.of_eq rfl | exact wk.pure rfl | exact wk.un _ | exact wk.hold _ _ _ | exact rfl | exact trivial | refine ⟨?_, ?_⟩

theorem P_sequentlaw31_alive {r : Bool} (e : sequentlaw31_alive = some r) : Pure Try.prog 37 [] (.bool r) := by
  unfold sequentlaw31_alive at e
  refine pure_of_awp (js := []) T_ok Try.func37 rfl (by decide +kernel) rfl ?_; (conv => whnf)
  obtain ⟨v1, qv1, e⟩ := bnd e
  refine said_pure (P_sequentlaw31_twice qv1) rfl ?_; (conv => whnf)
  obtain ⟨v2, qv2, e⟩ := bnd e
  refine said_pure (P_hash_Add qv2) rfl ?_; (conv => whnf)
  obtain ⟨v3, qv3, e⟩ := bnd e
  refine said_pure (P_hash_Size qv3) rfl ?_; (conv => whnf)
  obtain ⟨v4, qv4, e⟩ := bnd e
  refine said_pure (P_hash_Shared qv4) rfl ?_; (conv => whnf)
  obtain ⟨v5, qv5, e⟩ := bnd e
  refine said_pure (P_hash_Get qv5) rfl ?_; (conv => whnf)
  refine ⟨⟨⟨rfl, rfl⟩, ⟨⟨rfl, rfl⟩, trivial⟩⟩, ?_⟩; (conv => whnf)
  refine ⟨⟨⟨rfl, rfl⟩, ⟨⟨rfl, rfl⟩, trivial⟩⟩, ?_⟩; (conv => whnf)
  refine ⟨⟨⟨rfl, rfl⟩, ⟨⟨rfl, rfl⟩, trivial⟩⟩, ?_⟩; (conv => whnf)
  refine ⟨⟨⟨rfl, rfl⟩, ⟨⟨rfl, rfl⟩, trivial⟩⟩, ?_⟩; (conv => whnf)
  refine ⟨⟨⟨rfl, rfl⟩, ⟨⟨rfl, rfl⟩, ⟨⟨rfl, rfl⟩, ⟨⟨rfl, rfl⟩, trivial⟩⟩⟩⟩, ?_⟩; (conv => whnf)
  refine draw_rule [] T_ok mixed sequentlaw31_alive_pl6 (by decide +kernel) ?_; (conv => whnf)
  refine ⟨⟨fun h6 => ?_, fun h6 => ?_⟩⟩
  · replace e := ifp h6 e; (conv => whnf)
    refine ⟨⟨fun h7 => ?_, fun h7 => ?_⟩⟩
    · replace e := ifp h7 e; (conv => whnf)
      refine ⟨⟨fun h8 => ?_, fun h8 => ?_⟩⟩
      · replace e := ifp h8 e; (conv => whnf)
        refine ⟨⟨fun h9 => ?_, fun h9 => ?_⟩⟩
        · replace e := ifp h9 e; (conv => whnf)
          refine ⟨⟨fun h10 => ?_, fun h10 => ?_⟩⟩
          · replace e := ifp h10 e; (conv => whnf)
            refine ⟨⟨fun h11 => ?_, fun h11 => ?_⟩⟩
            · replace e := ifp h11 e; (conv => whnf)
              refine ⟨⟨fun h12 => ?_, fun h12 => ?_⟩⟩
              · replace e := ifp h12 e; (conv => whnf)
                obtain ⟨v13, qv13, e⟩ := bnd e
                refine said_pure (P_sequentlaw31_twice qv13) rfl ⟨Keeps.refl _ _, ?_⟩; (conv => whnf)
                obtain ⟨v14, qv14, e⟩ := bnd e
                refine said_pure (P_terms_Same qv14) rfl ⟨Keeps.refl _ _, ?_⟩; (conv => whnf)
                refine brK.split (fun hb15 => ?_) (fun hb15 => ?_)
                · replace e := ifpb hb15 e; (conv => whnf)
                  refine brK.tt hb15 ?_; (conv => whnf)
                  refine brK.tt hb15 ?_; (conv => whnf)
                  obtain ⟨v16, qv16, e⟩ := bnd e
                  first | (refine said_pure (P_sequentref31_Same qv16) rfl ⟨Keeps.refl _ _, ?_⟩) | (refine said_pure2 (P_sequentref31_Same qv16) rfl (by simp [ATermNode.Ds_all, ATypeNode.Ds_all, Tm.Ds_all, Ty.Ds_all, intDs_i64_all, AStore.D, ATermNode.D, ATypeNode.D, Tm.D, Ty.D, listAll] <;> (repeat' first | rfl | apply And.intro)) ⟨Keeps.refl _ _, ?_⟩)
                  (conv => whnf)
                  refine brK.tt hb15 ?_; (conv => whnf)
                  obtain rfl := sm e
                  repeat' first | exact rfl | exact trivial | refine ⟨?_, ?_⟩
                · replace e := ifnb hb15 e; (conv => whnf)
                  refine brK.ff hb15 ?_; (conv => whnf)
                  refine brK.ff hb15 ?_; (conv => whnf)
                  refine brK.ff hb15 ?_; (conv => whnf)
                  obtain rfl := sm e
                  repeat' first | exact rfl | exact trivial | refine ⟨?_, ?_⟩
              · replace e := ifn h12 e; (conv => whnf)
                obtain rfl := sm e
                repeat' first | exact rfl | exact trivial | refine ⟨?_, ?_⟩
            · replace e := ifn h11 e; (conv => whnf)
              obtain rfl := sm e
              repeat' first | exact rfl | exact trivial | refine ⟨?_, ?_⟩
          · replace e := ifn h10 e; (conv => whnf)
            obtain rfl := sm e
            repeat' first | exact rfl | exact trivial | refine ⟨?_, ?_⟩
        · replace e := ifn h9 e; (conv => whnf)
          obtain rfl := sm e
          repeat' first | exact rfl | exact trivial | refine ⟨?_, ?_⟩
      · replace e := ifn h8 e; (conv => whnf)
        obtain rfl := sm e
        repeat' first | exact rfl | exact trivial | refine ⟨?_, ?_⟩
    · replace e := ifn h7 e; (conv => whnf)
      obtain rfl := sm e
      repeat' first | exact rfl | exact trivial | refine ⟨?_, ?_⟩
  · replace e := ifn h6 e; (conv => whnf)
    obtain rfl := sm e
    repeat' first | exact rfl | exact trivial | refine ⟨?_, ?_⟩

def M_sequentref31_Great_l1 (rest1 : (List ATermNode)) (t4_1 : Int) (r : Bool) : Prop := ∀ (a0 : AStore) (k1 : Nat) (hd1 : rest1 = a0.terms.drop k1), LoopAt T Try.prog Try.f11 Fx0 [2, 4] [1, 1, 1, 1, 1, 0, 1, 0] (EP T Try.f11 (.bool r)) [(1, .ptr 0 0 0), (4, .d (.int .i64 t4_1)), (6, .d (.int .i64 (k1 : Int)))] [[.cells [.d (.slice 3 (ATypeNode.Ds a0.types)), .d (.slice 5 (ATermNode.Ds a0.terms))]]]
theorem G_sequentref31_Great_l1 : (∀ p r, sequentref31_Great_l1' p = some r → ∀ rest1 t4_1, (rest1, t4_1) = p → M_sequentref31_Great_l1 rest1 t4_1 r) := by
  refine sequentref31_Great_l1'.partial_correctness (fun (p : ((List ATermNode) × Int)) (r : Bool) => ∀ (rest1 : (List ATermNode)) (t4_1 : Int), (rest1, t4_1) = p → M_sequentref31_Great_l1 rest1 t4_1 r) ?_
  · intro f_sequentref31_Great_l1 ih_sequentref31_Great_l1 p r e rest1 t4_1 hp
    subst hp
    intro a0 k1 hd1
    refine RunsL.len_cell 0 1 rfl rfl rfl fun hlenk1 => ?_
    refine RunsL.of_awp (js := [2, 4]) T_ok ?_; (conv => whnf)
    have hls := ATermNode.Ds_len a0.terms
    cases rest1 with
    | nil =>
      have hk := drop_nil hd1
      refine ⟨⟨fun h => absurd h (by omega), fun _ => ?_⟩⟩; (conv => whnf)
      obtain rfl := sm e
      repeat' first | exact rfl | exact trivial | refine ⟨?_, ?_⟩
    | cons v7 rest1 =>
      obtain ⟨hxv7, hd1, hltv7⟩ := drop_head hd1
      refine ⟨⟨fun _ => ?_, fun h => absurd (by omega) h⟩⟩; (conv => whnf)
      refine ⟨k1, _, rfl, ATermNode.Ds_get hxv7, ?_⟩; (conv => whnf)
      obtain ⟨v8, qv8, e⟩ := bnd e
      refine ⟨v8, sm qv8, ?_⟩; (conv => whnf)
      refine ⟨k1, _, rfl, ATermNode.Ds_get hxv7, ?_⟩; (conv => whnf)
      refine ⟨⟨fun h9 => ?_, fun h9 => ?_⟩⟩
      · replace e := ifp (by first | exact h9 | simpa [ATermNode.Ds_all, ATypeNode.Ds_all, intDs_i64_all, AStore.D, ATermNode.D, ATypeNode.D, listAll] using h9) e; (conv => whnf)
        obtain rfl := sm e
        repeat' first | exact rfl | exact trivial | refine ⟨?_, ?_⟩
      · replace e := ifn (by first | exact h9 | simpa [ATermNode.Ds_all, ATypeNode.Ds_all, intDs_i64_all, AStore.D, ATermNode.D, ATypeNode.D, listAll] using h9) e; (conv => whnf)
        refine ⟨⟨fun h10 => ?_, fun h10 => ?_⟩⟩
        · replace e := ifp h10 e; (conv => whnf)
          obtain rfl := sm e
          repeat' first | exact rfl | exact trivial | refine ⟨?_, ?_⟩
        · replace e := ifn h10 e; (conv => whnf)
          refine ⟨((k1 + 1 : Nat) : Int), wrap64e (by omega) (by omega) (by omega), ?_⟩; (conv => whnf)
          refine (RunsL.weak ((ih_sequentref31_Great_l1 _ _ e _ _ rfl) a0 (k1 + 1) hd1) ?_)
          repeat' first | exact wk.of_eq rfl | exact wk.pure rfl | exact wk.un _ | exact wk.hold _ _ _ | exact rfl | exact trivial | refine ⟨?_, ?_⟩
theorem P_sequentref31_Great_l1 {rest1 : (List ATermNode)} {t4_1 : Int} {r : Bool} (e : sequentref31_Great_l1 rest1 t4_1 = some r) : M_sequentref31_Great_l1 rest1 t4_1 r := G_sequentref31_Great_l1 _ _ e _ _ rfl

def M_sequentref31_Great_l0 (rest0 : (List ATypeNode)) (t4_0 : Int) (a0 : AStore) (r : Bool) : Prop := ∀ (k0 : Nat) (hd0 : rest0 = a0.types.drop k0), LoopAt T Try.prog Try.f11 Fx0 [2, 4] [1, 1, 1, 1, 0, 1, 0] (EP T Try.f11 (.bool r)) [(1, .ptr 0 0 0), (4, .d (.int .i64 t4_0)), (5, .d (.int .i64 (k0 : Int)))] [[.cells [.d (.slice 3 (ATypeNode.Ds a0.types)), .d (.slice 5 (ATermNode.Ds a0.terms))]]]
theorem G_sequentref31_Great_l0 : (∀ p r, sequentref31_Great_l0' p = some r → ∀ rest0 t4_0 a0, (rest0, t4_0, a0) = p → M_sequentref31_Great_l0 rest0 t4_0 a0 r) := by
  refine sequentref31_Great_l0'.partial_correctness (fun (p : ((List ATypeNode) × Int × AStore)) (r : Bool) => ∀ (rest0 : (List ATypeNode)) (t4_0 : Int) (a0 : AStore), (rest0, t4_0, a0) = p → M_sequentref31_Great_l0 rest0 t4_0 a0 r) ?_
  · intro f_sequentref31_Great_l0 ih_sequentref31_Great_l0 p r e rest0 t4_0 a0 hp
    subst hp
    intro k0 hd0
    refine RunsL.len_cell 0 0 rfl rfl rfl fun hlenk0 => ?_
    refine RunsL.of_awp (js := [2, 4]) T_ok ?_; (conv => whnf)
    have hls := ATypeNode.Ds_len a0.types
    cases rest0 with
    | nil =>
      have hk := drop_nil hd0
      refine ⟨⟨fun h => absurd h (by omega), fun _ => ?_⟩⟩; (conv => whnf)
      refine RunsL.runs (RunsL.weak ((P_sequentref31_Great_l1 e) a0 0 (by simp)) ?_)
      repeat' first | exact wk.of_eq rfl | exact wk.pure rfl | exact wk.un _ | exact wk.hold _ _ _ | exact rfl | exact trivial | refine ⟨?_, ?_⟩
    | cons v6 rest0 =>
      obtain ⟨hxv6, hd0, hltv6⟩ := drop_head hd0
      refine ⟨⟨fun _ => ?_, fun h => absurd (by omega) h⟩⟩; (conv => whnf)
      refine ⟨k0, _, rfl, ATypeNode.Ds_get hxv6, ?_⟩; (conv => whnf)
      obtain ⟨v7, qv7, e⟩ := bnd e
      refine ⟨v7, sm qv7, ?_⟩; (conv => whnf)
      refine ⟨k0, _, rfl, ATypeNode.Ds_get hxv6, ?_⟩; (conv => whnf)
      refine ⟨⟨fun h8 => ?_, fun h8 => ?_⟩⟩
      · replace e := ifp (by first | exact h8 | simpa [ATermNode.Ds_all, ATypeNode.Ds_all, intDs_i64_all, AStore.D, ATermNode.D, ATypeNode.D, listAll] using h8) e; (conv => whnf)
        obtain rfl := sm e
        repeat' first | exact rfl | exact trivial | refine ⟨?_, ?_⟩
      · replace e := ifn (by first | exact h8 | simpa [ATermNode.Ds_all, ATypeNode.Ds_all, intDs_i64_all, AStore.D, ATermNode.D, ATypeNode.D, listAll] using h8) e; (conv => whnf)
        refine ⟨⟨fun h9 => ?_, fun h9 => ?_⟩⟩
        · replace e := ifp h9 e; (conv => whnf)
          obtain rfl := sm e
          repeat' first | exact rfl | exact trivial | refine ⟨?_, ?_⟩
        · replace e := ifn h9 e; (conv => whnf)
          refine ⟨((k0 + 1 : Nat) : Int), wrap64e (by omega) (by omega) (by omega), ?_⟩; (conv => whnf)
          refine (RunsL.weak ((ih_sequentref31_Great_l0 _ _ e _ _ _ rfl) (k0 + 1) hd0) ?_)
          repeat' first | exact wk.of_eq rfl | exact wk.pure rfl | exact wk.un _ | exact wk.hold _ _ _ | exact rfl | exact trivial | refine ⟨?_, ?_⟩
theorem P_sequentref31_Great_l0 {rest0 : (List ATypeNode)} {t4_0 : Int} {a0 : AStore} {r : Bool} (e : sequentref31_Great_l0 rest0 t4_0 a0 = some r) : M_sequentref31_Great_l0 rest0 t4_0 a0 r := G_sequentref31_Great_l0 _ _ e _ _ _ rfl

theorem P_sequentref31_Great_j1 {a0 : AStore} {r : Bool} (e : sequentref31_Great_j1 a0 = some r) : JoinAt T Try.prog Try.f11 Fx0 [2, 4] [1, 1, 1, 0] (EP T Try.f11 (.bool r)) [(1, .ptr 0 0 0)] [[.cells [.d (.slice 3 (ATypeNode.Ds a0.types)), .d (.slice 5 (ATermNode.Ds a0.terms))]]] := by
  unfold sequentref31_Great_j1 at e
  refine Runs.enter T_ok ?_; (conv => whnf)
  refine RunsL.runs (RunsL.weak ((P_sequentref31_Great_l0 e) 0 (by simp)) ?_)
  repeat' first | exact wk.of_eq rfl | exact wk.pure rfl | exact wk.un _ | exact wk.hold _ _ _ | exact rfl | exact trivial | refine ⟨?_, ?_⟩

theorem P_sequentref31_Great_j0 {t3_2 : Bool} {a0 : AStore} {r : Bool} (e : sequentref31_Great_j0 t3_2 a0 = some r) : JoinAt T Try.prog Try.f11 Fx0 [2, 4] [1, 1, 0, 0] (EP T Try.f11 (.bool r)) [(1, .ptr 0 0 0), (3, .d (.bool t3_2))] [[.cells [.d (.slice 3 (ATypeNode.Ds a0.types)), .d (.slice 5 (ATermNode.Ds a0.terms))]]] := by
  unfold sequentref31_Great_j0 at e
  refine Runs.enter T_ok ?_; (conv => whnf)
  refine ⟨⟨fun h4 => ?_, fun h4 => ?_⟩⟩
  · replace e := ifp (by first | exact h4 | simpa [ATermNode.Ds_all, ATypeNode.Ds_all, intDs_i64_all, AStore.D, ATermNode.D, ATypeNode.D, listAll] using h4) e; (conv => whnf)
    obtain rfl := sm e
    repeat' first | exact rfl | exact trivial | refine ⟨?_, ?_⟩
  · replace e := ifn (by first | exact h4 | simpa [ATermNode.Ds_all, ATypeNode.Ds_all, intDs_i64_all, AStore.D, ATermNode.D, ATypeNode.D, listAll] using h4) e; (conv => whnf)
    refine ⟨⟨fun h5 => ?_, fun h5 => ?_⟩⟩
    · replace e := ifp (by first | exact h5 | simpa [ATermNode.Ds_all, ATypeNode.Ds_all, intDs_i64_all, AStore.D, ATermNode.D, ATypeNode.D, listAll] using h5) e; (conv => whnf)
      obtain rfl := sm e
      repeat' first | exact rfl | exact trivial | refine ⟨?_, ?_⟩
    · replace e := ifn (by first | exact h5 | simpa [ATermNode.Ds_all, ATypeNode.Ds_all, intDs_i64_all, AStore.D, ATermNode.D, ATypeNode.D, listAll] using h5) e; (conv => whnf)
      refine brK.nsplit (fun hb6 => ?_) (fun hb6 => ?_)
      · replace e := ifpb hb6 e; (conv => whnf)
        refine brK.ntt hb6 ?_; (conv => whnf)
        refine brK.ntt hb6 ?_; (conv => whnf)
        refine brK.ntt hb6 ?_; (conv => whnf)
        refine brK.ntt hb6 ?_; (conv => whnf)
        refine brK.ntt hb6 ?_; (conv => whnf)
        refine brK.ntt hb6 ?_; (conv => whnf)
        refine Runs.weak (P_sequentref31_Great_j1 e) ?_
        repeat' first | exact wk.of_eq rfl | exact wk.pure rfl | exact wk.un _ | exact wk.hold _ _ _ | exact rfl | exact trivial | refine ⟨?_, ?_⟩
      · replace e := ifnb hb6 e; (conv => whnf)
        refine brK.nff hb6 ?_; (conv => whnf)
        refine brK.nff hb6 ?_; (conv => whnf)
        refine brK.nff hb6 ?_; (conv => whnf)
        refine ⟨⟨fun h7 => ?_, fun h7 => ?_⟩⟩
        · replace e := ifp (by first | exact h7 | simpa [ATermNode.Ds_all, ATypeNode.Ds_all, intDs_i64_all, AStore.D, ATermNode.D, ATypeNode.D, listAll] using h7) e; (conv => whnf)
          refine brK.nff hb6 ?_; (conv => whnf)
          refine brK.nff hb6 ?_; (conv => whnf)
          refine brK.nff hb6 ?_; (conv => whnf)
          obtain rfl := sm e
          repeat' first | exact rfl | exact trivial | refine ⟨?_, ?_⟩
        · replace e := ifn (by first | exact h7 | simpa [ATermNode.Ds_all, ATypeNode.Ds_all, intDs_i64_all, AStore.D, ATermNode.D, ATypeNode.D, listAll] using h7) e; (conv => whnf)
          refine brK.nff hb6 ?_; (conv => whnf)
          refine ⟨⟨fun h8 => ?_, fun h8 => ?_⟩⟩
          · replace e := ifp (by first | exact h8 | simpa [ATermNode.Ds_all, ATypeNode.Ds_all, intDs_i64_all, AStore.D, ATermNode.D, ATypeNode.D, listAll] using h8) e; (conv => whnf)
            refine brK.nff hb6 ?_; (conv => whnf)
            refine brK.nff hb6 ?_; (conv => whnf)
            obtain rfl := sm e
            repeat' first | exact rfl | exact trivial | refine ⟨?_, ?_⟩
          · replace e := ifn (by first | exact h8 | simpa [ATermNode.Ds_all, ATypeNode.Ds_all, intDs_i64_all, AStore.D, ATermNode.D, ATypeNode.D, listAll] using h8) e; (conv => whnf)
            refine brK.nff hb6 ?_; (conv => whnf)
            refine brK.nff hb6 ?_; (conv => whnf)
            refine Runs.weak (P_sequentref31_Great_j1 e) ?_
            repeat' first | exact wk.of_eq rfl | exact wk.pure rfl | exact wk.un _ | exact wk.hold _ _ _ | exact rfl | exact trivial | refine ⟨?_, ?_⟩

theorem P_sequentref31_Great {a0 : AStore} {r : Bool} (e : sequentref31_Great a0 = some r) : Pure Try.prog 11 [(AStore.D a0)] (.bool r) := by
  unfold sequentref31_Great at e
  refine pure_of_awp (js := [2, 4]) T_ok Try.func11 rfl (by decide +kernel) rfl ?_; (conv => whnf)
  refine ⟨⟨fun h1 => ?_, fun h1 => ?_⟩⟩
  · replace e := ifp (by first | exact h1 | simpa [ATermNode.Ds_all, ATypeNode.Ds_all, intDs_i64_all, AStore.D, ATermNode.D, ATypeNode.D, listAll] using h1) e; (conv => whnf)
    refine Runs.weak (P_sequentref31_Great_j0 e) ?_
    repeat' first | exact wk.of_eq rfl | exact wk.pure rfl | exact wk.un _ | exact wk.hold _ _ _ | exact rfl | exact trivial | refine ⟨?_, ?_⟩
  · replace e := ifn (by first | exact h1 | simpa [ATermNode.Ds_all, ATypeNode.Ds_all, intDs_i64_all, AStore.D, ATermNode.D, ATypeNode.D, listAll] using h1) e; (conv => whnf)
    refine ⟨⟨fun h2 => ?_, fun h2 => ?_⟩⟩
    · replace e := ifp (by first | exact h2 | simpa [ATermNode.Ds_all, ATypeNode.Ds_all, intDs_i64_all, AStore.D, ATermNode.D, ATypeNode.D, listAll] using h2) e; (conv => whnf)
      refine Runs.weak (P_sequentref31_Great_j0 e) ?_
      repeat' first | exact wk.of_eq rfl | exact wk.pure rfl | exact wk.un _ | exact wk.hold _ _ _ | exact rfl | exact trivial | refine ⟨?_, ?_⟩
    · replace e := ifn (by first | exact h2 | simpa [ATermNode.Ds_all, ATypeNode.Ds_all, intDs_i64_all, AStore.D, ATermNode.D, ATypeNode.D, listAll] using h2) e; (conv => whnf)
      refine Runs.weak (P_sequentref31_Great_j0 e) ?_
      repeat' first | exact wk.of_eq rfl | exact wk.pure rfl | exact wk.un _ | exact wk.hold _ _ _ | exact rfl | exact trivial | refine ⟨?_, ?_⟩

def M_sequentref01_count (a0 : Ty) (a1 : Int) (a2 : Int) (r : Int) : Prop := Pure Try.prog 42 [(Ty.D a0), (.int .i64 a1), (.int .i64 a2)] (.int .i64 r)
def M_sequentref01_count_l0 (rest0 : (List Ty)) (t1_0 : Int) (a2 : Int) (r : Int) : Prop := ∀ (a0 : Ty) (k0 : Nat) (hd0 : rest0 = a0.args.drop k0), LoopAt T Try.prog Try.f42 Fx0 [] [1, 1, 1, 0, 1, 0] (EP T Try.f42 (.int .i64 r)) [(1, .d (.int .i64 t1_0)), (2, .d (.int .i64 a2)), (3, .ptr 0 0 0), (7, .d (.int .i64 (k0 : Int)))] [[.cells [.d (.bool a0.v), .d (.str a0.name), .d (.slice 3 (Ty.Ds a0.args))]]]
theorem G_sequentref01_count : (∀ p r, sequentref01_count' p = some r → ∀ a0 a1 a2, (a0, a1, a2) = p → M_sequentref01_count a0 a1 a2 r) ∧
    (∀ p r, sequentref01_count_l0' p = some r → ∀ rest0 t1_0 a2, (rest0, t1_0, a2) = p → M_sequentref01_count_l0 rest0 t1_0 a2 r) := by
  refine sequentref01_count'.mutual_partial_correctness (fun (p : (Ty × Int × Int)) (r : Int) => ∀ (a0 : Ty) (a1 : Int) (a2 : Int), (a0, a1, a2) = p → M_sequentref01_count a0 a1 a2 r) (fun (p : ((List Ty) × Int × Int)) (r : Int) => ∀ (rest0 : (List Ty)) (t1_0 : Int) (a2 : Int), (rest0, t1_0, a2) = p → M_sequentref01_count_l0 rest0 t1_0 a2 r) ?_ ?_
  · intro f_sequentref01_count_l0 ih_sequentref01_count_l0 p r e a0 a1 a2 hp
    subst hp
    refine pure_of_awp (js := []) T_ok Try.func42 rfl (by decide +kernel) rfl ?_; (conv => whnf)
    refine ⟨⟨fun h1 => ?_, fun h1 => ?_⟩⟩
    · replace e := ifp h1 e; (conv => whnf)
      obtain rfl := sm e
      repeat' first | exact rfl | exact trivial | refine ⟨?_, ?_⟩
    · replace e := ifn h1 e; (conv => whnf)
      obtain ⟨v2, qv2, e⟩ := bnd e
      refine ⟨v2, sm qv2, ?_⟩; (conv => whnf)
      obtain ⟨v3, qv3, e⟩ := bnd e
      refine ⟨by decide, v3, sm qv3, ?_⟩; (conv => whnf)
      obtain ⟨v4, qv4, e⟩ := bnd e
      refine ⟨v4, sm qv4, ?_⟩; (conv => whnf)
      refine RunsL.runs (RunsL.weak ((ih_sequentref01_count_l0 _ _ e _ _ _ rfl) a0 0 (by simp)) ?_)
      repeat' first | exact wk.of_eq rfl | exact wk.pure rfl | exact wk.un _ | exact wk.hold _ _ _ | exact rfl | exact trivial | refine ⟨?_, ?_⟩
  · intro f_sequentref01_count f_sequentref01_count_l0 ih_sequentref01_count ih_sequentref01_count_l0 p r e rest0 t1_0 a2 hp
    subst hp
    intro a0 k0 hd0
    refine RunsL.len_cell 0 2 rfl rfl rfl fun hlenk0 => ?_
    refine RunsL.of_awp (js := []) T_ok ?_; (conv => whnf)
    have hls := Ty.Ds_len a0.args
    cases rest0 with
    | nil =>
      have hk := drop_nil hd0
      refine ⟨⟨fun h => absurd h (by omega), fun _ => ?_⟩⟩; (conv => whnf)
      obtain rfl := sm e
      repeat' first | exact rfl | exact trivial | refine ⟨?_, ?_⟩
    | cons v8 rest0 =>
      obtain ⟨hxv8, hd0, hltv8⟩ := drop_head hd0
      refine ⟨⟨fun _ => ?_, fun h => absurd (by omega) h⟩⟩; (conv => whnf)
      refine ⟨⟨fun h9 => ?_, fun h9 => ?_⟩⟩
      · replace e := ifp h9 e; (conv => whnf)
        refine ⟨k0, _, rfl, Ty.Ds_get hxv8, ?_⟩; (conv => whnf)
        refine ⟨Ty.Ds_fit _ rfl rfl, ?_⟩; (conv => whnf)
        obtain ⟨v10, qv10, e⟩ := bnd e
        refine ⟨v10, sm qv10, ?_⟩; (conv => whnf)
        obtain ⟨v11, qv11, e⟩ := bnd e
        refine said_pure (ih_sequentref01_count _ _ qv11 _ _ _ rfl) rfl ?_; (conv => whnf)
        refine ⟨((k0 + 1 : Nat) : Int), wrap64e (by omega) (by omega) (by omega), ?_⟩; (conv => whnf)
        refine (RunsL.weak ((ih_sequentref01_count_l0 _ _ e _ _ _ rfl) a0 (k0 + 1) hd0) ?_)
        repeat' first | exact wk.of_eq rfl | exact wk.pure rfl | exact wk.un _ | exact wk.hold _ _ _ | exact rfl | exact trivial | refine ⟨?_, ?_⟩
      · replace e := ifn h9 e; (conv => whnf)
        obtain rfl := sm e
        repeat' first | exact rfl | exact trivial | refine ⟨?_, ?_⟩
theorem P_sequentref01_count {a0 : Ty} {a1 : Int} {a2 : Int} {r : Int} (e : sequentref01_count a0 a1 a2 = some r) : M_sequentref01_count a0 a1 a2 r := G_sequentref01_count.1 _ _ e _ _ _ rfl
theorem P_sequentref01_count_l0 {rest0 : (List Ty)} {t1_0 : Int} {a2 : Int} {r : Int} (e : sequentref01_count_l0 rest0 t1_0 a2 = some r) : M_sequentref01_count_l0 rest0 t1_0 a2 r := G_sequentref01_count.2 _ _ e _ _ _ rfl

theorem P_sequentref01_Great {a0 : Ty} {r : Bool} (e : sequentref01_Great a0 = some r) : Pure Try.prog 12 [(Ty.D a0)] (.bool r) := by
  unfold sequentref01_Great at e
  refine pure_of_awp (js := []) T_ok Try.func12 rfl (by decide +kernel) rfl ?_; (conv => whnf)
  obtain ⟨v1, qv1, e⟩ := bnd e
  refine said_pure (P_sequentref01_count qv1) rfl ?_; (conv => whnf)
  refine test.dec ?_; (conv => whnf)
  obtain rfl := sm e
  repeat' first | exact rfl | exact trivial | refine ⟨?_, ?_⟩

def M_sequentref02_count (a0 : Tm) (a1 : Int) (a2 : Int) (r : Int) : Prop := Pure Try.prog 80 [(Tm.D a0), (.int .i64 a1), (.int .i64 a2)] (.int .i64 r)
def M_sequentref02_count_l0 (rest0 : (List Tm)) (t1_0 : Int) (a2 : Int) (r : Int) : Prop := ∀ (a0 : Tm) (k0 : Nat) (hd0 : rest0 = a0.sub.drop k0), LoopAt T Try.prog Try.f80 Fx0 [] [1, 1, 1, 0, 1, 0] (EP T Try.f80 (.int .i64 r)) [(1, .d (.int .i64 t1_0)), (2, .d (.int .i64 a2)), (3, .ptr 0 0 0), (7, .d (.int .i64 (k0 : Int)))] [[.cells [.d (.int .u8 a0.kind), .d (.str a0.name), .d (.bool a0.ty.v), .d (.str a0.ty.name), .d (.slice 3 (Ty.Ds a0.ty.args)), .d (.int .i64 a0.index), .d (.slice 7 (Tm.Ds a0.sub))]]]
theorem G_sequentref02_count : (∀ p r, sequentref02_count' p = some r → ∀ a0 a1 a2, (a0, a1, a2) = p → M_sequentref02_count a0 a1 a2 r) ∧
    (∀ p r, sequentref02_count_l0' p = some r → ∀ rest0 t1_0 a2, (rest0, t1_0, a2) = p → M_sequentref02_count_l0 rest0 t1_0 a2 r) := by
  refine sequentref02_count'.mutual_partial_correctness (fun (p : (Tm × Int × Int)) (r : Int) => ∀ (a0 : Tm) (a1 : Int) (a2 : Int), (a0, a1, a2) = p → M_sequentref02_count a0 a1 a2 r) (fun (p : ((List Tm) × Int × Int)) (r : Int) => ∀ (rest0 : (List Tm)) (t1_0 : Int) (a2 : Int), (rest0, t1_0, a2) = p → M_sequentref02_count_l0 rest0 t1_0 a2 r) ?_ ?_
  · intro f_sequentref02_count_l0 ih_sequentref02_count_l0 p r e a0 a1 a2 hp
    subst hp
    refine pure_of_awp (js := []) T_ok Try.func80 rfl (by decide +kernel) rfl ?_; (conv => whnf)
    refine ⟨⟨fun h1 => ?_, fun h1 => ?_⟩⟩
    · replace e := ifp h1 e; (conv => whnf)
      obtain rfl := sm e
      repeat' first | exact rfl | exact trivial | refine ⟨?_, ?_⟩
    · replace e := ifn h1 e; (conv => whnf)
      obtain ⟨v2, qv2, e⟩ := bnd e
      refine said_pure (P_sequentref01_Great qv2) rfl ?_; (conv => whnf)
      refine brK.split (fun hb3 => ?_) (fun hb3 => ?_)
      · replace e := ifpb hb3 e; (conv => whnf)
        obtain rfl := sm e
        repeat' first | exact rfl | exact trivial | refine ⟨?_, ?_⟩
      · replace e := ifnb hb3 e; (conv => whnf)
        obtain ⟨v4, qv4, e⟩ := bnd e
        refine ⟨v4, sm qv4, ?_⟩; (conv => whnf)
        obtain ⟨v5, qv5, e⟩ := bnd e
        refine ⟨by decide, v5, sm qv5, ?_⟩; (conv => whnf)
        obtain ⟨v6, qv6, e⟩ := bnd e
        refine ⟨v6, sm qv6, ?_⟩; (conv => whnf)
        refine RunsL.runs (RunsL.weak ((ih_sequentref02_count_l0 _ _ e _ _ _ rfl) a0 0 (by simp)) ?_)
        repeat' first | exact wk.of_eq rfl | exact wk.pure rfl | exact wk.un _ | exact wk.hold _ _ _ | exact rfl | exact trivial | refine ⟨?_, ?_⟩
  · intro f_sequentref02_count f_sequentref02_count_l0 ih_sequentref02_count ih_sequentref02_count_l0 p r e rest0 t1_0 a2 hp
    subst hp
    intro a0 k0 hd0
    refine RunsL.len_cell 0 6 rfl rfl rfl fun hlenk0 => ?_
    refine RunsL.of_awp (js := []) T_ok ?_; (conv => whnf)
    have hls := Tm.Ds_len a0.sub
    cases rest0 with
    | nil =>
      have hk := drop_nil hd0
      refine ⟨⟨fun h => absurd h (by omega), fun _ => ?_⟩⟩; (conv => whnf)
      obtain rfl := sm e
      repeat' first | exact rfl | exact trivial | refine ⟨?_, ?_⟩
    | cons v8 rest0 =>
      obtain ⟨hxv8, hd0, hltv8⟩ := drop_head hd0
      refine ⟨⟨fun _ => ?_, fun h => absurd (by omega) h⟩⟩; (conv => whnf)
      refine ⟨⟨fun h9 => ?_, fun h9 => ?_⟩⟩
      · replace e := ifp h9 e; (conv => whnf)
        refine ⟨k0, _, rfl, Tm.Ds_get hxv8, ?_⟩; (conv => whnf)
        refine ⟨Tm.Ds_fit _ rfl rfl, ?_⟩; (conv => whnf)
        obtain ⟨v10, qv10, e⟩ := bnd e
        refine ⟨v10, sm qv10, ?_⟩; (conv => whnf)
        obtain ⟨v11, qv11, e⟩ := bnd e
        refine said_pure (ih_sequentref02_count _ _ qv11 _ _ _ rfl) rfl ?_; (conv => whnf)
        refine ⟨((k0 + 1 : Nat) : Int), wrap64e (by omega) (by omega) (by omega), ?_⟩; (conv => whnf)
        refine (RunsL.weak ((ih_sequentref02_count_l0 _ _ e _ _ _ rfl) a0 (k0 + 1) hd0) ?_)
        repeat' first | exact wk.of_eq rfl | exact wk.pure rfl | exact wk.un _ | exact wk.hold _ _ _ | exact rfl | exact trivial | refine ⟨?_, ?_⟩
      · replace e := ifn h9 e; (conv => whnf)
        obtain rfl := sm e
        repeat' first | exact rfl | exact trivial | refine ⟨?_, ?_⟩
theorem P_sequentref02_count {a0 : Tm} {a1 : Int} {a2 : Int} {r : Int} (e : sequentref02_count a0 a1 a2 = some r) : M_sequentref02_count a0 a1 a2 r := G_sequentref02_count.1 _ _ e _ _ _ rfl
theorem P_sequentref02_count_l0 {rest0 : (List Tm)} {t1_0 : Int} {a2 : Int} {r : Int} (e : sequentref02_count_l0 rest0 t1_0 a2 = some r) : M_sequentref02_count_l0 rest0 t1_0 a2 r := G_sequentref02_count.2 _ _ e _ _ _ rfl

def M_sequentref02_Size (a0 : Tm) (r : Int) : Prop := Pure Try.prog 38 [(Tm.D a0)] (.int .i64 r)
def M_sequentref02_Size_l0 (rest0 : (List Tm)) (t3_0 : Int) (r : Int) : Prop := ∀ (a0 : Tm) (k0 : Nat) (hd0 : rest0 = a0.sub.drop k0), LoopAt T Try.prog Try.f38 Fx0 [] [1, 1, 0, 1, 0] (EP T Try.f38 (.int .i64 r)) [(1, .ptr 0 0 0), (3, .d (.int .i64 t3_0)), (4, .d (.int .i64 (k0 : Int)))] [[.cells [.d (.int .u8 a0.kind), .d (.str a0.name), .d (.bool a0.ty.v), .d (.str a0.ty.name), .d (.slice 3 (Ty.Ds a0.ty.args)), .d (.int .i64 a0.index), .d (.slice 7 (Tm.Ds a0.sub))]]]
theorem G_sequentref02_Size : (∀ p r, sequentref02_Size' p = some r → ∀ a0, a0 = p → M_sequentref02_Size a0 r) ∧
    (∀ p r, sequentref02_Size_l0' p = some r → ∀ rest0 t3_0, (rest0, t3_0) = p → M_sequentref02_Size_l0 rest0 t3_0 r) := by
  refine sequentref02_Size'.mutual_partial_correctness (fun (p : Tm) (r : Int) => ∀ (a0 : Tm), a0 = p → M_sequentref02_Size a0 r) (fun (p : ((List Tm) × Int)) (r : Int) => ∀ (rest0 : (List Tm)) (t3_0 : Int), (rest0, t3_0) = p → M_sequentref02_Size_l0 rest0 t3_0 r) ?_ ?_
  · intro f_sequentref02_Size_l0 ih_sequentref02_Size_l0 p r e a0 hp
    subst hp
    refine pure_of_awp (js := []) T_ok Try.func38 rfl (by decide +kernel) rfl ?_; (conv => whnf)
    refine RunsL.runs (RunsL.weak ((ih_sequentref02_Size_l0 _ _ e _ _ rfl) a0 0 (by simp)) ?_)
    repeat' first | exact wk.of_eq rfl | exact wk.pure rfl | exact wk.un _ | exact wk.hold _ _ _ | exact rfl | exact trivial | refine ⟨?_, ?_⟩
  · intro f_sequentref02_Size f_sequentref02_Size_l0 ih_sequentref02_Size ih_sequentref02_Size_l0 p r e rest0 t3_0 hp
    subst hp
    intro a0 k0 hd0
    refine RunsL.len_cell 0 6 rfl rfl rfl fun hlenk0 => ?_
    refine RunsL.of_awp (js := []) T_ok ?_; (conv => whnf)
    have hls := Tm.Ds_len a0.sub
    cases rest0 with
    | nil =>
      have hk := drop_nil hd0
      refine ⟨⟨fun h => absurd h (by omega), fun _ => ?_⟩⟩; (conv => whnf)
      obtain rfl := sm e
      repeat' first | exact rfl | exact trivial | refine ⟨?_, ?_⟩
    | cons v5 rest0 =>
      obtain ⟨hxv5, hd0, hltv5⟩ := drop_head hd0
      refine ⟨⟨fun _ => ?_, fun h => absurd (by omega) h⟩⟩; (conv => whnf)
      refine ⟨k0, _, rfl, Tm.Ds_get hxv5, ?_⟩; (conv => whnf)
      refine ⟨Tm.Ds_fit _ rfl rfl, ?_⟩; (conv => whnf)
      obtain ⟨v6, qv6, e⟩ := bnd e
      refine said_pure (ih_sequentref02_Size _ _ qv6 _ rfl) rfl ?_; (conv => whnf)
      obtain ⟨v7, qv7, e⟩ := bnd e
      refine ⟨v7, sm qv7, ?_⟩; (conv => whnf)
      refine ⟨((k0 + 1 : Nat) : Int), wrap64e (by omega) (by omega) (by omega), ?_⟩; (conv => whnf)
      refine (RunsL.weak ((ih_sequentref02_Size_l0 _ _ e _ _ rfl) a0 (k0 + 1) hd0) ?_)
      repeat' first | exact wk.of_eq rfl | exact wk.pure rfl | exact wk.un _ | exact wk.hold _ _ _ | exact rfl | exact trivial | refine ⟨?_, ?_⟩
theorem P_sequentref02_Size {a0 : Tm} {r : Int} (e : sequentref02_Size a0 = some r) : M_sequentref02_Size a0 r := G_sequentref02_Size.1 _ _ e _ rfl
theorem P_sequentref02_Size_l0 {rest0 : (List Tm)} {t3_0 : Int} {r : Int} (e : sequentref02_Size_l0 rest0 t3_0 = some r) : M_sequentref02_Size_l0 rest0 t3_0 r := G_sequentref02_Size.2 _ _ e _ _ rfl

def M_sequentref02_Depth (a0 : Tm) (r : Int) : Prop := Pure Try.prog 102 [(Tm.D a0)] (.int .i64 r)
def M_sequentref02_Depth_l0 (rest0 : (List Tm)) (t3_0 : Int) (r : Int) : Prop := ∀ (a0 : Tm) (k0 : Nat) (hd0 : rest0 = a0.sub.drop k0), LoopAt T Try.prog Try.f102 Fx0 [] [1, 1, 0, 1, 0] (EP T Try.f102 (.int .i64 r)) [(1, .ptr 0 0 0), (3, .d (.int .i64 t3_0)), (4, .d (.int .i64 (k0 : Int)))] [[.cells [.d (.int .u8 a0.kind), .d (.str a0.name), .d (.bool a0.ty.v), .d (.str a0.ty.name), .d (.slice 3 (Ty.Ds a0.ty.args)), .d (.int .i64 a0.index), .d (.slice 7 (Tm.Ds a0.sub))]]]
theorem G_sequentref02_Depth : (∀ p r, sequentref02_Depth' p = some r → ∀ a0, a0 = p → M_sequentref02_Depth a0 r) ∧
    (∀ p r, sequentref02_Depth_l0' p = some r → ∀ rest0 t3_0, (rest0, t3_0) = p → M_sequentref02_Depth_l0 rest0 t3_0 r) := by
  refine sequentref02_Depth'.mutual_partial_correctness (fun (p : Tm) (r : Int) => ∀ (a0 : Tm), a0 = p → M_sequentref02_Depth a0 r) (fun (p : ((List Tm) × Int)) (r : Int) => ∀ (rest0 : (List Tm)) (t3_0 : Int), (rest0, t3_0) = p → M_sequentref02_Depth_l0 rest0 t3_0 r) ?_ ?_
  · intro f_sequentref02_Depth_l0 ih_sequentref02_Depth_l0 p r e a0 hp
    subst hp
    refine pure_of_awp (js := []) T_ok Try.func102 rfl (by decide +kernel) rfl ?_; (conv => whnf)
    refine RunsL.runs (RunsL.weak ((ih_sequentref02_Depth_l0 _ _ e _ _ rfl) a0 0 (by simp)) ?_)
    repeat' first | exact wk.of_eq rfl | exact wk.pure rfl | exact wk.un _ | exact wk.hold _ _ _ | exact rfl | exact trivial | refine ⟨?_, ?_⟩
  · intro f_sequentref02_Depth f_sequentref02_Depth_l0 ih_sequentref02_Depth ih_sequentref02_Depth_l0 p r e rest0 t3_0 hp
    subst hp
    intro a0 k0 hd0
    refine RunsL.len_cell 0 6 rfl rfl rfl fun hlenk0 => ?_
    refine RunsL.of_awp (js := []) T_ok ?_; (conv => whnf)
    have hls := Tm.Ds_len a0.sub
    cases rest0 with
    | nil =>
      have hk := drop_nil hd0
      refine ⟨⟨fun h => absurd h (by omega), fun _ => ?_⟩⟩; (conv => whnf)
      obtain ⟨v6, qv6, e⟩ := bnd e
      refine ⟨v6, sm qv6, ?_⟩; (conv => whnf)
      obtain rfl := sm e
      repeat' first | exact rfl | exact trivial | refine ⟨?_, ?_⟩
    | cons v5 rest0 =>
      obtain ⟨hxv5, hd0, hltv5⟩ := drop_head hd0
      refine ⟨⟨fun _ => ?_, fun h => absurd (by omega) h⟩⟩; (conv => whnf)
      refine ⟨k0, _, rfl, Tm.Ds_get hxv5, ?_⟩; (conv => whnf)
      refine ⟨Tm.Ds_fit _ rfl rfl, ?_⟩; (conv => whnf)
      obtain ⟨v6, qv6, e⟩ := bnd e
      refine said_pure (ih_sequentref02_Depth _ _ qv6 _ rfl) rfl ?_; (conv => whnf)
      refine ⟨((k0 + 1 : Nat) : Int), wrap64e (by omega) (by omega) (by omega), ?_⟩; (conv => whnf)
      refine (RunsL.weak ((ih_sequentref02_Depth_l0 _ _ e _ _ rfl) a0 (k0 + 1) hd0) ?_)
      repeat' first | exact wk.of_eq rfl | exact wk.pure rfl | exact wk.un _ | exact wk.hold _ _ _ | exact rfl | exact trivial | refine ⟨?_, ?_⟩
theorem P_sequentref02_Depth {a0 : Tm} {r : Int} (e : sequentref02_Depth a0 = some r) : M_sequentref02_Depth a0 r := G_sequentref02_Depth.1 _ _ e _ rfl
theorem P_sequentref02_Depth_l0 {rest0 : (List Tm)} {t3_0 : Int} {r : Int} (e : sequentref02_Depth_l0 rest0 t3_0 = some r) : M_sequentref02_Depth_l0 rest0 t3_0 r := G_sequentref02_Depth.2 _ _ e _ _ rfl

theorem P_sequentref02_Small {a0 : Tm} {r : Bool} (e : sequentref02_Small a0 = some r) : Pure Try.prog 81 [(Tm.D a0)] (.bool r) := by
  unfold sequentref02_Small at e
  refine pure_of_awp (js := []) T_ok Try.func81 rfl (by decide +kernel) rfl ?_; (conv => whnf)
  obtain ⟨v1, qv1, e⟩ := bnd e
  refine said_pure (P_sequentref02_Size qv1) rfl ?_; (conv => whnf)
  refine ⟨⟨fun h2 => ?_, fun h2 => ?_⟩⟩
  · replace e := ifp h2 e; (conv => whnf)
    obtain ⟨v3, qv3, e⟩ := bnd e
    refine said_pure (P_sequentref02_Depth qv3) rfl ?_; (conv => whnf)
    refine test.dec ?_; (conv => whnf)
    obtain rfl := sm e
    repeat' first | exact rfl | exact trivial | refine ⟨?_, ?_⟩
  · replace e := ifn h2 e; (conv => whnf)
    obtain rfl := sm e
    repeat' first | exact rfl | exact trivial | refine ⟨?_, ?_⟩

theorem P_sequentref02_Great {a0 : Tm} {r : Bool} (e : sequentref02_Great a0 = some r) : Pure Try.prog 43 [(Tm.D a0)] (.bool r) := by
  unfold sequentref02_Great at e
  refine pure_of_awp (js := []) T_ok Try.func43 rfl (by decide +kernel) rfl ?_; (conv => whnf)
  obtain ⟨v1, qv1, e⟩ := bnd e
  refine said_pure (P_sequentref02_count qv1) rfl ?_; (conv => whnf)
  refine ⟨⟨fun h2 => ?_, fun h2 => ?_⟩⟩
  · replace e := ifp h2 e; (conv => whnf)
    obtain rfl := sm e
    repeat' first | exact rfl | exact trivial | refine ⟨?_, ?_⟩
  · replace e := ifn h2 e; (conv => whnf)
    obtain ⟨v3, qv3, e⟩ := bnd e
    refine said_pure (P_sequentref02_count qv3) rfl ?_; (conv => whnf)
    refine ⟨⟨fun h4 => ?_, fun h4 => ?_⟩⟩
    · replace e := ifp h4 e; (conv => whnf)
      obtain rfl := sm e
      repeat' first | exact rfl | exact trivial | refine ⟨?_, ?_⟩
    · replace e := ifn h4 e; (conv => whnf)
      obtain ⟨v5, qv5, e⟩ := bnd e
      refine said_pure (P_sequentref02_Small qv5) rfl ?_; (conv => whnf)
      obtain rfl := sm e
      repeat' first | exact rfl | exact trivial | refine ⟨?_, ?_⟩

theorem P_sequentref31_Wide {a0 : Tm} {r : Bool} (e : sequentref31_Wide a0 = some r) : Pure Try.prog 13 [(Tm.D a0)] (.bool r) := by
  unfold sequentref31_Wide at e
  refine pure_of_awp (js := []) T_ok Try.func13 rfl (by decide +kernel) rfl ?_; (conv => whnf)
  obtain ⟨v1, qv1, e⟩ := bnd e
  refine said_pure (P_sequentref02_Great qv1) rfl ?_; (conv => whnf)
  refine brK.split (fun hb2 => ?_) (fun hb2 => ?_)
  · replace e := ifpb hb2 e; (conv => whnf)
    refine brK.tt hb2 ?_; (conv => whnf)
    refine brK.tt hb2 ?_; (conv => whnf)
    refine brK.tt hb2 ?_; (conv => whnf)
    refine brK.tt hb2 ?_; (conv => whnf)
    refine brK.tt hb2 ?_; (conv => whnf)
    obtain rfl := sm e
    repeat' first | exact rfl | exact trivial | refine ⟨?_, ?_⟩
  · replace e := ifnb hb2 e; (conv => whnf)
    refine brK.ff hb2 ?_; (conv => whnf)
    obtain ⟨v3, qv3, e⟩ := bnd e
    refine said_pure (P_sequentref02_Size qv3) rfl ?_; (conv => whnf)
    refine brK.ff hb2 ?_; (conv => whnf)
    refine ⟨⟨fun h4 => ?_, fun h4 => ?_⟩⟩
    · replace e := ifp h4 e; (conv => whnf)
      refine brK.ff hb2 ?_; (conv => whnf)
      obtain ⟨v5, qv5, e⟩ := bnd e
      refine said_pure (P_sequentref02_Size qv5) rfl ?_; (conv => whnf)
      refine test.dec ?_; (conv => whnf)
      refine brK.ff hb2 ?_; (conv => whnf)
      refine brK.ff hb2 ?_; (conv => whnf)
      obtain rfl := sm e
      repeat' first | exact rfl | exact trivial | refine ⟨?_, ?_⟩
    · replace e := ifn h4 e; (conv => whnf)
      refine brK.ff hb2 ?_; (conv => whnf)
      refine brK.ff hb2 ?_; (conv => whnf)
      refine brK.ff hb2 ?_; (conv => whnf)
      obtain rfl := sm e
      repeat' first | exact rfl | exact trivial | refine ⟨?_, ?_⟩

theorem P_hash_Find_j0 {r : (Int × Bool × Int)} (e : hash_Find_j0 = some r) : ∀ (a0 : AStore) (a1 : Tm), JoinAt T Try.prog Try.f20 Fx0 [2] [1, 1, 0, 0] (EP T Try.f20 (.tuple [(.int .i64 r.1), (.bool r.2.1), (.int .i64 r.2.2)])) [(3, .ptr 0 1 0), (7, .d .nilptr), (8, .d (.int .i64 4))] [[.cells [.d (.slice 3 (ATypeNode.Ds a0.types)), .d (.slice 5 (ATermNode.Ds a0.terms))], .cells [.d (.int .u8 a1.kind), .d (.str a1.name), .d (.bool a1.ty.v), .d (.str a1.ty.name), .d (.slice 3 (Ty.Ds a1.ty.args)), .d (.int .i64 a1.index), .d (.slice 7 (Tm.Ds a1.sub))]]] := by
  unfold hash_Find_j0 at e
  intro a0 a1
  refine Runs.enter T_ok ?_; (conv => whnf)
  refine ⟨⟨fun h => absurd h (by decide), fun _ => ?_⟩⟩; (conv => whnf)
  refine ⟨⟨fun _ => ?_, fun h => absurd (by decide) h⟩⟩; (conv => whnf)
  obtain rfl := sm e
  repeat' first | exact rfl | exact trivial | refine ⟨?_, ?_⟩

theorem P_hash_Find_j0b {r : (Int × Bool × Int)} (e : hash_Find_j0b = some r) : ∀ (a0 : AStore) (a1 : Tm), JoinAt T Try.prog Try.f20 Fx0 [2] [1, 1, 0, 0] (EP T Try.f20 (.tuple [(.int .i64 r.1), (.bool r.2.1), (.int .i64 r.2.2)])) [(3, .ptr 0 1 0), (7, .d .nilptr), (8, .d (.int .i64 8))] [[.cells [.d (.slice 3 (ATypeNode.Ds a0.types)), .d (.slice 5 (ATermNode.Ds a0.terms))], .cells [.d (.int .u8 a1.kind), .d (.str a1.name), .d (.bool a1.ty.v), .d (.str a1.ty.name), .d (.slice 3 (Ty.Ds a1.ty.args)), .d (.int .i64 a1.index), .d (.slice 7 (Tm.Ds a1.sub))]]] := by
  unfold hash_Find_j0b at e
  intro a0 a1
  refine Runs.enter T_ok ?_; (conv => whnf)
  refine ⟨⟨fun h => absurd h (by decide), fun _ => ?_⟩⟩; (conv => whnf)
  refine ⟨⟨fun _ => ?_, fun h => absurd (by decide) h⟩⟩; (conv => whnf)
  obtain rfl := sm e
  repeat' first | exact rfl | exact trivial | refine ⟨?_, ?_⟩

theorem P_hash_Find_j0c {a1 : Tm} {v4 : ((List ATypeNode) × (List ATermNode) × (List (HashTypeKey × Int)) × (List (HashTermKey × Int)))} {r : (Int × Bool × Int)} (e : hash_Find_j0c a1 v4 = some r) : ∀ (a0 : AStore), JoinAt T Try.prog Try.f20 Fx0 [2] [1, 1, 0, 0] (EP T Try.f20 (.tuple [(.int .i64 r.1), (.bool r.2.1), (.int .i64 r.2.2)])) [(3, .ptr 0 1 0), (7, .ptr 0 2 0), (8, .d (.int .i64 0))] [[.cells [.d (.slice 3 (ATypeNode.Ds a0.types)), .d (.slice 5 (ATermNode.Ds a0.terms))], .cells [.d (.int .u8 a1.kind), .d (.str a1.name), .d (.bool a1.ty.v), .d (.str a1.ty.name), .d (.slice 3 (Ty.Ds a1.ty.args)), .d (.int .i64 a1.index), .d (.slice 7 (Tm.Ds a1.sub))], .cells [.own 0 3 3 (ATypeNode.Ds v4.1), .own 0 4 5 (ATermNode.Ds v4.2.1), .map 0 5, .map 0 6], .grow 3 (ATypeNode.Ds v4.1).length, .grow 5 (ATermNode.Ds v4.2.1).length, .map (mapD HashTypeKey.D (D.int .i64) v4.2.2.1), .map (mapD HashTermKey.D (D.int .i64) v4.2.2.2)]] := by
  unfold hash_Find_j0c at e
  intro a0
  refine Runs.enter T_ok ?_; (conv => whnf)
  refine ⟨⟨fun _ => ?_, fun h => absurd (by decide) h⟩⟩; (conv => whnf)
  obtain ⟨v5, qv5, e⟩ := bnd e
  refine said_pure (P_terms_Check qv5) rfl ?_; (conv => whnf)
  refine ⟨⟨fun h6 => ?_, fun h6 => ?_⟩⟩
  · replace e := ifp h6 e; (conv => whnf)
    obtain rfl := sm e
    repeat' first | exact rfl | exact trivial | refine ⟨?_, ?_⟩
  · replace e := ifn h6 e; (conv => whnf)
    obtain ⟨v7, qv7, e⟩ := bnd e
    first | (refine said_iorF (P_hash_table_add_io qv7) [2, 3, 4, 5, 6] [.ptr 0 2 0, .d (Tm.D a1)] rfl ⟨wk.refl _, wk.pure rfl, trivial⟩ rfl rfl ?_) | (refine said_iorF2 (P_hash_table_add_io qv7) [2, 3, 4, 5, 6] [.ptr 0 2 0, .d (Tm.D a1)] rfl ⟨wk.refl _, wk.pure rfl, trivial⟩ rfl rfl (by simp [ATermNode.Ds_all, ATypeNode.Ds_all, Tm.Ds_all, Ty.Ds_all, AStore.D, ATermNode.D, ATypeNode.D, Tm.D, Ty.D, listAll] <;> (repeat' first | rfl | apply And.intro)) ?_)
    (conv => whnf)
    refine ⟨⟨fun h8 => ?_, fun h8 => ?_⟩⟩
    · replace e := ifp (by first | exact h8 | simpa [ATermNode.Ds_all, ATypeNode.Ds_all, Tm.Ds_all, Ty.Ds_all, AStore.D, ATermNode.D, ATypeNode.D, Tm.D, Ty.D, listAll] using h8) e; (conv => whnf)
      obtain rfl := sm e
      repeat' first | exact rfl | exact trivial | refine ⟨?_, ?_⟩
    · replace e := ifn (by first | exact h8 | simpa [ATermNode.Ds_all, ATypeNode.Ds_all, Tm.Ds_all, Ty.Ds_all, AStore.D, ATermNode.D, ATypeNode.D, Tm.D, Ty.D, listAll] using h8) e; (conv => whnf)
      obtain rfl := sm e
      repeat' first | exact rfl | exact trivial | refine ⟨?_, ?_⟩

theorem P_hash_Find {a0 : AStore} {a1 : Tm} {r : (Int × Bool × Int)} (e : hash_Find a0 a1 = some r) : Pure Try.prog 20 [(AStore.D a0), (Tm.D a1)] (.tuple [(.int .i64 r.1), (.bool r.2.1), (.int .i64 r.2.2)]) := by
  unfold hash_Find at e
  refine pure_of_awp (js := [2]) T_ok Try.func20 rfl (by decide +kernel) rfl ?_; (conv => whnf)
  obtain ⟨v1, qv1, e⟩ := bnd e
  rcases v1 with v2 | v3 | v4
  · refine said_iorF (P_hash_open_io qv1) [] [.d (AStore.D a0)] rfl ⟨wk.pure rfl, trivial⟩ rfl rfl ?_; (conv => whnf)
    refine Runs.weak ((P_hash_Find_j0 e) a0 a1) ?_
    repeat' first | exact wk.of_eq rfl | exact wk.pure rfl | exact wk.un _ | exact wk.hold _ _ _ | exact rfl | exact trivial | refine ⟨?_, ?_⟩
  · refine said_iorF (P_hash_open_io qv1) [] [.d (AStore.D a0)] rfl ⟨wk.pure rfl, trivial⟩ rfl rfl ?_; (conv => whnf)
    refine Runs.weak ((P_hash_Find_j0b e) a0 a1) ?_
    repeat' first | exact wk.of_eq rfl | exact wk.pure rfl | exact wk.un _ | exact wk.hold _ _ _ | exact rfl | exact trivial | refine ⟨?_, ?_⟩
  · refine said_iorF (P_hash_open_io qv1) [] [.d (AStore.D a0)] rfl ⟨wk.pure rfl, trivial⟩ rfl rfl ?_; (conv => whnf)
    refine Runs.weak ((P_hash_Find_j0c e) a0) ?_
    repeat' first | exact wk.of_eq rfl | exact wk.pure rfl | exact wk.un _ | exact wk.hold _ _ _ | exact rfl | exact trivial | refine ⟨?_, ?_⟩ | (refine wk.of_eq ?_; (conv => lhs; whnf); (simp [ATermNode.Ds_all, ATypeNode.Ds_all, Tm.Ds_all, Ty.Ds_all, AStore.D, ATermNode.D, ATypeNode.D, Tm.D, Ty.D, listAll] <;> (repeat' first | rfl | apply And.intro)); done) | (refine wk.pure ?_; (conv => lhs; whnf); (simp [ATermNode.Ds_all, ATypeNode.Ds_all, Tm.Ds_all, Ty.Ds_all, AStore.D, ATermNode.D, ATypeNode.D, Tm.D, Ty.D, listAll] <;> (repeat' first | rfl | apply And.intro)); done) | ((simp [ATermNode.Ds_all, ATypeNode.Ds_all, Tm.Ds_all, Ty.Ds_all, AStore.D, ATermNode.D, ATypeNode.D, Tm.D, Ty.D, listAll] <;> (repeat' first | rfl | apply And.intro)); done)

theorem P_sequentref02_sign {a0 : Bool} {a1 : Bool} {r : Int} (e : sequentref02_sign a0 a1 = some r) : Pure Try.prog 97 [(.bool a0), (.bool a1)] (.int .i64 r) := by
  unfold sequentref02_sign at e
  refine pure_of_awp (js := []) T_ok Try.func97 rfl (by decide +kernel) rfl ?_; (conv => whnf)
  refine brK.split (fun hb1 => ?_) (fun hb1 => ?_)
  · replace e := ifpb hb1 e; (conv => whnf)
    obtain rfl := sm e
    repeat' first | exact rfl | exact trivial | refine ⟨?_, ?_⟩
  · replace e := ifnb hb1 e; (conv => whnf)
    refine brK.split (fun hb2 => ?_) (fun hb2 => ?_)
    · replace e := ifpb hb2 e; (conv => whnf)
      obtain rfl := sm e
      repeat' first | exact rfl | exact trivial | refine ⟨?_, ?_⟩
    · replace e := ifnb hb2 e; (conv => whnf)
      obtain rfl := sm e
      repeat' first | exact rfl | exact trivial | refine ⟨?_, ?_⟩

def M_sequentref01_Compare (a0 : Ty) (a1 : Ty) (r : Int) : Prop := Pure Try.prog 65 [(Ty.D a0), (Ty.D a1)] (.int .i64 r)
def M_sequentref01_Compare_l0 (rest0 : (List Ty)) (k0 : Nat) (a1 : Ty) (r : Int) : Prop := ∀ (a0 : Ty) (hd0 : rest0 = a0.args.drop k0), LoopAt T Try.prog Try.f65 Fx0 [] [1, 1, 1, 1, 0, 1, 0] (EP T Try.f65 (.int .i64 r)) [(2, .ptr 0 0 0), (3, .ptr 0 1 0), (5, .d (.int .i64 (k0 : Int)))] [[.cells [.d (.bool a0.v), .d (.str a0.name), .d (.slice 3 (Ty.Ds a0.args))], .cells [.d (.bool a1.v), .d (.str a1.name), .d (.slice 3 (Ty.Ds a1.args))]]]
theorem G_sequentref01_Compare : (∀ p r, sequentref01_Compare' p = some r → ∀ a0 a1, (a0, a1) = p → M_sequentref01_Compare a0 a1 r) ∧
    (∀ p r, sequentref01_Compare_l0' p = some r → ∀ rest0 k0 a1, (rest0, k0, a1) = p → M_sequentref01_Compare_l0 rest0 k0 a1 r) := by
  refine sequentref01_Compare'.mutual_partial_correctness (fun (p : (Ty × Ty)) (r : Int) => ∀ (a0 : Ty) (a1 : Ty), (a0, a1) = p → M_sequentref01_Compare a0 a1 r) (fun (p : ((List Ty) × Nat × Ty)) (r : Int) => ∀ (rest0 : (List Ty)) (k0 : Nat) (a1 : Ty), (rest0, k0, a1) = p → M_sequentref01_Compare_l0 rest0 k0 a1 r) ?_ ?_
  · intro f_sequentref01_Compare_l0 ih_sequentref01_Compare_l0 p r e a0 a1 hp
    subst hp
    refine pure_of_awp (js := []) T_ok Try.func65 rfl (by decide +kernel) rfl ?_; (conv => whnf)
    refine ⟨⟨fun h1 => ?_, fun h1 => ?_⟩⟩
    · replace e := ifp h1 e; (conv => whnf)
      refine brK.split (fun hb2 => ?_) (fun hb2 => ?_)
      · replace e := ifpb hb2 e; (conv => whnf)
        obtain rfl := sm e
        repeat' first | exact rfl | exact trivial | refine ⟨?_, ?_⟩
      · replace e := ifnb hb2 e; (conv => whnf)
        obtain rfl := sm e
        repeat' first | exact rfl | exact trivial | refine ⟨?_, ?_⟩
    · replace e := ifn h1 e; (conv => whnf)
      refine ⟨⟨fun h2 => ?_, fun h2 => ?_⟩⟩
      · replace e := ifp h2 e; (conv => whnf)
        refine ⟨⟨fun h3 => ?_, fun h3 => ?_⟩⟩
        · replace e := ifp h3 e; (conv => whnf)
          obtain rfl := sm e
          repeat' first | exact rfl | exact trivial | refine ⟨?_, ?_⟩
        · replace e := ifn h3 e; (conv => whnf)
          obtain rfl := sm e
          repeat' first | exact rfl | exact trivial | refine ⟨?_, ?_⟩
      · replace e := ifn h2 e; (conv => whnf)
        refine ⟨⟨fun h3 => ?_, fun h3 => ?_⟩⟩
        · replace e := ifp (by first | exact h3 | simpa [Ty.Ds_all, Ty.D, listAll] using h3) e; (conv => whnf)
          refine ⟨⟨fun h4 => ?_, fun h4 => ?_⟩⟩
          · replace e := ifp (by first | exact h4 | simpa [Ty.Ds_all, Ty.D, listAll] using h4) e; (conv => whnf)
            obtain rfl := sm e
            repeat' first | exact rfl | exact trivial | refine ⟨?_, ?_⟩
          · replace e := ifn (by first | exact h4 | simpa [Ty.Ds_all, Ty.D, listAll] using h4) e; (conv => whnf)
            obtain rfl := sm e
            repeat' first | exact rfl | exact trivial | refine ⟨?_, ?_⟩
        · replace e := ifn (by first | exact h3 | simpa [Ty.Ds_all, Ty.D, listAll] using h3) e; (conv => whnf)
          refine RunsL.runs (RunsL.weak ((ih_sequentref01_Compare_l0 _ _ e _ _ _ rfl) a0 (by simp)) ?_)
          repeat' first | exact wk.of_eq rfl | exact wk.pure rfl | exact wk.un _ | exact wk.hold _ _ _ | exact rfl | exact trivial | refine ⟨?_, ?_⟩
  · intro f_sequentref01_Compare f_sequentref01_Compare_l0 ih_sequentref01_Compare ih_sequentref01_Compare_l0 p r e rest0 k0 a1 hp
    subst hp
    intro a0 hd0
    refine RunsL.len_cell 0 2 rfl rfl rfl fun hlenk0 => ?_
    refine RunsL.of_awp (js := []) T_ok ?_; (conv => whnf)
    have hls := Ty.Ds_len a0.args
    cases rest0 with
    | nil =>
      have hk := drop_nil hd0
      refine ⟨⟨fun h => absurd h (by omega), fun _ => ?_⟩⟩; (conv => whnf)
      obtain rfl := sm e
      repeat' first | exact rfl | exact trivial | refine ⟨?_, ?_⟩
    | cons v6 rest0 =>
      obtain ⟨hxv6, hd0, hltv6⟩ := drop_head hd0
      refine ⟨⟨fun _ => ?_, fun h => absurd (by omega) h⟩⟩; (conv => whnf)
      refine draw_rule [] T_ok mixed sequentref01_Compare_pl16 (by decide +kernel) ?_; (conv => whnf)
      refine ⟨k0, _, rfl, Ty.Ds_get hxv6, ?_⟩; (conv => whnf)
      refine ⟨Ty.Ds_fit _ rfl rfl, ?_⟩; (conv => whnf)
      obtain ⟨v7, qv7, e⟩ := bnd e
      obtain ⟨qv7k, qv7a, qv7b⟩ := geti_some qv7
      refine ⟨qv7k, _, qv7a, Ty.Ds_get qv7b, ?_⟩; (conv => whnf)
      refine ⟨Ty.Ds_fit _ rfl rfl, ?_⟩; (conv => whnf)
      obtain ⟨v8, qv8, e⟩ := bnd e
      refine said_pure (ih_sequentref01_Compare _ _ qv8 _ _ rfl) rfl ⟨Keeps.refl _ _, ?_⟩; (conv => whnf)
      refine ⟨⟨fun h9 => ?_, fun h9 => ?_⟩⟩
      · replace e := ifp h9 e; (conv => whnf)
        obtain rfl := sm e
        repeat' first | exact rfl | exact trivial | refine ⟨?_, ?_⟩
      · replace e := ifn h9 e; (conv => whnf)
        refine ⟨((k0 + 1 : Nat) : Int), wrap64e (by omega) (by omega) (by omega), ?_⟩; (conv => whnf)
        refine (RunsL.weak ((ih_sequentref01_Compare_l0 _ _ e _ _ _ rfl) a0 hd0) ?_)
        repeat' first | exact wk.of_eq rfl | exact wk.pure rfl | exact wk.un _ | exact wk.hold _ _ _ | exact rfl | exact trivial | refine ⟨?_, ?_⟩
theorem P_sequentref01_Compare {a0 : Ty} {a1 : Ty} {r : Int} (e : sequentref01_Compare a0 a1 = some r) : M_sequentref01_Compare a0 a1 r := G_sequentref01_Compare.1 _ _ e _ _ rfl
theorem P_sequentref01_Compare_l0 {rest0 : (List Ty)} {k0 : Nat} {a1 : Ty} {r : Int} (e : sequentref01_Compare_l0 rest0 k0 a1 = some r) : M_sequentref01_Compare_l0 rest0 k0 a1 r := G_sequentref01_Compare.2 _ _ e _ _ _ rfl

def M_sequentref02_Compare (a0 : Tm) (a1 : Tm) (r : Int) : Prop := Pure Try.prog 74 [(Tm.D a0), (Tm.D a1)] (.int .i64 r)
def M_sequentref02_Compare_j0 (t5_1 : Int) (a0 : Tm) (a1 : Tm) (r : Int) : Prop := JoinAt T Try.prog Try.f74 Fx0 [4, 6, 8, 10] [1, 1, 1, 0, 0] (EP T Try.f74 (.int .i64 r)) [(2, .ptr 0 0 0), (3, .ptr 0 1 0), (5, .d (.int .i64 t5_1))] [[.cells [.d (.int .u8 a0.kind), .d (.str a0.name), .d (.bool a0.ty.v), .d (.str a0.ty.name), .d (.slice 3 (Ty.Ds a0.ty.args)), .d (.int .i64 a0.index), .d (.slice 7 (Tm.Ds a0.sub))], .cells [.d (.int .u8 a1.kind), .d (.str a1.name), .d (.bool a1.ty.v), .d (.str a1.ty.name), .d (.slice 3 (Ty.Ds a1.ty.args)), .d (.int .i64 a1.index), .d (.slice 7 (Tm.Ds a1.sub))]]]
def M_sequentref02_Compare_j1 (t5_2 : Int) (a0 : Tm) (a1 : Tm) (r : Int) : Prop := JoinAt T Try.prog Try.f74 Fx0 [4, 6, 8, 10] [1, 1, 1, 1, 0, 0] (EP T Try.f74 (.int .i64 r)) [(2, .ptr 0 0 0), (3, .ptr 0 1 0), (5, .d (.int .i64 t5_2))] [[.cells [.d (.int .u8 a0.kind), .d (.str a0.name), .d (.bool a0.ty.v), .d (.str a0.ty.name), .d (.slice 3 (Ty.Ds a0.ty.args)), .d (.int .i64 a0.index), .d (.slice 7 (Tm.Ds a0.sub))], .cells [.d (.int .u8 a1.kind), .d (.str a1.name), .d (.bool a1.ty.v), .d (.str a1.ty.name), .d (.slice 3 (Ty.Ds a1.ty.args)), .d (.int .i64 a1.index), .d (.slice 7 (Tm.Ds a1.sub))]]]
def M_sequentref02_Compare_j2 (t5_3 : Int) (a0 : Tm) (a1 : Tm) (r : Int) : Prop := JoinAt T Try.prog Try.f74 Fx0 [4, 6, 8, 10] [1, 1, 1, 1, 1, 0, 0] (EP T Try.f74 (.int .i64 r)) [(2, .ptr 0 0 0), (3, .ptr 0 1 0), (5, .d (.int .i64 t5_3))] [[.cells [.d (.int .u8 a0.kind), .d (.str a0.name), .d (.bool a0.ty.v), .d (.str a0.ty.name), .d (.slice 3 (Ty.Ds a0.ty.args)), .d (.int .i64 a0.index), .d (.slice 7 (Tm.Ds a0.sub))], .cells [.d (.int .u8 a1.kind), .d (.str a1.name), .d (.bool a1.ty.v), .d (.str a1.ty.name), .d (.slice 3 (Ty.Ds a1.ty.args)), .d (.int .i64 a1.index), .d (.slice 7 (Tm.Ds a1.sub))]]]
def M_sequentref02_Compare_j3 (t5_4 : Int) (a0 : Tm) (a1 : Tm) (r : Int) : Prop := JoinAt T Try.prog Try.f74 Fx0 [4, 6, 8, 10] [1, 1, 1, 1, 1, 1, 0, 0] (EP T Try.f74 (.int .i64 r)) [(2, .ptr 0 0 0), (3, .ptr 0 1 0), (5, .d (.int .i64 t5_4))] [[.cells [.d (.int .u8 a0.kind), .d (.str a0.name), .d (.bool a0.ty.v), .d (.str a0.ty.name), .d (.slice 3 (Ty.Ds a0.ty.args)), .d (.int .i64 a0.index), .d (.slice 7 (Tm.Ds a0.sub))], .cells [.d (.int .u8 a1.kind), .d (.str a1.name), .d (.bool a1.ty.v), .d (.str a1.ty.name), .d (.slice 3 (Ty.Ds a1.ty.args)), .d (.int .i64 a1.index), .d (.slice 7 (Tm.Ds a1.sub))]]]
def M_sequentref02_Compare_l0 (t5_0 : Int) (t6_0 : Int) (a0 : Tm) (a1 : Tm) (r : Int) : Prop := LoopAt T Try.prog Try.f74 Fx0 [4, 6, 8, 10] [1, 1, 1, 1, 1, 1, 0, 1, 0] (EP T Try.f74 (.int .i64 r)) [(2, .ptr 0 0 0), (3, .ptr 0 1 0), (5, .d (.int .i64 t5_0)), (6, .d (.int .i64 t6_0))] [[.cells [.d (.int .u8 a0.kind), .d (.str a0.name), .d (.bool a0.ty.v), .d (.str a0.ty.name), .d (.slice 3 (Ty.Ds a0.ty.args)), .d (.int .i64 a0.index), .d (.slice 7 (Tm.Ds a0.sub))], .cells [.d (.int .u8 a1.kind), .d (.str a1.name), .d (.bool a1.ty.v), .d (.str a1.ty.name), .d (.slice 3 (Ty.Ds a1.ty.args)), .d (.int .i64 a1.index), .d (.slice 7 (Tm.Ds a1.sub))]]]
theorem G_sequentref02_Compare : (∀ p r, sequentref02_Compare' p = some r → ∀ a0 a1, (a0, a1) = p → M_sequentref02_Compare a0 a1 r) ∧
    (∀ p r, sequentref02_Compare_j0' p = some r → ∀ t5_1 a0 a1, (t5_1, a0, a1) = p → M_sequentref02_Compare_j0 t5_1 a0 a1 r) ∧
    (∀ p r, sequentref02_Compare_j1' p = some r → ∀ t5_2 a0 a1, (t5_2, a0, a1) = p → M_sequentref02_Compare_j1 t5_2 a0 a1 r) ∧
    (∀ p r, sequentref02_Compare_j2' p = some r → ∀ t5_3 a0 a1, (t5_3, a0, a1) = p → M_sequentref02_Compare_j2 t5_3 a0 a1 r) ∧
    (∀ p r, sequentref02_Compare_j3' p = some r → ∀ t5_4 a0 a1, (t5_4, a0, a1) = p → M_sequentref02_Compare_j3 t5_4 a0 a1 r) ∧
    (∀ p r, sequentref02_Compare_l0' p = some r → ∀ t5_0 t6_0 a0 a1, (t5_0, t6_0, a0, a1) = p → M_sequentref02_Compare_l0 t5_0 t6_0 a0 a1 r) := by
  refine sequentref02_Compare'.mutual_partial_correctness (fun (p : (Tm × Tm)) (r : Int) => ∀ (a0 : Tm) (a1 : Tm), (a0, a1) = p → M_sequentref02_Compare a0 a1 r) (fun (p : (Int × Tm × Tm)) (r : Int) => ∀ (t5_1 : Int) (a0 : Tm) (a1 : Tm), (t5_1, a0, a1) = p → M_sequentref02_Compare_j0 t5_1 a0 a1 r) (fun (p : (Int × Tm × Tm)) (r : Int) => ∀ (t5_2 : Int) (a0 : Tm) (a1 : Tm), (t5_2, a0, a1) = p → M_sequentref02_Compare_j1 t5_2 a0 a1 r) (fun (p : (Int × Tm × Tm)) (r : Int) => ∀ (t5_3 : Int) (a0 : Tm) (a1 : Tm), (t5_3, a0, a1) = p → M_sequentref02_Compare_j2 t5_3 a0 a1 r) (fun (p : (Int × Tm × Tm)) (r : Int) => ∀ (t5_4 : Int) (a0 : Tm) (a1 : Tm), (t5_4, a0, a1) = p → M_sequentref02_Compare_j3 t5_4 a0 a1 r) (fun (p : (Int × Int × Tm × Tm)) (r : Int) => ∀ (t5_0 : Int) (t6_0 : Int) (a0 : Tm) (a1 : Tm), (t5_0, t6_0, a0, a1) = p → M_sequentref02_Compare_l0 t5_0 t6_0 a0 a1 r) ?_ ?_ ?_ ?_ ?_ ?_
  · intro f_sequentref02_Compare_j0 ih_sequentref02_Compare_j0 p r e a0 a1 hp
    subst hp
    refine pure_of_awp (js := [4, 6, 8, 10]) T_ok Try.func74 rfl (by decide +kernel) rfl ?_; (conv => whnf)
    refine test.dec ?_; (conv => whnf)
    refine test.dec ?_; (conv => whnf)
    obtain ⟨v1, qv1, e⟩ := bnd e
    refine said_pure (P_sequentref02_sign qv1) rfl ?_; (conv => whnf)
    refine ⟨⟨fun h2 => ?_, fun h2 => ?_⟩⟩
    · replace e := ifp h2 e; (conv => whnf)
      refine ⟨⟨fun h3 => ?_, fun h3 => ?_⟩⟩
      · replace e := ifp h3 e; (conv => whnf)
        refine test.dec ?_; (conv => whnf)
        refine test.dec ?_; (conv => whnf)
        obtain ⟨v4, qv4, e⟩ := bnd e
        refine said_pure (P_sequentref02_sign qv4) rfl ?_; (conv => whnf)
        refine Runs.weak (ih_sequentref02_Compare_j0 _ _ e _ _ _ rfl) ?_
        repeat' first | exact wk.of_eq rfl | exact wk.pure rfl | exact wk.un _ | exact wk.hold _ _ _ | exact rfl | exact trivial | refine ⟨?_, ?_⟩
      · replace e := ifn h3 e; (conv => whnf)
        refine Runs.weak (ih_sequentref02_Compare_j0 _ _ e _ _ _ rfl) ?_
        repeat' first | exact wk.of_eq rfl | exact wk.pure rfl | exact wk.un _ | exact wk.hold _ _ _ | exact rfl | exact trivial | refine ⟨?_, ?_⟩
    · replace e := ifn h2 e; (conv => whnf)
      refine Runs.weak (ih_sequentref02_Compare_j0 _ _ e _ _ _ rfl) ?_
      repeat' first | exact wk.of_eq rfl | exact wk.pure rfl | exact wk.un _ | exact wk.hold _ _ _ | exact rfl | exact trivial | refine ⟨?_, ?_⟩
  · intro f_sequentref02_Compare_j1 ih_sequentref02_Compare_j1 p r e t5_1 a0 a1 hp
    subst hp
    refine Runs.enter T_ok ?_; (conv => whnf)
    refine ⟨⟨fun h6 => ?_, fun h6 => ?_⟩⟩
    · replace e := ifp h6 e; (conv => whnf)
      obtain ⟨v7, qv7, e⟩ := bnd e
      refine said_pure (P_sequentref01_Compare qv7) rfl ?_; (conv => whnf)
      refine Runs.weak (ih_sequentref02_Compare_j1 _ _ e _ _ _ rfl) ?_
      repeat' first | exact wk.of_eq rfl | exact wk.pure rfl | exact wk.un _ | exact wk.hold _ _ _ | exact rfl | exact trivial | refine ⟨?_, ?_⟩
    · replace e := ifn h6 e; (conv => whnf)
      refine Runs.weak (ih_sequentref02_Compare_j1 _ _ e _ _ _ rfl) ?_
      repeat' first | exact wk.of_eq rfl | exact wk.pure rfl | exact wk.un _ | exact wk.hold _ _ _ | exact rfl | exact trivial | refine ⟨?_, ?_⟩
  · intro f_sequentref02_Compare_j2 ih_sequentref02_Compare_j2 p r e t5_2 a0 a1 hp
    subst hp
    refine Runs.enter T_ok ?_; (conv => whnf)
    refine ⟨⟨fun h8 => ?_, fun h8 => ?_⟩⟩
    · replace e := ifp h8 e; (conv => whnf)
      refine test.dec ?_; (conv => whnf)
      refine test.dec ?_; (conv => whnf)
      obtain ⟨v9, qv9, e⟩ := bnd e
      refine said_pure (P_sequentref02_sign qv9) rfl ?_; (conv => whnf)
      refine Runs.weak (ih_sequentref02_Compare_j2 _ _ e _ _ _ rfl) ?_
      repeat' first | exact wk.of_eq rfl | exact wk.pure rfl | exact wk.un _ | exact wk.hold _ _ _ | exact rfl | exact trivial | refine ⟨?_, ?_⟩
    · replace e := ifn h8 e; (conv => whnf)
      refine Runs.weak (ih_sequentref02_Compare_j2 _ _ e _ _ _ rfl) ?_
      repeat' first | exact wk.of_eq rfl | exact wk.pure rfl | exact wk.un _ | exact wk.hold _ _ _ | exact rfl | exact trivial | refine ⟨?_, ?_⟩
  · intro f_sequentref02_Compare_j3 ih_sequentref02_Compare_j3 p r e t5_3 a0 a1 hp
    subst hp
    refine Runs.enter T_ok ?_; (conv => whnf)
    refine ⟨⟨fun h10 => ?_, fun h10 => ?_⟩⟩
    · replace e := ifp h10 e; (conv => whnf)
      refine test.dec ?_; (conv => whnf)
      refine test.dec ?_; (conv => whnf)
      obtain ⟨v11, qv11, e⟩ := bnd e
      refine said_pure (P_sequentref02_sign qv11) rfl ?_; (conv => whnf)
      refine Runs.weak (ih_sequentref02_Compare_j3 _ _ e _ _ _ rfl) ?_
      repeat' first | exact wk.of_eq rfl | exact wk.pure rfl | exact wk.un _ | exact wk.hold _ _ _ | exact rfl | exact trivial | refine ⟨?_, ?_⟩
    · replace e := ifn h10 e; (conv => whnf)
      refine Runs.weak (ih_sequentref02_Compare_j3 _ _ e _ _ _ rfl) ?_
      repeat' first | exact wk.of_eq rfl | exact wk.pure rfl | exact wk.un _ | exact wk.hold _ _ _ | exact rfl | exact trivial | refine ⟨?_, ?_⟩
  · intro f_sequentref02_Compare_l0 ih_sequentref02_Compare_l0 p r e t5_4 a0 a1 hp
    subst hp
    refine Runs.enter T_ok ?_; (conv => whnf)
    refine RunsL.runs (RunsL.weak (ih_sequentref02_Compare_l0 _ _ e _ _ _ _ rfl) ?_)
    repeat' first | exact wk.of_eq rfl | exact wk.pure rfl | exact wk.un _ | exact wk.hold _ _ _ | exact rfl | exact trivial | refine ⟨?_, ?_⟩
  · intro f_sequentref02_Compare f_sequentref02_Compare_l0 ih_sequentref02_Compare ih_sequentref02_Compare_l0 p r e t5_0 t6_0 a0 a1 hp
    subst hp
    refine RunsL.of_awp (js := [4, 6, 8, 10]) T_ok ?_; (conv => whnf)
    refine ⟨⟨fun h12 => ?_, fun h12 => ?_⟩⟩
    · replace e := ifp h12 e; (conv => whnf)
      refine ⟨⟨fun h13 => ?_, fun h13 => ?_⟩⟩
      · replace e := ifp (by first | exact h13 | simpa [Tm.Ds_all, Ty.Ds_all, Tm.D, Ty.D, listAll] using h13) e; (conv => whnf)
        refine draw_rule [] T_ok mixed sequentref02_Compare_pl13 (by decide +kernel) ?_; (conv => whnf)
        obtain ⟨v14, qv14, e⟩ := bnd e
        obtain ⟨qv14k, qv14a, qv14b⟩ := geti_some qv14
        refine ⟨qv14k, _, qv14a, Tm.Ds_get qv14b, ?_⟩; (conv => whnf)
        refine ⟨Tm.Ds_fit _ rfl rfl, ?_⟩; (conv => whnf)
        obtain ⟨v15, qv15, e⟩ := bnd e
        obtain ⟨qv15k, qv15a, qv15b⟩ := geti_some qv15
        refine ⟨qv15k, _, qv15a, Tm.Ds_get qv15b, ?_⟩; (conv => whnf)
        refine ⟨Tm.Ds_fit _ rfl rfl, ?_⟩; (conv => whnf)
        obtain ⟨v16, qv16, e⟩ := bnd e
        refine said_pure (ih_sequentref02_Compare _ _ qv16 _ _ rfl) rfl ⟨Keeps.refl _ _, ?_⟩; (conv => whnf)
        obtain ⟨v17, qv17, e⟩ := bnd e
        refine ⟨v17, sm qv17, ?_⟩; (conv => whnf)
        refine (RunsL.weak (ih_sequentref02_Compare_l0 _ _ e _ _ _ _ rfl) ?_)
        repeat' first | exact wk.of_eq rfl | exact wk.pure rfl | exact wk.un _ | exact wk.hold _ _ _ | exact rfl | exact trivial | refine ⟨?_, ?_⟩
      · replace e := ifn (by first | exact h13 | simpa [Tm.Ds_all, Ty.Ds_all, Tm.D, Ty.D, listAll] using h13) e; (conv => whnf)
        obtain rfl := sm e
        repeat' first | exact rfl | exact trivial | refine ⟨?_, ?_⟩
    · replace e := ifn h12 e; (conv => whnf)
      obtain rfl := sm e
      repeat' first | exact rfl | exact trivial | refine ⟨?_, ?_⟩
theorem P_sequentref02_Compare {a0 : Tm} {a1 : Tm} {r : Int} (e : sequentref02_Compare a0 a1 = some r) : M_sequentref02_Compare a0 a1 r := G_sequentref02_Compare.1 _ _ e _ _ rfl
theorem P_sequentref02_Compare_j0 {t5_1 : Int} {a0 : Tm} {a1 : Tm} {r : Int} (e : sequentref02_Compare_j0 t5_1 a0 a1 = some r) : M_sequentref02_Compare_j0 t5_1 a0 a1 r := G_sequentref02_Compare.2.1 _ _ e _ _ _ rfl
theorem P_sequentref02_Compare_j1 {t5_2 : Int} {a0 : Tm} {a1 : Tm} {r : Int} (e : sequentref02_Compare_j1 t5_2 a0 a1 = some r) : M_sequentref02_Compare_j1 t5_2 a0 a1 r := G_sequentref02_Compare.2.2.1 _ _ e _ _ _ rfl
theorem P_sequentref02_Compare_j2 {t5_3 : Int} {a0 : Tm} {a1 : Tm} {r : Int} (e : sequentref02_Compare_j2 t5_3 a0 a1 = some r) : M_sequentref02_Compare_j2 t5_3 a0 a1 r := G_sequentref02_Compare.2.2.2.1 _ _ e _ _ _ rfl
theorem P_sequentref02_Compare_j3 {t5_4 : Int} {a0 : Tm} {a1 : Tm} {r : Int} (e : sequentref02_Compare_j3 t5_4 a0 a1 = some r) : M_sequentref02_Compare_j3 t5_4 a0 a1 r := G_sequentref02_Compare.2.2.2.2.1 _ _ e _ _ _ rfl
theorem P_sequentref02_Compare_l0 {t5_0 : Int} {t6_0 : Int} {a0 : Tm} {a1 : Tm} {r : Int} (e : sequentref02_Compare_l0 t5_0 t6_0 a0 a1 = some r) : M_sequentref02_Compare_l0 t5_0 t6_0 a0 a1 r := G_sequentref02_Compare.2.2.2.2.2 _ _ e _ _ _ _ rfl

theorem P_sequentref02_Same {a0 : Tm} {a1 : Tm} {r : Bool} (e : sequentref02_Same a0 a1 = some r) : Pure Try.prog 39 [(Tm.D a0), (Tm.D a1)] (.bool r) := by
  unfold sequentref02_Same at e
  refine pure_of_awp (js := []) T_ok Try.func39 rfl (by decide +kernel) rfl ?_; (conv => whnf)
  obtain ⟨v1, qv1, e⟩ := bnd e
  refine said_pure (P_sequentref02_Compare qv1) rfl ?_; (conv => whnf)
  refine test.dec ?_; (conv => whnf)
  obtain rfl := sm e
  repeat' first | exact rfl | exact trivial | refine ⟨?_, ?_⟩
end Go.Proofs.Ytpgecpmonaldiaa.Fw
