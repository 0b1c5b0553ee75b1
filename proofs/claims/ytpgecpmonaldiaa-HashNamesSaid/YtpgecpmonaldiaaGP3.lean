/- The code computes the functions. -/
import Derived.Test.YtpgecpmonaldiaaGP2
set_option autoImplicit false
set_option linter.unusedVariables false
set_option linter.unusedSimpArgs false
set_option maxHeartbeats 4000000
namespace Go.Proofs.Ytpgecpmonaldiaa.Fw
open Go Go.Proofs Go.RowKit
def M_slices_CompareFunc_Term_Term_Term_Term__terms_Compare (a0 : (List Tm)) (a1 : (List Tm)) (r : Int) : Prop := Pure Try.prog 117 [(.slice 7 (Tm.Ds a0)), (.slice 7 (Tm.Ds a1)), (.func (.func 96) [] [])] (.int .i64 r)
def M_slices_CompareFunc_Term_Term_Term_Term__terms_Compare_l0 (rest0 : (List Tm)) (k0 : Nat) (a0 : (List Tm)) (a1 : (List Tm)) (r : Int) : Prop := ∀ (hd0 : rest0 = a0.drop k0), LoopAt T Try.prog Try.f117 Fx0 [] [1, 0, 1, 0] (EP T Try.f117 (.int .i64 r)) [(0, .d (.slice 7 (Tm.Ds a0))), (1, .d (.slice 7 (Tm.Ds a1))), (2, .d (.func (.func 96) [] [])), (11, .d (.slice 7 (Tm.Ds a0))), (12, .d (.int .i64 ((Tm.Ds a0).length : Int))), (13, .d (.int .i64 (k0 : Int)))] [[]]
def M_terms_Compare (a0 : Tm) (a1 : Tm) (r : Int) : Prop := Pure Try.prog 96 [(Tm.D a0), (Tm.D a1)] (.int .i64 r)
def M_terms_Compare_j0 (a0 : Tm) (a1 : Tm) (r : Int) : Prop := JoinAt T Try.prog Try.f96 Fx0 [7] [1, 1, 1, 0, 0] (EP T Try.f96 (.int .i64 r)) [(2, .ptr 0 0 0), (3, .ptr 0 1 0)] [[.cells [.d (.int .u8 a0.kind), .d (.str a0.name), .d (.bool a0.ty.v), .d (.str a0.ty.name), .d (.slice 3 (Ty.Ds a0.ty.args)), .d (.int .i64 a0.index), .d (.slice 7 (Tm.Ds a0.sub))], .cells [.d (.int .u8 a1.kind), .d (.str a1.name), .d (.bool a1.ty.v), .d (.str a1.ty.name), .d (.slice 3 (Ty.Ds a1.ty.args)), .d (.int .i64 a1.index), .d (.slice 7 (Tm.Ds a1.sub))]]]
theorem G_slices_CompareFunc_Term_Term_Term_Term__terms_Compare : (∀ p r, slices_CompareFunc_Term_Term_Term_Term__terms_Compare' p = some r → ∀ a0 a1, (a0, a1) = p → M_slices_CompareFunc_Term_Term_Term_Term__terms_Compare a0 a1 r) ∧
    (∀ p r, slices_CompareFunc_Term_Term_Term_Term__terms_Compare_l0' p = some r → ∀ rest0 k0 a0 a1, (rest0, k0, a0, a1) = p → M_slices_CompareFunc_Term_Term_Term_Term__terms_Compare_l0 rest0 k0 a0 a1 r) ∧
    (∀ p r, terms_Compare' p = some r → ∀ a0 a1, (a0, a1) = p → M_terms_Compare a0 a1 r) ∧
    (∀ p r, terms_Compare_j0' p = some r → ∀ a0 a1, (a0, a1) = p → M_terms_Compare_j0 a0 a1 r) := by
  refine slices_CompareFunc_Term_Term_Term_Term__terms_Compare'.mutual_partial_correctness (fun (p : ((List Tm) × (List Tm))) (r : Int) => ∀ (a0 : (List Tm)) (a1 : (List Tm)), (a0, a1) = p → M_slices_CompareFunc_Term_Term_Term_Term__terms_Compare a0 a1 r) (fun (p : ((List Tm) × Nat × (List Tm) × (List Tm))) (r : Int) => ∀ (rest0 : (List Tm)) (k0 : Nat) (a0 : (List Tm)) (a1 : (List Tm)), (rest0, k0, a0, a1) = p → M_slices_CompareFunc_Term_Term_Term_Term__terms_Compare_l0 rest0 k0 a0 a1 r) (fun (p : (Tm × Tm)) (r : Int) => ∀ (a0 : Tm) (a1 : Tm), (a0, a1) = p → M_terms_Compare a0 a1 r) (fun (p : (Tm × Tm)) (r : Int) => ∀ (a0 : Tm) (a1 : Tm), (a0, a1) = p → M_terms_Compare_j0 a0 a1 r) ?_ ?_ ?_ ?_
  · intro f_slices_CompareFunc_Term_Term_Term_Term__terms_Compare_l0 ih_slices_CompareFunc_Term_Term_Term_Term__terms_Compare_l0 p r e a0 a1 hp
    subst hp
    refine pure_of_awp (js := []) T_ok Try.func117 rfl (by decide +kernel) rfl ?_; (conv => whnf)
    refine RunsL.runs (RunsL.weak ((ih_slices_CompareFunc_Term_Term_Term_Term__terms_Compare_l0 _ _ e _ _ _ _ rfl) (by simp)) ?_)
    repeat' first | exact wk.of_eq rfl | exact wk.pure rfl | exact wk.un _ | exact wk.hold _ _ _ | exact rfl | exact trivial | refine ⟨?_, ?_⟩ | (refine wk.of_eq ?_; (conv => lhs; whnf); (simp [Tm.Ds_all, Tm.D, listAll] <;> (repeat' first | rfl | apply And.intro)); done) | (refine wk.pure ?_; (conv => lhs; whnf); (simp [Tm.Ds_all, Tm.D, listAll] <;> (repeat' first | rfl | apply And.intro)); done) | ((simp [Tm.Ds_all, Tm.D, listAll] <;> (repeat' first | rfl | apply And.intro)); done)
  · intro f_slices_CompareFunc_Term_Term_Term_Term__terms_Compare_l0 f_terms_Compare ih_slices_CompareFunc_Term_Term_Term_Term__terms_Compare_l0 ih_terms_Compare p r e rest0 k0 a0 a1 hp
    subst hp
    intro hd0
    refine RunsL.len_tmp 0 rfl fun hlenk0 => ?_
    refine RunsL.of_awp (js := []) T_ok ?_; (conv => whnf)
    have hls := Tm.Ds_len a0
    cases rest0 with
    | nil =>
      have hk := drop_nil hd0
      refine ⟨⟨fun h => absurd h (by omega), fun _ => ?_⟩⟩; (conv => whnf)
      refine ⟨⟨fun h15 => ?_, fun h15 => ?_⟩⟩
      · replace e := ifp (by first | exact h15 | simpa [Tm.Ds_all, Tm.D, listAll] using h15) e; (conv => whnf)
        obtain rfl := sm e
        repeat' first | exact rfl | exact trivial | refine ⟨?_, ?_⟩
      · replace e := ifn (by first | exact h15 | simpa [Tm.Ds_all, Tm.D, listAll] using h15) e; (conv => whnf)
        obtain rfl := sm e
        repeat' first | exact rfl | exact trivial | refine ⟨?_, ?_⟩
    | cons v14 rest0 =>
      obtain ⟨hxv14, hd0, hltv14⟩ := drop_head hd0
      refine ⟨⟨fun _ => ?_, fun h => absurd (by omega) h⟩⟩; (conv => whnf)
      refine ⟨k0, _, rfl, Tm.Ds_get hxv14, ?_⟩; (conv => whnf)
      refine ⟨Tm.Ds_fit _ rfl rfl, ?_⟩; (conv => whnf)
      refine ⟨⟨fun h15 => ?_, fun h15 => ?_⟩⟩
      · replace e := ifp (by first | exact h15 | simpa [Tm.Ds_all, Tm.D, listAll] using h15) e; (conv => whnf)
        obtain rfl := sm e
        repeat' first | exact rfl | exact trivial | refine ⟨?_, ?_⟩
      · replace e := ifn (by first | exact h15 | simpa [Tm.Ds_all, Tm.D, listAll] using h15) e; (conv => whnf)
        obtain ⟨v16, qv16, e⟩ := bnd e
        obtain ⟨qv16k, qv16a, qv16b⟩ := geti_some qv16
        refine ⟨qv16k, _, qv16a, Tm.Ds_get qv16b, ?_⟩; (conv => whnf)
        refine ⟨Tm.Ds_fit _ rfl rfl, ?_⟩; (conv => whnf)
        obtain ⟨v17, qv17, e⟩ := bnd e
        refine said_pure (ih_terms_Compare _ _ qv17 _ _ rfl) rfl ?_; (conv => whnf)
        refine ⟨⟨fun h18 => ?_, fun h18 => ?_⟩⟩
        · replace e := ifp h18 e; (conv => whnf)
          obtain rfl := sm e
          repeat' first | exact rfl | exact trivial | refine ⟨?_, ?_⟩
        · replace e := ifn h18 e; (conv => whnf)
          refine ⟨((k0 + 1 : Nat) : Int), wrap64e (by omega) (by omega) (by omega), ?_⟩; (conv => whnf)
          refine (RunsL.weak ((ih_slices_CompareFunc_Term_Term_Term_Term__terms_Compare_l0 _ _ e _ _ _ _ rfl) hd0) ?_)
          repeat' first | exact wk.of_eq rfl | exact wk.pure rfl | exact wk.un _ | exact wk.hold _ _ _ | exact rfl | exact trivial | refine ⟨?_, ?_⟩ | (refine wk.of_eq ?_; (conv => lhs; whnf); (simp [Tm.Ds_all, Tm.D, listAll] <;> (repeat' first | rfl | apply And.intro)); done) | (refine wk.pure ?_; (conv => lhs; whnf); (simp [Tm.Ds_all, Tm.D, listAll] <;> (repeat' first | rfl | apply And.intro)); done) | ((simp [Tm.Ds_all, Tm.D, listAll] <;> (repeat' first | rfl | apply And.intro)); done)
  · intro f_terms_Compare_j0 ih_terms_Compare_j0 p r e a0 a1 hp
    subst hp
    refine pure_of_awp (js := [7]) T_ok Try.func96 rfl (by decide +kernel) rfl ?_; (conv => whnf)
    obtain ⟨v1, qv1, e⟩ := bnd e
    refine said_pure (P_cmp_Compare_uint8 qv1) rfl ?_; (conv => whnf)
    refine ⟨⟨fun h2 => ?_, fun h2 => ?_⟩⟩
    · replace e := ifp h2 e; (conv => whnf)
      obtain rfl := sm e
      repeat' first | exact rfl | exact trivial | refine ⟨?_, ?_⟩
    · replace e := ifn h2 e; (conv => whnf)
      obtain ⟨v3, qv3, e⟩ := bnd e
      refine said_pure (P_strings_Compare qv3) rfl ?_; (conv => whnf)
      refine ⟨⟨fun h4 => ?_, fun h4 => ?_⟩⟩
      · replace e := ifp h4 e; (conv => whnf)
        refine ⟨⟨fun h5 => ?_, fun h5 => ?_⟩⟩
        · replace e := ifp h5 e; (conv => whnf)
          obtain rfl := sm e
          repeat' first | exact rfl | exact trivial | refine ⟨?_, ?_⟩
        · replace e := ifn h5 e; (conv => whnf)
          refine Runs.weak (ih_terms_Compare_j0 _ _ e _ _ rfl) ?_
          repeat' first | exact wk.of_eq rfl | exact wk.pure rfl | exact wk.un _ | exact wk.hold _ _ _ | exact rfl | exact trivial | refine ⟨?_, ?_⟩
      · replace e := ifn h4 e; (conv => whnf)
        refine Runs.weak (ih_terms_Compare_j0 _ _ e _ _ rfl) ?_
        repeat' first | exact wk.of_eq rfl | exact wk.pure rfl | exact wk.un _ | exact wk.hold _ _ _ | exact rfl | exact trivial | refine ⟨?_, ?_⟩
  · intro f_slices_CompareFunc_Term_Term_Term_Term__terms_Compare ih_slices_CompareFunc_Term_Term_Term_Term__terms_Compare p r e a0 a1 hp
    subst hp
    refine Runs.enter T_ok ?_; (conv => whnf)
    refine draw_rule [] T_ok mixed terms_Compare_pl7 (by decide +kernel) ?_; (conv => whnf)
    obtain ⟨v4, qv4, e⟩ := bnd e
    refine said_pure (P_types_Compare qv4) rfl ⟨Keeps.refl _ _, ?_⟩; (conv => whnf)
    obtain ⟨v5, qv5, e⟩ := bnd e
    refine said_pure (P_cmp_Compare_int qv5) rfl ⟨Keeps.refl _ _, ?_⟩; (conv => whnf)
    obtain ⟨v6, qv6, e⟩ := bnd e
    first | (refine said_pure (P_cmp_Compare_int qv6) rfl ⟨Keeps.refl _ _, ?_⟩) | (refine said_pure2 (P_cmp_Compare_int qv6) rfl (by simp [Tm.Ds_all, Ty.Ds_all, intDs_i64_all, Tm.D, Ty.D, listAll] <;> (repeat' first | rfl | apply And.intro)) ⟨Keeps.refl _ _, ?_⟩)
    (conv => whnf)
    refine ⟨⟨⟨rfl, rfl⟩, ⟨⟨rfl, rfl⟩, ⟨⟨rfl, rfl⟩, trivial⟩⟩⟩, ?_⟩; (conv => whnf)
    obtain ⟨v7, qv7, e⟩ := bnd e
    first | (refine said_pure (P_cmp_Or_int qv7) rfl ⟨Keeps.refl _ _, ?_⟩) | (refine said_pure2 (P_cmp_Or_int qv7) rfl (by simp [Tm.Ds_all, Ty.Ds_all, intDs_i64_all, Tm.D, Ty.D, listAll] <;> (repeat' first | rfl | apply And.intro)) ⟨Keeps.refl _ _, ?_⟩)
    (conv => whnf)
    refine ⟨⟨fun h8 => ?_, fun h8 => ?_⟩⟩
    · replace e := ifp h8 e; (conv => whnf)
      obtain rfl := sm e
      repeat' first | exact rfl | exact trivial | refine ⟨?_, ?_⟩
    · replace e := ifn h8 e; (conv => whnf)
      obtain ⟨v9, qv9, e⟩ := bnd e
      refine said_pure (ih_slices_CompareFunc_Term_Term_Term_Term__terms_Compare _ _ qv9 _ _ rfl) rfl ?_; (conv => whnf)
      obtain rfl := sm e
      repeat' first | exact rfl | exact trivial | refine ⟨?_, ?_⟩
theorem P_slices_CompareFunc_Term_Term_Term_Term__terms_Compare {a0 : (List Tm)} {a1 : (List Tm)} {r : Int} (e : slices_CompareFunc_Term_Term_Term_Term__terms_Compare a0 a1 = some r) : M_slices_CompareFunc_Term_Term_Term_Term__terms_Compare a0 a1 r := G_slices_CompareFunc_Term_Term_Term_Term__terms_Compare.1 _ _ e _ _ rfl
theorem P_slices_CompareFunc_Term_Term_Term_Term__terms_Compare_l0 {rest0 : (List Tm)} {k0 : Nat} {a0 : (List Tm)} {a1 : (List Tm)} {r : Int} (e : slices_CompareFunc_Term_Term_Term_Term__terms_Compare_l0 rest0 k0 a0 a1 = some r) : M_slices_CompareFunc_Term_Term_Term_Term__terms_Compare_l0 rest0 k0 a0 a1 r := G_slices_CompareFunc_Term_Term_Term_Term__terms_Compare.2.1 _ _ e _ _ _ _ rfl
theorem P_terms_Compare {a0 : Tm} {a1 : Tm} {r : Int} (e : terms_Compare a0 a1 = some r) : M_terms_Compare a0 a1 r := G_slices_CompareFunc_Term_Term_Term_Term__terms_Compare.2.2.1 _ _ e _ _ rfl
theorem P_terms_Compare_j0 {a0 : Tm} {a1 : Tm} {r : Int} (e : terms_Compare_j0 a0 a1 = some r) : M_terms_Compare_j0 a0 a1 r := G_slices_CompareFunc_Term_Term_Term_Term__terms_Compare.2.2.2 _ _ e _ _ rfl

theorem P_terms_Same {a0 : Tm} {a1 : Tm} {r : Bool} (e : terms_Same a0 a1 = some r) : Pure Try.prog 73 [(Tm.D a0), (Tm.D a1)] (.bool r) := by
  unfold terms_Same at e
  refine pure_of_awp (js := []) T_ok Try.func73 rfl (by decide +kernel) rfl ?_; (conv => whnf)
  obtain ⟨v1, qv1, e⟩ := bnd e
  refine said_pure (P_terms_Compare qv1) rfl ?_; (conv => whnf)
  refine test.dec ?_; (conv => whnf)
  obtain rfl := sm e
  repeat' first | exact rfl | exact trivial | refine ⟨?_, ?_⟩

def M_sequentref31_ints_l0 (rest0 : (List Int)) (k0 : Nat) (a1 : (List Int)) (r : Bool) : Prop := ∀ (a0 : (List Int)) (hd0 : rest0 = a0.drop k0), LoopAt T Try.prog Try.f88 Fx0 [] [1, 1, 0, 1, 0] (EP T Try.f88 (.bool r)) [(0, .d (.slice 1 (intDs_i64 a0))), (1, .d (.slice 1 (intDs_i64 a1))), (5, .d (.int .i64 (k0 : Int)))] [[]]
theorem G_sequentref31_ints_l0 : (∀ p r, sequentref31_ints_l0' p = some r → ∀ rest0 k0 a1, (rest0, k0, a1) = p → M_sequentref31_ints_l0 rest0 k0 a1 r) := by
  refine sequentref31_ints_l0'.partial_correctness (fun (p : ((List Int) × Nat × (List Int))) (r : Bool) => ∀ (rest0 : (List Int)) (k0 : Nat) (a1 : (List Int)), (rest0, k0, a1) = p → M_sequentref31_ints_l0 rest0 k0 a1 r) ?_
  · intro f_sequentref31_ints_l0 ih_sequentref31_ints_l0 p r e rest0 k0 a1 hp
    subst hp
    intro a0 hd0
    refine RunsL.len_tmp 0 rfl fun hlenk0 => ?_
    refine RunsL.of_awp (js := []) T_ok ?_; (conv => whnf)
    have hls := intDs_i64_len a0
    cases rest0 with
    | nil =>
      have hk := drop_nil hd0
      refine ⟨⟨fun h => absurd h (by omega), fun _ => ?_⟩⟩; (conv => whnf)
      obtain rfl := sm e
      repeat' first | exact rfl | exact trivial | refine ⟨?_, ?_⟩
    | cons v6 rest0 =>
      obtain ⟨hxv6, hd0, hltv6⟩ := drop_head hd0
      refine ⟨⟨fun _ => ?_, fun h => absurd (by omega) h⟩⟩; (conv => whnf)
      refine draw_rule [] T_ok mixed sequentref31_ints_pl6 (by decide +kernel) ?_; (conv => whnf)
      refine ⟨k0, _, rfl, intDs_i64_get hxv6, ?_⟩; (conv => whnf)
      refine ⟨intDs_i64_fit _ rfl rfl, ?_⟩; (conv => whnf)
      obtain ⟨v7, qv7, e⟩ := bnd e
      obtain ⟨qv7k, qv7a, qv7b⟩ := geti_some qv7
      refine ⟨qv7k, _, qv7a, intDs_i64_get qv7b, ?_⟩; (conv => whnf)
      refine ⟨intDs_i64_fit _ rfl rfl, ?_⟩; (conv => whnf)
      refine ⟨⟨fun h8 => ?_, fun h8 => ?_⟩⟩
      · replace e := ifp h8 e; (conv => whnf)
        obtain rfl := sm e
        repeat' first | exact rfl | exact trivial | refine ⟨?_, ?_⟩
      · replace e := ifn h8 e; (conv => whnf)
        refine ⟨((k0 + 1 : Nat) : Int), wrap64e (by omega) (by omega) (by omega), ?_⟩; (conv => whnf)
        refine (RunsL.weak ((ih_sequentref31_ints_l0 _ _ e _ _ _ rfl) a0 hd0) ?_)
        repeat' first | exact wk.of_eq rfl | exact wk.pure rfl | exact wk.un _ | exact wk.hold _ _ _ | exact rfl | exact trivial | refine ⟨?_, ?_⟩
theorem P_sequentref31_ints_l0 {rest0 : (List Int)} {k0 : Nat} {a1 : (List Int)} {r : Bool} (e : sequentref31_ints_l0 rest0 k0 a1 = some r) : M_sequentref31_ints_l0 rest0 k0 a1 r := G_sequentref31_ints_l0 _ _ e _ _ _ rfl

theorem P_sequentref31_ints {a0 : (List Int)} {a1 : (List Int)} {r : Bool} (e : sequentref31_ints a0 a1 = some r) : Pure Try.prog 88 [(.slice 1 (intDs_i64 a0)), (.slice 1 (intDs_i64 a1))] (.bool r) := by
  unfold sequentref31_ints at e
  refine pure_of_awp (js := []) T_ok Try.func88 rfl (by decide +kernel) rfl ?_; (conv => whnf)
  refine ⟨⟨fun h1 => ?_, fun h1 => ?_⟩⟩
  · replace e := ifp (by first | exact h1 | simpa [intDs_i64_all, listAll] using h1) e; (conv => whnf)
    obtain rfl := sm e
    repeat' first | exact rfl | exact trivial | refine ⟨?_, ?_⟩
  · replace e := ifn (by first | exact h1 | simpa [intDs_i64_all, listAll] using h1) e; (conv => whnf)
    refine RunsL.runs (RunsL.weak ((P_sequentref31_ints_l0 e) a0 (by simp)) ?_)
    repeat' first | exact wk.of_eq rfl | exact wk.pure rfl | exact wk.un _ | exact wk.hold _ _ _ | exact rfl | exact trivial | refine ⟨?_, ?_⟩

theorem P_sequentref31_sameType {a0 : ATypeNode} {a1 : ATypeNode} {r : Bool} (e : sequentref31_sameType a0 a1 = some r) : Pure Try.prog 51 [(ATypeNode.D a0), (ATypeNode.D a1)] (.bool r) := by
  unfold sequentref31_sameType at e
  refine pure_of_awp (js := []) T_ok Try.func51 rfl (by decide +kernel) rfl ?_; (conv => whnf)
  refine ⟨⟨fun h1 => ?_, fun h1 => ?_⟩⟩
  · replace e := ifp h1 e; (conv => whnf)
    refine ⟨⟨fun h2 => ?_, fun h2 => ?_⟩⟩
    · replace e := ifp h2 e; (conv => whnf)
      obtain ⟨v3, qv3, e⟩ := bnd e
      refine said_pure (P_sequentref31_ints qv3) rfl ?_; (conv => whnf)
      obtain rfl := sm e
      repeat' first | exact rfl | exact trivial | refine ⟨?_, ?_⟩
    · replace e := ifn h2 e; (conv => whnf)
      obtain rfl := sm e
      repeat' first | exact rfl | exact trivial | refine ⟨?_, ?_⟩
  · replace e := ifn h1 e; (conv => whnf)
    obtain rfl := sm e
    repeat' first | exact rfl | exact trivial | refine ⟨?_, ?_⟩

theorem P_sequentref31_sameTerm {a0 : ATermNode} {a1 : ATermNode} {r : Bool} (e : sequentref31_sameTerm a0 a1 = some r) : Pure Try.prog 52 [(ATermNode.D a0), (ATermNode.D a1)] (.bool r) := by
  unfold sequentref31_sameTerm at e
  refine pure_of_awp (js := []) T_ok Try.func52 rfl (by decide +kernel) rfl ?_; (conv => whnf)
  refine ⟨⟨fun h1 => ?_, fun h1 => ?_⟩⟩
  · replace e := ifp h1 e; (conv => whnf)
    refine ⟨⟨fun h2 => ?_, fun h2 => ?_⟩⟩
    · replace e := ifp h2 e; (conv => whnf)
      refine ⟨⟨fun h3 => ?_, fun h3 => ?_⟩⟩
      · replace e := ifp h3 e; (conv => whnf)
        refine ⟨⟨fun h4 => ?_, fun h4 => ?_⟩⟩
        · replace e := ifp h4 e; (conv => whnf)
          obtain ⟨v5, qv5, e⟩ := bnd e
          refine said_pure (P_sequentref31_ints qv5) rfl ?_; (conv => whnf)
          obtain rfl := sm e
          repeat' first | exact rfl | exact trivial | refine ⟨?_, ?_⟩
        · replace e := ifn h4 e; (conv => whnf)
          obtain rfl := sm e
          repeat' first | exact rfl | exact trivial | refine ⟨?_, ?_⟩
      · replace e := ifn h3 e; (conv => whnf)
        obtain rfl := sm e
        repeat' first | exact rfl | exact trivial | refine ⟨?_, ?_⟩
    · replace e := ifn h2 e; (conv => whnf)
      refine ⟨⟨fun h3 => ?_, fun h3 => ?_⟩⟩
      · replace e := ifp h3 e; (conv => whnf)
        refine ⟨⟨fun h4 => ?_, fun h4 => ?_⟩⟩
        · replace e := ifp h4 e; (conv => whnf)
          refine ⟨⟨fun h5 => ?_, fun h5 => ?_⟩⟩
          · replace e := ifp h5 e; (conv => whnf)
            obtain ⟨v6, qv6, e⟩ := bnd e
            refine said_pure (P_sequentref31_ints qv6) rfl ?_; (conv => whnf)
            obtain rfl := sm e
            repeat' first | exact rfl | exact trivial | refine ⟨?_, ?_⟩
          · replace e := ifn h5 e; (conv => whnf)
            obtain rfl := sm e
            repeat' first | exact rfl | exact trivial | refine ⟨?_, ?_⟩
        · replace e := ifn h4 e; (conv => whnf)
          obtain rfl := sm e
          repeat' first | exact rfl | exact trivial | refine ⟨?_, ?_⟩
      · replace e := ifn h3 e; (conv => whnf)
        obtain rfl := sm e
        repeat' first | exact rfl | exact trivial | refine ⟨?_, ?_⟩
  · replace e := ifn h1 e; (conv => whnf)
    obtain rfl := sm e
    repeat' first | exact rfl | exact trivial | refine ⟨?_, ?_⟩

def M_sequentref31_Same_l1 (rest1 : (List ATermNode)) (k1 : Nat) (a1 : AStore) (r : Bool) : Prop := ∀ (a0 : AStore) (hd1 : rest1 = a0.terms.drop k1), LoopAt T Try.prog Try.f17 Fx0 [] [1, 1, 1, 0, 1, 0] (EP T Try.f17 (.bool r)) [(2, .ptr 0 0 0), (3, .ptr 0 1 0), (6, .d (.int .i64 (k1 : Int)))] [[.cells [.d (.slice 3 (ATypeNode.Ds a0.types)), .d (.slice 5 (ATermNode.Ds a0.terms))], .cells [.d (.slice 3 (ATypeNode.Ds a1.types)), .d (.slice 5 (ATermNode.Ds a1.terms))]]]
theorem G_sequentref31_Same_l1 : (∀ p r, sequentref31_Same_l1' p = some r → ∀ rest1 k1 a1, (rest1, k1, a1) = p → M_sequentref31_Same_l1 rest1 k1 a1 r) := by
  refine sequentref31_Same_l1'.partial_correctness (fun (p : ((List ATermNode) × Nat × AStore)) (r : Bool) => ∀ (rest1 : (List ATermNode)) (k1 : Nat) (a1 : AStore), (rest1, k1, a1) = p → M_sequentref31_Same_l1 rest1 k1 a1 r) ?_
  · intro f_sequentref31_Same_l1 ih_sequentref31_Same_l1 p r e rest1 k1 a1 hp
    subst hp
    intro a0 hd1
    refine RunsL.len_cell 0 1 rfl rfl rfl fun hlenk1 => ?_
    refine RunsL.of_awp (js := []) T_ok ?_; (conv => whnf)
    have hls := ATermNode.Ds_len a0.terms
    cases rest1 with
    | nil =>
      have hk := drop_nil hd1
      refine ⟨⟨fun h => absurd h (by omega), fun _ => ?_⟩⟩; (conv => whnf)
      obtain rfl := sm e
      repeat' first | exact rfl | exact trivial | refine ⟨?_, ?_⟩
    | cons v7 rest1 =>
      obtain ⟨hxv7, hd1, hltv7⟩ := drop_head hd1
      refine ⟨⟨fun _ => ?_, fun h => absurd (by omega) h⟩⟩; (conv => whnf)
      refine draw_rule [] T_ok mixed sequentref31_Same_pl11 (by decide +kernel) ?_; (conv => whnf)
      refine ⟨k1, _, rfl, ATermNode.Ds_get hxv7, ?_⟩; (conv => whnf)
      refine ⟨ATermNode.Ds_fit _ rfl rfl, ?_⟩; (conv => whnf)
      obtain ⟨v8, qv8, e⟩ := bnd e
      obtain ⟨qv8k, qv8a, qv8b⟩ := geti_some qv8
      refine ⟨qv8k, _, qv8a, ATermNode.Ds_get qv8b, ?_⟩; (conv => whnf)
      refine ⟨ATermNode.Ds_fit _ rfl rfl, ?_⟩; (conv => whnf)
      obtain ⟨v9, qv9, e⟩ := bnd e
      refine said_pure (P_sequentref31_sameTerm qv9) rfl ⟨Keeps.refl _ _, ?_⟩; (conv => whnf)
      refine brK.nsplit (fun hb10 => ?_) (fun hb10 => ?_)
      · replace e := ifpb hb10 e; (conv => whnf)
        refine brK.ntt hb10 ?_; (conv => whnf)
        refine brK.ntt hb10 ?_; (conv => whnf)
        refine brK.ntt hb10 ?_; (conv => whnf)
        refine ⟨k1, _, rfl, ATermNode.Ds_get hxv7, ?_⟩; (conv => whnf)
        refine brK.ntt hb10 ?_; (conv => whnf)
        refine brK.ntt hb10 ?_; (conv => whnf)
        refine brK.ntt hb10 ?_; (conv => whnf)
        refine brK.ntt hb10 ?_; (conv => whnf)
        refine brK.ntt hb10 ?_; (conv => whnf)
        refine brK.ntt hb10 ?_; (conv => whnf)
        obtain ⟨v11, qv11, e⟩ := bnd e
        obtain ⟨qv11k, qv11a, qv11b⟩ := geti_some qv11
        refine ⟨qv11k, _, qv11a, ATermNode.Ds_get qv11b, ?_⟩; (conv => whnf)
        refine brK.ntt hb10 ?_; (conv => whnf)
        refine brK.ntt hb10 ?_; (conv => whnf)
        refine brK.ntt hb10 ?_; (conv => whnf)
        refine ⟨⟨fun h12 => ?_, fun h12 => ?_⟩⟩
        · replace e := ifp h12 e; (conv => whnf)
          refine brK.ntt hb10 ?_; (conv => whnf)
          obtain rfl := sm e
          repeat' first | exact rfl | exact trivial | refine ⟨?_, ?_⟩
        · replace e := ifn h12 e; (conv => whnf)
          refine brK.ntt hb10 ?_; (conv => whnf)
          refine ⟨((k1 + 1 : Nat) : Int), wrap64e (by omega) (by omega) (by omega), ?_⟩; (conv => whnf)
          refine (RunsL.weak ((ih_sequentref31_Same_l1 _ _ e _ _ _ rfl) a0 hd1) ?_)
          repeat' first | exact wk.of_eq rfl | exact wk.pure rfl | exact wk.un _ | exact wk.hold _ _ _ | exact rfl | exact trivial | refine ⟨?_, ?_⟩
      · replace e := ifnb hb10 e; (conv => whnf)
        refine brK.nff hb10 ?_; (conv => whnf)
        refine brK.nff hb10 ?_; (conv => whnf)
        refine brK.nff hb10 ?_; (conv => whnf)
        refine brK.nff hb10 ?_; (conv => whnf)
        refine brK.nff hb10 ?_; (conv => whnf)
        refine brK.nff hb10 ?_; (conv => whnf)
        refine brK.nff hb10 ?_; (conv => whnf)
        refine brK.nff hb10 ?_; (conv => whnf)
        refine brK.nff hb10 ?_; (conv => whnf)
        refine brK.nff hb10 ?_; (conv => whnf)
        refine brK.nff hb10 ?_; (conv => whnf)
        refine brK.nff hb10 ?_; (conv => whnf)
        refine brK.nff hb10 ?_; (conv => whnf)
        obtain rfl := sm e
        repeat' first | exact rfl | exact trivial | refine ⟨?_, ?_⟩
theorem P_sequentref31_Same_l1 {rest1 : (List ATermNode)} {k1 : Nat} {a1 : AStore} {r : Bool} (e : sequentref31_Same_l1 rest1 k1 a1 = some r) : M_sequentref31_Same_l1 rest1 k1 a1 r := G_sequentref31_Same_l1 _ _ e _ _ _ rfl

def M_sequentref31_Same_l0 (rest0 : (List ATypeNode)) (k0 : Nat) (a0 : AStore) (a1 : AStore) (r : Bool) : Prop := ∀ (hd0 : rest0 = a0.types.drop k0), LoopAt T Try.prog Try.f17 Fx0 [] [1, 1, 0, 1, 0] (EP T Try.f17 (.bool r)) [(2, .ptr 0 0 0), (3, .ptr 0 1 0), (5, .d (.int .i64 (k0 : Int)))] [[.cells [.d (.slice 3 (ATypeNode.Ds a0.types)), .d (.slice 5 (ATermNode.Ds a0.terms))], .cells [.d (.slice 3 (ATypeNode.Ds a1.types)), .d (.slice 5 (ATermNode.Ds a1.terms))]]]
theorem G_sequentref31_Same_l0 : (∀ p r, sequentref31_Same_l0' p = some r → ∀ rest0 k0 a0 a1, (rest0, k0, a0, a1) = p → M_sequentref31_Same_l0 rest0 k0 a0 a1 r) := by
  refine sequentref31_Same_l0'.partial_correctness (fun (p : ((List ATypeNode) × Nat × AStore × AStore)) (r : Bool) => ∀ (rest0 : (List ATypeNode)) (k0 : Nat) (a0 : AStore) (a1 : AStore), (rest0, k0, a0, a1) = p → M_sequentref31_Same_l0 rest0 k0 a0 a1 r) ?_
  · intro f_sequentref31_Same_l0 ih_sequentref31_Same_l0 p r e rest0 k0 a0 a1 hp
    subst hp
    intro hd0
    refine RunsL.len_cell 0 0 rfl rfl rfl fun hlenk0 => ?_
    refine RunsL.of_awp (js := []) T_ok ?_; (conv => whnf)
    have hls := ATypeNode.Ds_len a0.types
    cases rest0 with
    | nil =>
      have hk := drop_nil hd0
      refine ⟨⟨fun h => absurd h (by omega), fun _ => ?_⟩⟩; (conv => whnf)
      refine RunsL.runs (RunsL.weak ((P_sequentref31_Same_l1 e) a0 (by simp)) ?_)
      repeat' first | exact wk.of_eq rfl | exact wk.pure rfl | exact wk.un _ | exact wk.hold _ _ _ | exact rfl | exact trivial | refine ⟨?_, ?_⟩
    | cons v6 rest0 =>
      obtain ⟨hxv6, hd0, hltv6⟩ := drop_head hd0
      refine ⟨⟨fun _ => ?_, fun h => absurd (by omega) h⟩⟩; (conv => whnf)
      refine draw_rule [] T_ok mixed sequentref31_Same_pl6 (by decide +kernel) ?_; (conv => whnf)
      refine ⟨k0, _, rfl, ATypeNode.Ds_get hxv6, ?_⟩; (conv => whnf)
      refine ⟨ATypeNode.Ds_fit _ rfl rfl, ?_⟩; (conv => whnf)
      obtain ⟨v7, qv7, e⟩ := bnd e
      obtain ⟨qv7k, qv7a, qv7b⟩ := geti_some qv7
      refine ⟨qv7k, _, qv7a, ATypeNode.Ds_get qv7b, ?_⟩; (conv => whnf)
      refine ⟨ATypeNode.Ds_fit _ rfl rfl, ?_⟩; (conv => whnf)
      obtain ⟨v8, qv8, e⟩ := bnd e
      refine said_pure (P_sequentref31_sameType qv8) rfl ⟨Keeps.refl _ _, ?_⟩; (conv => whnf)
      refine brK.nsplit (fun hb9 => ?_) (fun hb9 => ?_)
      · replace e := ifpb hb9 e; (conv => whnf)
        refine ⟨((k0 + 1 : Nat) : Int), wrap64e (by omega) (by omega) (by omega), ?_⟩; (conv => whnf)
        refine (RunsL.weak ((ih_sequentref31_Same_l0 _ _ e _ _ _ _ rfl) hd0) ?_)
        repeat' first | exact wk.of_eq rfl | exact wk.pure rfl | exact wk.un _ | exact wk.hold _ _ _ | exact rfl | exact trivial | refine ⟨?_, ?_⟩
      · replace e := ifnb hb9 e; (conv => whnf)
        obtain rfl := sm e
        repeat' first | exact rfl | exact trivial | refine ⟨?_, ?_⟩
theorem P_sequentref31_Same_l0 {rest0 : (List ATypeNode)} {k0 : Nat} {a0 : AStore} {a1 : AStore} {r : Bool} (e : sequentref31_Same_l0 rest0 k0 a0 a1 = some r) : M_sequentref31_Same_l0 rest0 k0 a0 a1 r := G_sequentref31_Same_l0 _ _ e _ _ _ _ rfl

theorem P_sequentref31_Same {a0 : AStore} {a1 : AStore} {r : Bool} (e : sequentref31_Same a0 a1 = some r) : Pure Try.prog 17 [(AStore.D a0), (AStore.D a1)] (.bool r) := by
  unfold sequentref31_Same at e
  refine pure_of_awp (js := []) T_ok Try.func17 rfl (by decide +kernel) rfl ?_; (conv => whnf)
  refine ⟨⟨fun h1 => ?_, fun h1 => ?_⟩⟩
  · replace e := ifp (by first | exact h1 | simpa [ATermNode.Ds_all, ATypeNode.Ds_all, AStore.D, ATermNode.D, ATypeNode.D, listAll] using h1) e; (conv => whnf)
    obtain rfl := sm e
    repeat' first | exact rfl | exact trivial | refine ⟨?_, ?_⟩
  · replace e := ifn (by first | exact h1 | simpa [ATermNode.Ds_all, ATypeNode.Ds_all, AStore.D, ATermNode.D, ATypeNode.D, listAll] using h1) e; (conv => whnf)
    refine ⟨⟨fun h2 => ?_, fun h2 => ?_⟩⟩
    · replace e := ifp (by first | exact h2 | simpa [ATermNode.Ds_all, ATypeNode.Ds_all, AStore.D, ATermNode.D, ATypeNode.D, listAll] using h2) e; (conv => whnf)
      obtain rfl := sm e
      repeat' first | exact rfl | exact trivial | refine ⟨?_, ?_⟩
    · replace e := ifn (by first | exact h2 | simpa [ATermNode.Ds_all, ATypeNode.Ds_all, AStore.D, ATermNode.D, ATypeNode.D, listAll] using h2) e; (conv => whnf)
      refine RunsL.runs (RunsL.weak ((P_sequentref31_Same_l0 e) (by simp)) ?_)
      repeat' first | exact wk.of_eq rfl | exact wk.pure rfl | exact wk.un _ | exact wk.hold _ _ _ | exact rfl | exact trivial | refine ⟨?_, ?_⟩

theorem P_sequentlaw31_alive {r : Bool} (e : sequentlaw31_alive = some r) : Pure Try.prog 37 [] (.bool r) := by
  unfold sequentlaw31_alive at e
  refine pure_of_awp (js := []) T_ok Try.func37 rfl (by decide +kernel) rfl ?_; (conv => whnf)
  obtain ⟨v1, qv1, e⟩ := bnd e
  refine said_pure (P_sequentlaw31_twice qv1) rfl ?_; (conv => whnf)
  obtain ⟨v2, qv2, e⟩ := bnd e
  refine said_pure (P_hash_Add qv2) rfl ?_; (conv => whnf)
  obtain ⟨v3, qv3, e⟩ := bnd e
  refine said_pure (P_hash_Size qv3) rfl ?_; (conv => whnf)
  obtain ⟨v4, qv4, e⟩ := bnd e
  refine said_pure (P_hash_Shared qv4) rfl ?_; (conv => whnf)
  obtain ⟨v5, qv5, e⟩ := bnd e
  refine said_pure (P_hash_Get qv5) rfl ?_; (conv => whnf)
  refine ⟨⟨⟨rfl, rfl⟩, ⟨⟨rfl, rfl⟩, trivial⟩⟩, ?_⟩; (conv => whnf)
  refine ⟨⟨⟨rfl, rfl⟩, ⟨⟨rfl, rfl⟩, trivial⟩⟩, ?_⟩; (conv => whnf)
  refine ⟨⟨⟨rfl, rfl⟩, ⟨⟨rfl, rfl⟩, trivial⟩⟩, ?_⟩; (conv => whnf)
  refine ⟨⟨⟨rfl, rfl⟩, ⟨⟨rfl, rfl⟩, trivial⟩⟩, ?_⟩; (conv => whnf)
  refine ⟨⟨⟨rfl, rfl⟩, ⟨⟨rfl, rfl⟩, ⟨⟨rfl, rfl⟩, ⟨⟨rfl, rfl⟩, trivial⟩⟩⟩⟩, ?_⟩; (conv => whnf)
  refine draw_rule [] T_ok mixed sequentlaw31_alive_pl6 (by decide +kernel) ?_; (conv => whnf)
  refine ⟨⟨fun h6 => ?_, fun h6 => ?_⟩⟩
  · replace e := ifp h6 e; (conv => whnf)
    refine ⟨⟨fun h7 => ?_, fun h7 => ?_⟩⟩
    · replace e := ifp h7 e; (conv => whnf)
      refine ⟨⟨fun h8 => ?_, fun h8 => ?_⟩⟩
      · replace e := ifp h8 e; (conv => whnf)
        refine ⟨⟨fun h9 => ?_, fun h9 => ?_⟩⟩
        · replace e := ifp h9 e; (conv => whnf)
          refine ⟨⟨fun h10 => ?_, fun h10 => ?_⟩⟩
          · replace e := ifp h10 e; (conv => whnf)
            refine ⟨⟨fun h11 => ?_, fun h11 => ?_⟩⟩
            · replace e := ifp h11 e; (conv => whnf)
              refine ⟨⟨fun h12 => ?_, fun h12 => ?_⟩⟩
              · replace e := ifp h12 e; (conv => whnf)
                obtain ⟨v13, qv13, e⟩ := bnd e
                refine said_pure (P_sequentlaw31_twice qv13) rfl ⟨Keeps.refl _ _, ?_⟩; (conv => whnf)
                obtain ⟨v14, qv14, e⟩ := bnd e
                refine said_pure (P_terms_Same qv14) rfl ⟨Keeps.refl _ _, ?_⟩; (conv => whnf)
                refine brK.split (fun hb15 => ?_) (fun hb15 => ?_)
                · replace e := ifpb hb15 e; (conv => whnf)
                  refine brK.tt hb15 ?_; (conv => whnf)
                  refine brK.tt hb15 ?_; (conv => whnf)
                  obtain ⟨v16, qv16, e⟩ := bnd e
                  first | (refine said_pure (P_sequentref31_Same qv16) rfl ⟨Keeps.refl _ _, ?_⟩) | (refine said_pure2 (P_sequentref31_Same qv16) rfl (by simp [ATermNode.Ds_all, ATypeNode.Ds_all, Tm.Ds_all, Ty.Ds_all, intDs_i64_all, AStore.D, ATermNode.D, ATypeNode.D, Tm.D, Ty.D, listAll] <;> (repeat' first | rfl | apply And.intro)) ⟨Keeps.refl _ _, ?_⟩)
                  (conv => whnf)
                  refine brK.tt hb15 ?_; (conv => whnf)
                  obtain rfl := sm e
                  repeat' first | exact rfl | exact trivial | refine ⟨?_, ?_⟩
                · replace e := ifnb hb15 e; (conv => whnf)
                  refine brK.ff hb15 ?_; (conv => whnf)
                  refine brK.ff hb15 ?_; (conv => whnf)
                  refine brK.ff hb15 ?_; (conv => whnf)
                  obtain rfl := sm e
                  repeat' first | exact rfl | exact trivial | refine ⟨?_, ?_⟩
              · replace e := ifn h12 e; (conv => whnf)
                obtain rfl := sm e
                repeat' first | exact rfl | exact trivial | refine ⟨?_, ?_⟩
            · replace e := ifn h11 e; (conv => whnf)
              obtain rfl := sm e
              repeat' first | exact rfl | exact trivial | refine ⟨?_, ?_⟩
          · replace e := ifn h10 e; (conv => whnf)
            obtain rfl := sm e
            repeat' first | exact rfl | exact trivial | refine ⟨?_, ?_⟩
        · replace e := ifn h9 e; (conv => whnf)
          obtain rfl := sm e
          repeat' first | exact rfl | exact trivial | refine ⟨?_, ?_⟩
      · replace e := ifn h8 e; (conv => whnf)
        obtain rfl := sm e
        repeat' first | exact rfl | exact trivial | refine ⟨?_, ?_⟩
    · replace e := ifn h7 e; (conv => whnf)
      obtain rfl := sm e
      repeat' first | exact rfl | exact trivial | refine ⟨?_, ?_⟩
  · replace e := ifn h6 e; (conv => whnf)
    obtain rfl := sm e
    repeat' first | exact rfl | exact trivial | refine ⟨?_, ?_⟩

theorem P_hash_Check {a0 : AStore} {r : Int} (e : hash_Check a0 = some r) : Pure Try.prog 31 [(AStore.D a0)] (.int .i64 r) := by
  unfold hash_Check at e
  refine pure_of_awp (js := []) T_ok Try.func31 rfl (by decide +kernel) rfl ?_; (conv => whnf)
  obtain ⟨v1, qv1, e⟩ := bnd e
  rcases v1 with v2 | v3 | v4
  · refine said_iorF (P_hash_open_io qv1) [] [.d (AStore.D a0)] rfl ⟨wk.pure rfl, trivial⟩ rfl rfl ?_; (conv => whnf)
    obtain rfl := sm e
    repeat' first | exact rfl | exact trivial | refine ⟨?_, ?_⟩
  · refine said_iorF (P_hash_open_io qv1) [] [.d (AStore.D a0)] rfl ⟨wk.pure rfl, trivial⟩ rfl rfl ?_; (conv => whnf)
    obtain rfl := sm e
    repeat' first | exact rfl | exact trivial | refine ⟨?_, ?_⟩
  · refine said_iorF (P_hash_open_io qv1) [] [.d (AStore.D a0)] rfl ⟨wk.pure rfl, trivial⟩ rfl rfl ?_; (conv => whnf)
    obtain rfl := sm e
    repeat' first | exact rfl | exact trivial | refine ⟨?_, ?_⟩

theorem P_sequentlaw31_lambda {a0 : ByteArray} {r : Tm} (e : sequentlaw31_lambda a0 = some r) : Pure Try.prog 41 [(.str a0)] (Tm.D r) := by
  unfold sequentlaw31_lambda at e
  refine pure_of_awp (js := []) T_ok Try.func41 rfl (by decide +kernel) rfl ?_; (conv => whnf)
  obtain ⟨v1, qv1, e⟩ := bnd e
  refine said_pure (P_types_Bool qv1) rfl ?_; (conv => whnf)
  refine ⟨⟨⟨rfl, rfl⟩, trivial⟩, ?_⟩; (conv => whnf)
  obtain rfl := sm e
  repeat' first | exact rfl | exact trivial | exact ⟨_, rfl, (by first | exact rfl | (simp [Tm.Ds_all, Ty.Ds_all, Tm.D, Ty.D, listAll] <;> (repeat' first | rfl | apply And.intro))), (by first | exact rfl | (simp [Tm.Ds_all, Ty.Ds_all, Tm.D, Ty.D, listAll] <;> (repeat' first | rfl | apply And.intro)))⟩ | refine ⟨?_, ?_⟩ | (simp [Tm.Ds_all, Ty.Ds_all, Tm.D, Ty.D, listAll] <;> (repeat' first | rfl | apply And.intro))

theorem P_hash_Find_j0 {r : (Int × Bool × Int)} (e : hash_Find_j0 = some r) : ∀ (a0 : AStore) (a1 : Tm), JoinAt T Try.prog Try.f20 Fx0 [2] [1, 1, 0, 0] (EP T Try.f20 (.tuple [(.int .i64 r.1), (.bool r.2.1), (.int .i64 r.2.2)])) [(3, .ptr 0 1 0), (7, .d .nilptr), (8, .d (.int .i64 4))] [[.cells [.d (.slice 3 (ATypeNode.Ds a0.types)), .d (.slice 5 (ATermNode.Ds a0.terms))], .cells [.d (.int .u8 a1.kind), .d (.str a1.name), .d (.bool a1.ty.v), .d (.str a1.ty.name), .d (.slice 3 (Ty.Ds a1.ty.args)), .d (.int .i64 a1.index), .d (.slice 7 (Tm.Ds a1.sub))]]] := by
  unfold hash_Find_j0 at e
  intro a0 a1
  refine Runs.enter T_ok ?_; (conv => whnf)
  refine ⟨⟨fun h => absurd h (by decide), fun _ => ?_⟩⟩; (conv => whnf)
  refine ⟨⟨fun _ => ?_, fun h => absurd (by decide) h⟩⟩; (conv => whnf)
  obtain rfl := sm e
  repeat' first | exact rfl | exact trivial | refine ⟨?_, ?_⟩

theorem P_hash_Find_j0b {r : (Int × Bool × Int)} (e : hash_Find_j0b = some r) : ∀ (a0 : AStore) (a1 : Tm), JoinAt T Try.prog Try.f20 Fx0 [2] [1, 1, 0, 0] (EP T Try.f20 (.tuple [(.int .i64 r.1), (.bool r.2.1), (.int .i64 r.2.2)])) [(3, .ptr 0 1 0), (7, .d .nilptr), (8, .d (.int .i64 8))] [[.cells [.d (.slice 3 (ATypeNode.Ds a0.types)), .d (.slice 5 (ATermNode.Ds a0.terms))], .cells [.d (.int .u8 a1.kind), .d (.str a1.name), .d (.bool a1.ty.v), .d (.str a1.ty.name), .d (.slice 3 (Ty.Ds a1.ty.args)), .d (.int .i64 a1.index), .d (.slice 7 (Tm.Ds a1.sub))]]] := by
  unfold hash_Find_j0b at e
  intro a0 a1
  refine Runs.enter T_ok ?_; (conv => whnf)
  refine ⟨⟨fun h => absurd h (by decide), fun _ => ?_⟩⟩; (conv => whnf)
  refine ⟨⟨fun _ => ?_, fun h => absurd (by decide) h⟩⟩; (conv => whnf)
  obtain rfl := sm e
  repeat' first | exact rfl | exact trivial | refine ⟨?_, ?_⟩

theorem P_hash_Find_j0c {a1 : Tm} {v4 : ((List ATypeNode) × (List ATermNode) × (List (HashTypeKey × Int)) × (List (HashTermKey × Int)))} {r : (Int × Bool × Int)} (e : hash_Find_j0c a1 v4 = some r) : ∀ (a0 : AStore), JoinAt T Try.prog Try.f20 Fx0 [2] [1, 1, 0, 0] (EP T Try.f20 (.tuple [(.int .i64 r.1), (.bool r.2.1), (.int .i64 r.2.2)])) [(3, .ptr 0 1 0), (7, .ptr 0 2 0), (8, .d (.int .i64 0))] [[.cells [.d (.slice 3 (ATypeNode.Ds a0.types)), .d (.slice 5 (ATermNode.Ds a0.terms))], .cells [.d (.int .u8 a1.kind), .d (.str a1.name), .d (.bool a1.ty.v), .d (.str a1.ty.name), .d (.slice 3 (Ty.Ds a1.ty.args)), .d (.int .i64 a1.index), .d (.slice 7 (Tm.Ds a1.sub))], .cells [.own 0 3 3 (ATypeNode.Ds v4.1), .own 0 4 5 (ATermNode.Ds v4.2.1), .map 0 5, .map 0 6], .grow 3 (ATypeNode.Ds v4.1).length, .grow 5 (ATermNode.Ds v4.2.1).length, .map (mapD HashTypeKey.D (D.int .i64) v4.2.2.1), .map (mapD HashTermKey.D (D.int .i64) v4.2.2.2)]] := by
  unfold hash_Find_j0c at e
  intro a0
  refine Runs.enter T_ok ?_; (conv => whnf)
  refine ⟨⟨fun _ => ?_, fun h => absurd (by decide) h⟩⟩; (conv => whnf)
  obtain ⟨v5, qv5, e⟩ := bnd e
  refine said_pure (P_terms_Check qv5) rfl ?_; (conv => whnf)
  refine ⟨⟨fun h6 => ?_, fun h6 => ?_⟩⟩
  · replace e := ifp h6 e; (conv => whnf)
    obtain rfl := sm e
    repeat' first | exact rfl | exact trivial | refine ⟨?_, ?_⟩
  · replace e := ifn h6 e; (conv => whnf)
    obtain ⟨v7, qv7, e⟩ := bnd e
    first | (refine said_iorF (P_hash_table_add_io qv7) [2, 3, 4, 5, 6] [.ptr 0 2 0, .d (Tm.D a1)] rfl ⟨wk.refl _, wk.pure rfl, trivial⟩ rfl rfl ?_) | (refine said_iorF2 (P_hash_table_add_io qv7) [2, 3, 4, 5, 6] [.ptr 0 2 0, .d (Tm.D a1)] rfl ⟨wk.refl _, wk.pure rfl, trivial⟩ rfl rfl (by simp [ATermNode.Ds_all, ATypeNode.Ds_all, Tm.Ds_all, Ty.Ds_all, AStore.D, ATermNode.D, ATypeNode.D, Tm.D, Ty.D, listAll] <;> (repeat' first | rfl | apply And.intro)) ?_)
    (conv => whnf)
    refine ⟨⟨fun h8 => ?_, fun h8 => ?_⟩⟩
    · replace e := ifp (by first | exact h8 | simpa [ATermNode.Ds_all, ATypeNode.Ds_all, Tm.Ds_all, Ty.Ds_all, AStore.D, ATermNode.D, ATypeNode.D, Tm.D, Ty.D, listAll] using h8) e; (conv => whnf)
      obtain rfl := sm e
      repeat' first | exact rfl | exact trivial | refine ⟨?_, ?_⟩
    · replace e := ifn (by first | exact h8 | simpa [ATermNode.Ds_all, ATypeNode.Ds_all, Tm.Ds_all, Ty.Ds_all, AStore.D, ATermNode.D, ATypeNode.D, Tm.D, Ty.D, listAll] using h8) e; (conv => whnf)
      obtain rfl := sm e
      repeat' first | exact rfl | exact trivial | refine ⟨?_, ?_⟩

theorem P_hash_Find {a0 : AStore} {a1 : Tm} {r : (Int × Bool × Int)} (e : hash_Find a0 a1 = some r) : Pure Try.prog 20 [(AStore.D a0), (Tm.D a1)] (.tuple [(.int .i64 r.1), (.bool r.2.1), (.int .i64 r.2.2)]) := by
  unfold hash_Find at e
  refine pure_of_awp (js := [2]) T_ok Try.func20 rfl (by decide +kernel) rfl ?_; (conv => whnf)
  obtain ⟨v1, qv1, e⟩ := bnd e
  rcases v1 with v2 | v3 | v4
  · refine said_iorF (P_hash_open_io qv1) [] [.d (AStore.D a0)] rfl ⟨wk.pure rfl, trivial⟩ rfl rfl ?_; (conv => whnf)
    refine Runs.weak ((P_hash_Find_j0 e) a0 a1) ?_
    repeat' first | exact wk.of_eq rfl | exact wk.pure rfl | exact wk.un _ | exact wk.hold _ _ _ | exact rfl | exact trivial | refine ⟨?_, ?_⟩
  · refine said_iorF (P_hash_open_io qv1) [] [.d (AStore.D a0)] rfl ⟨wk.pure rfl, trivial⟩ rfl rfl ?_; (conv => whnf)
    refine Runs.weak ((P_hash_Find_j0b e) a0 a1) ?_
    repeat' first | exact wk.of_eq rfl | exact wk.pure rfl | exact wk.un _ | exact wk.hold _ _ _ | exact rfl | exact trivial | refine ⟨?_, ?_⟩
  · refine said_iorF (P_hash_open_io qv1) [] [.d (AStore.D a0)] rfl ⟨wk.pure rfl, trivial⟩ rfl rfl ?_; (conv => whnf)
    refine Runs.weak ((P_hash_Find_j0c e) a0) ?_
    repeat' first | exact wk.of_eq rfl | exact wk.pure rfl | exact wk.un _ | exact wk.hold _ _ _ | exact rfl | exact trivial | refine ⟨?_, ?_⟩ | (refine wk.of_eq ?_; (conv => lhs; whnf); (simp [ATermNode.Ds_all, ATypeNode.Ds_all, Tm.Ds_all, Ty.Ds_all, AStore.D, ATermNode.D, ATypeNode.D, Tm.D, Ty.D, listAll] <;> (repeat' first | rfl | apply And.intro)); done) | (refine wk.pure ?_; (conv => lhs; whnf); (simp [ATermNode.Ds_all, ATypeNode.Ds_all, Tm.Ds_all, Ty.Ds_all, AStore.D, ATermNode.D, ATypeNode.D, Tm.D, Ty.D, listAll] <;> (repeat' first | rfl | apply And.intro)); done) | ((simp [ATermNode.Ds_all, ATypeNode.Ds_all, Tm.Ds_all, Ty.Ds_all, AStore.D, ATermNode.D, ATypeNode.D, Tm.D, Ty.D, listAll] <;> (repeat' first | rfl | apply And.intro)); done)

def M_slices_Equal_int_int_l0 (rest0 : (List Int)) (k0 : Nat) (a1 : (List Int)) (r : Bool) : Prop := ∀ (a0 : (List Int)) (hd0 : rest0 = a0.drop k0), LoopAt T Try.prog Try.f69 Fx0 [] [1, 1, 0, 1, 0] (EP T Try.f69 (.bool r)) [(0, .d (.slice 1 (intDs_i64 a0))), (1, .d (.slice 1 (intDs_i64 a1))), (12, .d (.int .i64 ((intDs_i64 a0).length : Int))), (13, .d (.int .i64 (k0 : Int)))] [[]]
theorem G_slices_Equal_int_int_l0 : (∀ p r, slices_Equal_int_int_l0' p = some r → ∀ rest0 k0 a1, (rest0, k0, a1) = p → M_slices_Equal_int_int_l0 rest0 k0 a1 r) := by
  refine slices_Equal_int_int_l0'.partial_correctness (fun (p : ((List Int) × Nat × (List Int))) (r : Bool) => ∀ (rest0 : (List Int)) (k0 : Nat) (a1 : (List Int)), (rest0, k0, a1) = p → M_slices_Equal_int_int_l0 rest0 k0 a1 r) ?_
  · intro f_slices_Equal_int_int_l0 ih_slices_Equal_int_int_l0 p r e rest0 k0 a1 hp
    subst hp
    intro a0 hd0
    refine RunsL.len_tmp 0 rfl fun hlenk0 => ?_
    refine RunsL.of_awp (js := []) T_ok ?_; (conv => whnf)
    have hls := intDs_i64_len a0
    cases rest0 with
    | nil =>
      have hk := drop_nil hd0
      refine ⟨⟨fun h => absurd h (by omega), fun _ => ?_⟩⟩; (conv => whnf)
      obtain rfl := sm e
      repeat' first | exact rfl | exact trivial | refine ⟨?_, ?_⟩
    | cons v14 rest0 =>
      obtain ⟨hxv14, hd0, hltv14⟩ := drop_head hd0
      refine ⟨⟨fun _ => ?_, fun h => absurd (by omega) h⟩⟩; (conv => whnf)
      refine draw_rule [] T_ok mixed slices_Equal_int_int_pl6 (by decide +kernel) ?_; (conv => whnf)
      refine ⟨k0, _, rfl, intDs_i64_get hxv14, ?_⟩; (conv => whnf)
      refine ⟨intDs_i64_fit _ rfl rfl, ?_⟩; (conv => whnf)
      obtain ⟨v15, qv15, e⟩ := bnd e
      obtain ⟨qv15k, qv15a, qv15b⟩ := geti_some qv15
      refine ⟨qv15k, _, qv15a, intDs_i64_get qv15b, ?_⟩; (conv => whnf)
      refine ⟨intDs_i64_fit _ rfl rfl, ?_⟩; (conv => whnf)
      refine ⟨⟨fun h16 => ?_, fun h16 => ?_⟩⟩
      · replace e := ifp h16 e; (conv => whnf)
        obtain rfl := sm e
        repeat' first | exact rfl | exact trivial | refine ⟨?_, ?_⟩
      · replace e := ifn h16 e; (conv => whnf)
        refine ⟨((k0 + 1 : Nat) : Int), wrap64e (by omega) (by omega) (by omega), ?_⟩; (conv => whnf)
        refine (RunsL.weak ((ih_slices_Equal_int_int_l0 _ _ e _ _ _ rfl) a0 hd0) ?_)
        repeat' first | exact wk.of_eq rfl | exact wk.pure rfl | exact wk.un _ | exact wk.hold _ _ _ | exact rfl | exact trivial | refine ⟨?_, ?_⟩ | (refine wk.of_eq ?_; (conv => lhs; whnf); (simp [intDs_i64_all, listAll] <;> (repeat' first | rfl | apply And.intro)); done) | (refine wk.pure ?_; (conv => lhs; whnf); (simp [intDs_i64_all, listAll] <;> (repeat' first | rfl | apply And.intro)); done) | ((simp [intDs_i64_all, listAll] <;> (repeat' first | rfl | apply And.intro)); done)
theorem P_slices_Equal_int_int_l0 {rest0 : (List Int)} {k0 : Nat} {a1 : (List Int)} {r : Bool} (e : slices_Equal_int_int_l0 rest0 k0 a1 = some r) : M_slices_Equal_int_int_l0 rest0 k0 a1 r := G_slices_Equal_int_int_l0 _ _ e _ _ _ rfl

theorem P_slices_Equal_int_int {a0 : (List Int)} {a1 : (List Int)} {r : Bool} (e : slices_Equal_int_int a0 a1 = some r) : Pure Try.prog 69 [(.slice 1 (intDs_i64 a0)), (.slice 1 (intDs_i64 a1))] (.bool r) := by
  unfold slices_Equal_int_int at e
  refine pure_of_awp (js := []) T_ok Try.func69 rfl (by decide +kernel) rfl ?_; (conv => whnf)
  refine ⟨⟨fun h1 => ?_, fun h1 => ?_⟩⟩
  · replace e := ifp (by first | exact h1 | simpa [intDs_i64_all, listAll] using h1) e; (conv => whnf)
    obtain rfl := sm e
    repeat' first | exact rfl | exact trivial | refine ⟨?_, ?_⟩
  · replace e := ifn (by first | exact h1 | simpa [intDs_i64_all, listAll] using h1) e; (conv => whnf)
    refine RunsL.runs (RunsL.weak ((P_slices_Equal_int_int_l0 e) a0 (by simp)) ?_)
    repeat' first | exact wk.of_eq rfl | exact wk.pure rfl | exact wk.un _ | exact wk.hold _ _ _ | exact rfl | exact trivial | refine ⟨?_, ?_⟩ | (refine wk.of_eq ?_; (conv => lhs; whnf); (simp [intDs_i64_all, listAll] <;> (repeat' first | rfl | apply And.intro)); done) | (refine wk.pure ?_; (conv => lhs; whnf); (simp [intDs_i64_all, listAll] <;> (repeat' first | rfl | apply And.intro)); done) | ((simp [intDs_i64_all, listAll] <;> (repeat' first | rfl | apply And.intro)); done)

theorem P_hash_Same_1 {a0 : ATypeNode} {a1 : ATypeNode} {r : Bool} (e : hash_Same_1 a0 a1 = some r) : Pure Try.prog 68 [(ATypeNode.D a0), (ATypeNode.D a1)] (.bool r) := by
  unfold hash_Same_1 at e
  refine pure_of_awp (js := []) T_ok Try.func68 rfl (by decide +kernel) rfl ?_; (conv => whnf)
  refine ⟨⟨fun h1 => ?_, fun h1 => ?_⟩⟩
  · replace e := ifp h1 e; (conv => whnf)
    refine ⟨⟨fun h2 => ?_, fun h2 => ?_⟩⟩
    · replace e := ifp h2 e; (conv => whnf)
      obtain ⟨v3, qv3, e⟩ := bnd e
      refine said_pure (P_slices_Equal_int_int qv3) rfl ?_; (conv => whnf)
      obtain rfl := sm e
      repeat' first | exact rfl | exact trivial | refine ⟨?_, ?_⟩
    · replace e := ifn h2 e; (conv => whnf)
      obtain rfl := sm e
      repeat' first | exact rfl | exact trivial | refine ⟨?_, ?_⟩
  · replace e := ifn h1 e; (conv => whnf)
    obtain rfl := sm e
    repeat' first | exact rfl | exact trivial | refine ⟨?_, ?_⟩

def M_slices_EqualFunc_TypeNode_TypeNode_TypeNode_TypeNode__hash_Same_1_l0 (rest0 : (List ATypeNode)) (k0 : Nat) (a1 : (List ATypeNode)) (r : Bool) : Prop := ∀ (a0 : (List ATypeNode)) (hd0 : rest0 = a0.drop k0), LoopAt T Try.prog Try.f67 Fx0 [] [1, 1, 0, 1, 0] (EP T Try.f67 (.bool r)) [(1, .d (.slice 3 (ATypeNode.Ds a1))), (2, .d (.func (.func 68) [] [])), (15, .d (.slice 3 (ATypeNode.Ds a0))), (16, .d (.int .i64 ((ATypeNode.Ds a0).length : Int))), (17, .d (.int .i64 (k0 : Int)))] [[]]
theorem G_slices_EqualFunc_TypeNode_TypeNode_TypeNode_TypeNode__hash_Same_1_l0 : (∀ p r, slices_EqualFunc_TypeNode_TypeNode_TypeNode_TypeNode__hash_Same_1_l0' p = some r → ∀ rest0 k0 a1, (rest0, k0, a1) = p → M_slices_EqualFunc_TypeNode_TypeNode_TypeNode_TypeNode__hash_Same_1_l0 rest0 k0 a1 r) := by
  refine slices_EqualFunc_TypeNode_TypeNode_TypeNode_TypeNode__hash_Same_1_l0'.partial_correctness (fun (p : ((List ATypeNode) × Nat × (List ATypeNode))) (r : Bool) => ∀ (rest0 : (List ATypeNode)) (k0 : Nat) (a1 : (List ATypeNode)), (rest0, k0, a1) = p → M_slices_EqualFunc_TypeNode_TypeNode_TypeNode_TypeNode__hash_Same_1_l0 rest0 k0 a1 r) ?_
  · intro f_slices_EqualFunc_TypeNode_TypeNode_TypeNode_TypeNode__hash_Same_1_l0 ih_slices_EqualFunc_TypeNode_TypeNode_TypeNode_TypeNode__hash_Same_1_l0 p r e rest0 k0 a1 hp
    subst hp
    intro a0 hd0
    refine RunsL.len_tmp 15 rfl fun hlenk0 => ?_
    refine RunsL.of_awp (js := []) T_ok ?_; (conv => whnf)
    have hls := ATypeNode.Ds_len a0
    cases rest0 with
    | nil =>
      have hk := drop_nil hd0
      refine ⟨⟨fun h => absurd h (by omega), fun _ => ?_⟩⟩; (conv => whnf)
      obtain rfl := sm e
      repeat' first | exact rfl | exact trivial | refine ⟨?_, ?_⟩
    | cons v18 rest0 =>
      obtain ⟨hxv18, hd0, hltv18⟩ := drop_head hd0
      refine ⟨⟨fun _ => ?_, fun h => absurd (by omega) h⟩⟩; (conv => whnf)
      refine ⟨k0, _, rfl, ATypeNode.Ds_get hxv18, ?_⟩; (conv => whnf)
      refine ⟨ATypeNode.Ds_fit _ rfl rfl, ?_⟩; (conv => whnf)
      obtain ⟨v19, qv19, e⟩ := bnd e
      obtain ⟨qv19k, qv19a, qv19b⟩ := geti_some qv19
      refine ⟨qv19k, _, qv19a, ATypeNode.Ds_get qv19b, ?_⟩; (conv => whnf)
      refine ⟨ATypeNode.Ds_fit _ rfl rfl, ?_⟩; (conv => whnf)
      obtain ⟨v20, qv20, e⟩ := bnd e
      refine said_pure (P_hash_Same_1 qv20) rfl ?_; (conv => whnf)
      refine brK.nsplit (fun hb21 => ?_) (fun hb21 => ?_)
      · replace e := ifpb hb21 e; (conv => whnf)
        refine ⟨((k0 + 1 : Nat) : Int), wrap64e (by omega) (by omega) (by omega), ?_⟩; (conv => whnf)
        refine (RunsL.weak ((ih_slices_EqualFunc_TypeNode_TypeNode_TypeNode_TypeNode__hash_Same_1_l0 _ _ e _ _ _ rfl) a0 hd0) ?_)
        repeat' first | exact wk.of_eq rfl | exact wk.pure rfl | exact wk.un _ | exact wk.hold _ _ _ | exact rfl | exact trivial | refine ⟨?_, ?_⟩ | (refine wk.of_eq ?_; (conv => lhs; whnf); (simp [ATypeNode.Ds_all, ATypeNode.D, listAll] <;> (repeat' first | rfl | apply And.intro)); done) | (refine wk.pure ?_; (conv => lhs; whnf); (simp [ATypeNode.Ds_all, ATypeNode.D, listAll] <;> (repeat' first | rfl | apply And.intro)); done) | ((simp [ATypeNode.Ds_all, ATypeNode.D, listAll] <;> (repeat' first | rfl | apply And.intro)); done)
      · replace e := ifnb hb21 e; (conv => whnf)
        obtain rfl := sm e
        repeat' first | exact rfl | exact trivial | refine ⟨?_, ?_⟩
theorem P_slices_EqualFunc_TypeNode_TypeNode_TypeNode_TypeNode__hash_Same_1_l0 {rest0 : (List ATypeNode)} {k0 : Nat} {a1 : (List ATypeNode)} {r : Bool} (e : slices_EqualFunc_TypeNode_TypeNode_TypeNode_TypeNode__hash_Same_1_l0 rest0 k0 a1 = some r) : M_slices_EqualFunc_TypeNode_TypeNode_TypeNode_TypeNode__hash_Same_1_l0 rest0 k0 a1 r := G_slices_EqualFunc_TypeNode_TypeNode_TypeNode_TypeNode__hash_Same_1_l0 _ _ e _ _ _ rfl

theorem P_slices_EqualFunc_TypeNode_TypeNode_TypeNode_TypeNode__hash_Same_1 {a0 : (List ATypeNode)} {a1 : (List ATypeNode)} {r : Bool} (e : slices_EqualFunc_TypeNode_TypeNode_TypeNode_TypeNode__hash_Same_1 a0 a1 = some r) : Pure Try.prog 67 [(.slice 3 (ATypeNode.Ds a0)), (.slice 3 (ATypeNode.Ds a1)), (.func (.func 68) [] [])] (.bool r) := by
  unfold slices_EqualFunc_TypeNode_TypeNode_TypeNode_TypeNode__hash_Same_1 at e
  refine pure_of_awp (js := []) T_ok Try.func67 rfl (by decide +kernel) rfl ?_; (conv => whnf)
  refine ⟨⟨fun h1 => ?_, fun h1 => ?_⟩⟩
  · replace e := ifp (by first | exact h1 | simpa [ATypeNode.Ds_all, ATypeNode.D, listAll] using h1) e; (conv => whnf)
    obtain rfl := sm e
    repeat' first | exact rfl | exact trivial | refine ⟨?_, ?_⟩
  · replace e := ifn (by first | exact h1 | simpa [ATypeNode.Ds_all, ATypeNode.D, listAll] using h1) e; (conv => whnf)
    refine RunsL.runs (RunsL.weak ((P_slices_EqualFunc_TypeNode_TypeNode_TypeNode_TypeNode__hash_Same_1_l0 e) a0 (by simp)) ?_)
    repeat' first | exact wk.of_eq rfl | exact wk.pure rfl | exact wk.un _ | exact wk.hold _ _ _ | exact rfl | exact trivial | refine ⟨?_, ?_⟩ | (refine wk.of_eq ?_; (conv => lhs; whnf); (simp [ATypeNode.Ds_all, ATypeNode.D, listAll] <;> (repeat' first | rfl | apply And.intro)); done) | (refine wk.pure ?_; (conv => lhs; whnf); (simp [ATypeNode.Ds_all, ATypeNode.D, listAll] <;> (repeat' first | rfl | apply And.intro)); done) | ((simp [ATypeNode.Ds_all, ATypeNode.D, listAll] <;> (repeat' first | rfl | apply And.intro)); done)

theorem P_hash_Same_2 {a0 : ATermNode} {a1 : ATermNode} {r : Bool} (e : hash_Same_2 a0 a1 = some r) : Pure Try.prog 71 [(ATermNode.D a0), (ATermNode.D a1)] (.bool r) := by
  unfold hash_Same_2 at e
  refine pure_of_awp (js := []) T_ok Try.func71 rfl (by decide +kernel) rfl ?_; (conv => whnf)
  refine ⟨⟨fun h1 => ?_, fun h1 => ?_⟩⟩
  · replace e := ifp h1 e; (conv => whnf)
    refine ⟨⟨fun h2 => ?_, fun h2 => ?_⟩⟩
    · replace e := ifp h2 e; (conv => whnf)
      refine ⟨⟨fun h3 => ?_, fun h3 => ?_⟩⟩
      · replace e := ifp h3 e; (conv => whnf)
        refine ⟨⟨fun h4 => ?_, fun h4 => ?_⟩⟩
        · replace e := ifp h4 e; (conv => whnf)
          obtain ⟨v5, qv5, e⟩ := bnd e
          refine said_pure (P_slices_Equal_int_int qv5) rfl ?_; (conv => whnf)
          obtain rfl := sm e
          repeat' first | exact rfl | exact trivial | refine ⟨?_, ?_⟩
        · replace e := ifn h4 e; (conv => whnf)
          obtain rfl := sm e
          repeat' first | exact rfl | exact trivial | refine ⟨?_, ?_⟩
      · replace e := ifn h3 e; (conv => whnf)
        obtain rfl := sm e
        repeat' first | exact rfl | exact trivial | refine ⟨?_, ?_⟩
    · replace e := ifn h2 e; (conv => whnf)
      obtain rfl := sm e
      repeat' first | exact rfl | exact trivial | refine ⟨?_, ?_⟩
  · replace e := ifn h1 e; (conv => whnf)
    obtain rfl := sm e
    repeat' first | exact rfl | exact trivial | refine ⟨?_, ?_⟩

def M_slices_EqualFunc_TermNode_TermNode_TermNode_TermNode__hash_Same_2_l0 (rest0 : (List ATermNode)) (k0 : Nat) (a1 : (List ATermNode)) (r : Bool) : Prop := ∀ (a0 : (List ATermNode)) (hd0 : rest0 = a0.drop k0), LoopAt T Try.prog Try.f70 Fx0 [] [1, 1, 0, 1, 0] (EP T Try.f70 (.bool r)) [(1, .d (.slice 5 (ATermNode.Ds a1))), (2, .d (.func (.func 71) [] [])), (15, .d (.slice 5 (ATermNode.Ds a0))), (16, .d (.int .i64 ((ATermNode.Ds a0).length : Int))), (17, .d (.int .i64 (k0 : Int)))] [[]]
theorem G_slices_EqualFunc_TermNode_TermNode_TermNode_TermNode__hash_Same_2_l0 : (∀ p r, slices_EqualFunc_TermNode_TermNode_TermNode_TermNode__hash_Same_2_l0' p = some r → ∀ rest0 k0 a1, (rest0, k0, a1) = p → M_slices_EqualFunc_TermNode_TermNode_TermNode_TermNode__hash_Same_2_l0 rest0 k0 a1 r) := by
  refine slices_EqualFunc_TermNode_TermNode_TermNode_TermNode__hash_Same_2_l0'.partial_correctness (fun (p : ((List ATermNode) × Nat × (List ATermNode))) (r : Bool) => ∀ (rest0 : (List ATermNode)) (k0 : Nat) (a1 : (List ATermNode)), (rest0, k0, a1) = p → M_slices_EqualFunc_TermNode_TermNode_TermNode_TermNode__hash_Same_2_l0 rest0 k0 a1 r) ?_
  · intro f_slices_EqualFunc_TermNode_TermNode_TermNode_TermNode__hash_Same_2_l0 ih_slices_EqualFunc_TermNode_TermNode_TermNode_TermNode__hash_Same_2_l0 p r e rest0 k0 a1 hp
    subst hp
    intro a0 hd0
    refine RunsL.len_tmp 15 rfl fun hlenk0 => ?_
    refine RunsL.of_awp (js := []) T_ok ?_; (conv => whnf)
    have hls := ATermNode.Ds_len a0
    cases rest0 with
    | nil =>
      have hk := drop_nil hd0
      refine ⟨⟨fun h => absurd h (by omega), fun _ => ?_⟩⟩; (conv => whnf)
      obtain rfl := sm e
      repeat' first | exact rfl | exact trivial | refine ⟨?_, ?_⟩
    | cons v18 rest0 =>
      obtain ⟨hxv18, hd0, hltv18⟩ := drop_head hd0
      refine ⟨⟨fun _ => ?_, fun h => absurd (by omega) h⟩⟩; (conv => whnf)
      refine ⟨k0, _, rfl, ATermNode.Ds_get hxv18, ?_⟩; (conv => whnf)
      refine ⟨ATermNode.Ds_fit _ rfl rfl, ?_⟩; (conv => whnf)
      obtain ⟨v19, qv19, e⟩ := bnd e
      obtain ⟨qv19k, qv19a, qv19b⟩ := geti_some qv19
      refine ⟨qv19k, _, qv19a, ATermNode.Ds_get qv19b, ?_⟩; (conv => whnf)
      refine ⟨ATermNode.Ds_fit _ rfl rfl, ?_⟩; (conv => whnf)
      obtain ⟨v20, qv20, e⟩ := bnd e
      refine said_pure (P_hash_Same_2 qv20) rfl ?_; (conv => whnf)
      refine brK.nsplit (fun hb21 => ?_) (fun hb21 => ?_)
      · replace e := ifpb hb21 e; (conv => whnf)
        refine ⟨((k0 + 1 : Nat) : Int), wrap64e (by omega) (by omega) (by omega), ?_⟩; (conv => whnf)
        refine (RunsL.weak ((ih_slices_EqualFunc_TermNode_TermNode_TermNode_TermNode__hash_Same_2_l0 _ _ e _ _ _ rfl) a0 hd0) ?_)
        repeat' first | exact wk.of_eq rfl | exact wk.pure rfl | exact wk.un _ | exact wk.hold _ _ _ | exact rfl | exact trivial | refine ⟨?_, ?_⟩ | (refine wk.of_eq ?_; (conv => lhs; whnf); (simp [ATermNode.Ds_all, ATermNode.D, listAll] <;> (repeat' first | rfl | apply And.intro)); done) | (refine wk.pure ?_; (conv => lhs; whnf); (simp [ATermNode.Ds_all, ATermNode.D, listAll] <;> (repeat' first | rfl | apply And.intro)); done) | ((simp [ATermNode.Ds_all, ATermNode.D, listAll] <;> (repeat' first | rfl | apply And.intro)); done)
      · replace e := ifnb hb21 e; (conv => whnf)
        obtain rfl := sm e
        repeat' first | exact rfl | exact trivial | refine ⟨?_, ?_⟩
theorem P_slices_EqualFunc_TermNode_TermNode_TermNode_TermNode__hash_Same_2_l0 {rest0 : (List ATermNode)} {k0 : Nat} {a1 : (List ATermNode)} {r : Bool} (e : slices_EqualFunc_TermNode_TermNode_TermNode_TermNode__hash_Same_2_l0 rest0 k0 a1 = some r) : M_slices_EqualFunc_TermNode_TermNode_TermNode_TermNode__hash_Same_2_l0 rest0 k0 a1 r := G_slices_EqualFunc_TermNode_TermNode_TermNode_TermNode__hash_Same_2_l0 _ _ e _ _ _ rfl

theorem P_slices_EqualFunc_TermNode_TermNode_TermNode_TermNode__hash_Same_2 {a0 : (List ATermNode)} {a1 : (List ATermNode)} {r : Bool} (e : slices_EqualFunc_TermNode_TermNode_TermNode_TermNode__hash_Same_2 a0 a1 = some r) : Pure Try.prog 70 [(.slice 5 (ATermNode.Ds a0)), (.slice 5 (ATermNode.Ds a1)), (.func (.func 71) [] [])] (.bool r) := by
  unfold slices_EqualFunc_TermNode_TermNode_TermNode_TermNode__hash_Same_2 at e
  refine pure_of_awp (js := []) T_ok Try.func70 rfl (by decide +kernel) rfl ?_; (conv => whnf)
  refine ⟨⟨fun h1 => ?_, fun h1 => ?_⟩⟩
  · replace e := ifp (by first | exact h1 | simpa [ATermNode.Ds_all, ATermNode.D, listAll] using h1) e; (conv => whnf)
    obtain rfl := sm e
    repeat' first | exact rfl | exact trivial | refine ⟨?_, ?_⟩
  · replace e := ifn (by first | exact h1 | simpa [ATermNode.Ds_all, ATermNode.D, listAll] using h1) e; (conv => whnf)
    refine RunsL.runs (RunsL.weak ((P_slices_EqualFunc_TermNode_TermNode_TermNode_TermNode__hash_Same_2_l0 e) a0 (by simp)) ?_)
    repeat' first | exact wk.of_eq rfl | exact wk.pure rfl | exact wk.un _ | exact wk.hold _ _ _ | exact rfl | exact trivial | refine ⟨?_, ?_⟩ | (refine wk.of_eq ?_; (conv => lhs; whnf); (simp [ATermNode.Ds_all, ATermNode.D, listAll] <;> (repeat' first | rfl | apply And.intro)); done) | (refine wk.pure ?_; (conv => lhs; whnf); (simp [ATermNode.Ds_all, ATermNode.D, listAll] <;> (repeat' first | rfl | apply And.intro)); done) | ((simp [ATermNode.Ds_all, ATermNode.D, listAll] <;> (repeat' first | rfl | apply And.intro)); done)

theorem P_hash_Same {a0 : AStore} {a1 : AStore} {r : Bool} (e : hash_Same a0 a1 = some r) : Pure Try.prog 36 [(AStore.D a0), (AStore.D a1)] (.bool r) := by
  unfold hash_Same at e
  refine pure_of_awp (js := []) T_ok Try.func36 rfl (by decide +kernel) rfl ?_; (conv => whnf)
  obtain ⟨v1, qv1, e⟩ := bnd e
  refine said_pure (P_slices_EqualFunc_TypeNode_TypeNode_TypeNode_TypeNode__hash_Same_1 qv1) rfl ?_; (conv => whnf)
  refine brK.split (fun hb2 => ?_) (fun hb2 => ?_)
  · replace e := ifpb hb2 e; (conv => whnf)
    refine brK.tt hb2 ?_; (conv => whnf)
    refine brK.tt hb2 ?_; (conv => whnf)
    refine brK.tt hb2 ?_; (conv => whnf)
    refine brK.tt hb2 ?_; (conv => whnf)
    obtain ⟨v3, qv3, e⟩ := bnd e
    refine said_pure (P_slices_EqualFunc_TermNode_TermNode_TermNode_TermNode__hash_Same_2 qv3) rfl ?_; (conv => whnf)
    refine brK.tt hb2 ?_; (conv => whnf)
    obtain rfl := sm e
    repeat' first | exact rfl | exact trivial | refine ⟨?_, ?_⟩
  · replace e := ifnb hb2 e; (conv => whnf)
    refine brK.ff hb2 ?_; (conv => whnf)
    refine brK.ff hb2 ?_; (conv => whnf)
    refine brK.ff hb2 ?_; (conv => whnf)
    refine brK.ff hb2 ?_; (conv => whnf)
    refine brK.ff hb2 ?_; (conv => whnf)
    obtain rfl := sm e
    repeat' first | exact rfl | exact trivial | refine ⟨?_, ?_⟩

theorem P_hash_AddType_j0 {r : (AStore × Int × Int)} (e : hash_AddType_j0 = some r) : ∀ (a0 : AStore) (a1 : Ty), JoinAt T Try.prog Try.f15 Fx0 [2] [1, 1, 0, 0] (EP T Try.f15 (.tuple [(AStore.D r.1), (.int .i64 r.2.1), (.int .i64 r.2.2)])) [(3, .ptr 0 1 0), (4, .ptr 0 2 0), (7, .d .nilptr), (8, .d (.int .i64 4))] [[.cells [.d (.slice 3 (ATypeNode.Ds a0.types)), .d (.slice 5 (ATermNode.Ds a0.terms))], .cells [.d (.bool a1.v), .d (.str a1.name), .d (.slice 3 (Ty.Ds a1.args))], .cells [.nil 3, .nil 5]]] := by
  unfold hash_AddType_j0 at e
  intro a0 a1
  refine Runs.enter T_ok ?_; (conv => whnf)
  refine ⟨⟨fun h => absurd h (by decide), fun _ => ?_⟩⟩; (conv => whnf)
  refine ⟨⟨fun _ => ?_, fun h => absurd (by decide) h⟩⟩; (conv => whnf)
  obtain rfl := sm e
  repeat' first | exact rfl | exact trivial | refine ⟨?_, ?_⟩

theorem P_hash_AddType_j0b {r : (AStore × Int × Int)} (e : hash_AddType_j0b = some r) : ∀ (a0 : AStore) (a1 : Ty), JoinAt T Try.prog Try.f15 Fx0 [2] [1, 1, 0, 0] (EP T Try.f15 (.tuple [(AStore.D r.1), (.int .i64 r.2.1), (.int .i64 r.2.2)])) [(3, .ptr 0 1 0), (4, .ptr 0 2 0), (7, .d .nilptr), (8, .d (.int .i64 8))] [[.cells [.d (.slice 3 (ATypeNode.Ds a0.types)), .d (.slice 5 (ATermNode.Ds a0.terms))], .cells [.d (.bool a1.v), .d (.str a1.name), .d (.slice 3 (Ty.Ds a1.args))], .cells [.nil 3, .nil 5]]] := by
  unfold hash_AddType_j0b at e
  intro a0 a1
  refine Runs.enter T_ok ?_; (conv => whnf)
  refine ⟨⟨fun h => absurd h (by decide), fun _ => ?_⟩⟩; (conv => whnf)
  refine ⟨⟨fun _ => ?_, fun h => absurd (by decide) h⟩⟩; (conv => whnf)
  obtain rfl := sm e
  repeat' first | exact rfl | exact trivial | refine ⟨?_, ?_⟩

theorem P_hash_AddType_j0c {a1 : Ty} {v4 : ((List ATypeNode) × (List ATermNode) × (List (HashTypeKey × Int)) × (List (HashTermKey × Int)))} {r : (AStore × Int × Int)} (e : hash_AddType_j0c a1 v4 = some r) : ∀ (a0 : AStore), JoinAt T Try.prog Try.f15 Fx0 [2] [1, 1, 0, 0] (EP T Try.f15 (.tuple [(AStore.D r.1), (.int .i64 r.2.1), (.int .i64 r.2.2)])) [(3, .ptr 0 1 0), (4, .ptr 0 2 0), (7, .ptr 0 3 0), (8, .d (.int .i64 0))] [[.cells [.d (.slice 3 (ATypeNode.Ds a0.types)), .d (.slice 5 (ATermNode.Ds a0.terms))], .cells [.d (.bool a1.v), .d (.str a1.name), .d (.slice 3 (Ty.Ds a1.args))], .cells [.nil 3, .nil 5], .cells [.own 0 4 3 (ATypeNode.Ds v4.1), .own 0 5 5 (ATermNode.Ds v4.2.1), .map 0 6, .map 0 7], .grow 3 (ATypeNode.Ds v4.1).length, .grow 5 (ATermNode.Ds v4.2.1).length, .map (mapD HashTypeKey.D (D.int .i64) v4.2.2.1), .map (mapD HashTermKey.D (D.int .i64) v4.2.2.2)]] := by
  unfold hash_AddType_j0c at e
  intro a0
  refine Runs.enter T_ok ?_; (conv => whnf)
  refine ⟨⟨fun _ => ?_, fun h => absurd (by decide) h⟩⟩; (conv => whnf)
  obtain ⟨v5, qv5, e⟩ := bnd e
  refine said_pure (P_types_Check qv5) rfl ?_; (conv => whnf)
  refine ⟨⟨fun h6 => ?_, fun h6 => ?_⟩⟩
  · replace e := ifp h6 e; (conv => whnf)
    obtain rfl := sm e
    repeat' first | exact rfl | exact trivial | refine ⟨?_, ?_⟩
  · replace e := ifn h6 e; (conv => whnf)
    obtain ⟨v7, qv7, e⟩ := bnd e
    first | (refine said_iorF (P_hash_table_addType_io qv7) [3, 4, 5, 6, 7] [.ptr 0 3 0, .d (Ty.D a1)] rfl ⟨wk.refl _, wk.pure rfl, trivial⟩ rfl rfl ?_) | (refine said_iorF2 (P_hash_table_addType_io qv7) [3, 4, 5, 6, 7] [.ptr 0 3 0, .d (Ty.D a1)] rfl ⟨wk.refl _, wk.pure rfl, trivial⟩ rfl rfl (by simp [ATermNode.Ds_all, ATypeNode.Ds_all, Ty.Ds_all, AStore.D, ATermNode.D, ATypeNode.D, Ty.D, listAll] <;> (repeat' first | rfl | apply And.intro)) ?_)
    (conv => whnf)
    obtain ⟨v8, qv8, e⟩ := bnd e
    rcases v8 with v9 | v10
    · first | (refine said_iorF (P_hash_table_done_io qv8) [3, 4, 5, 6, 7] [.ptr 0 3 0, .d (.int .i64 v7.1)] rfl ⟨wk.refl _, wk.pure rfl, trivial⟩ rfl rfl ?_) | (refine said_iorF2 (P_hash_table_done_io qv8) [3, 4, 5, 6, 7] [.ptr 0 3 0, .d (.int .i64 v7.1)] rfl ⟨wk.refl _, wk.pure rfl, trivial⟩ rfl rfl (by simp [ATermNode.Ds_all, ATypeNode.Ds_all, Ty.Ds_all, AStore.D, ATermNode.D, ATypeNode.D, Ty.D, listAll] <;> (repeat' first | rfl | apply And.intro)) ?_)
      (conv => whnf)
      obtain rfl := sm e
      repeat' first | exact rfl | exact trivial | refine ⟨?_, ?_⟩
    · first | (refine said_iorF (P_hash_table_done_io qv8) [3, 4, 5, 6, 7] [.ptr 0 3 0, .d (.int .i64 v7.1)] rfl ⟨wk.refl _, wk.pure rfl, trivial⟩ rfl rfl ?_) | (refine said_iorF2 (P_hash_table_done_io qv8) [3, 4, 5, 6, 7] [.ptr 0 3 0, .d (.int .i64 v7.1)] rfl ⟨wk.refl _, wk.pure rfl, trivial⟩ rfl rfl (by simp [ATermNode.Ds_all, ATypeNode.Ds_all, Ty.Ds_all, AStore.D, ATermNode.D, ATypeNode.D, Ty.D, listAll] <;> (repeat' first | rfl | apply And.intro)) ?_)
      (conv => whnf)
      obtain rfl := sm e
      repeat' first | exact rfl | exact trivial | exact ⟨_, rfl, (by first | exact rfl | (simp [ATermNode.Ds_all, ATypeNode.Ds_all, Ty.Ds_all, AStore.D, ATermNode.D, ATypeNode.D, Ty.D, listAll] <;> (repeat' first | rfl | apply And.intro))), (by first | exact rfl | (simp [ATermNode.Ds_all, ATypeNode.Ds_all, Ty.Ds_all, AStore.D, ATermNode.D, ATypeNode.D, Ty.D, listAll] <;> (repeat' first | rfl | apply And.intro)))⟩ | refine ⟨?_, ?_⟩ | (simp [ATermNode.Ds_all, ATypeNode.Ds_all, Ty.Ds_all, AStore.D, ATermNode.D, ATypeNode.D, Ty.D, listAll] <;> (repeat' first | rfl | apply And.intro))

theorem P_hash_AddType {a0 : AStore} {a1 : Ty} {r : (AStore × Int × Int)} (e : hash_AddType a0 a1 = some r) : Pure Try.prog 15 [(AStore.D a0), (Ty.D a1)] (.tuple [(AStore.D r.1), (.int .i64 r.2.1), (.int .i64 r.2.2)]) := by
  unfold hash_AddType at e
  refine pure_of_awp (js := [2]) T_ok Try.func15 rfl (by decide +kernel) rfl ?_; (conv => whnf)
  obtain ⟨v1, qv1, e⟩ := bnd e
  rcases v1 with v2 | v3 | v4
  · refine said_iorF (P_hash_open_io qv1) [] [.d (AStore.D a0)] rfl ⟨wk.pure rfl, trivial⟩ rfl rfl ?_; (conv => whnf)
    refine Runs.weak ((P_hash_AddType_j0 e) a0 a1) ?_
    repeat' first | exact wk.of_eq rfl | exact wk.pure rfl | exact wk.un _ | exact wk.hold _ _ _ | exact rfl | exact trivial | refine ⟨?_, ?_⟩
  · refine said_iorF (P_hash_open_io qv1) [] [.d (AStore.D a0)] rfl ⟨wk.pure rfl, trivial⟩ rfl rfl ?_; (conv => whnf)
    refine Runs.weak ((P_hash_AddType_j0b e) a0 a1) ?_
    repeat' first | exact wk.of_eq rfl | exact wk.pure rfl | exact wk.un _ | exact wk.hold _ _ _ | exact rfl | exact trivial | refine ⟨?_, ?_⟩
  · refine said_iorF (P_hash_open_io qv1) [] [.d (AStore.D a0)] rfl ⟨wk.pure rfl, trivial⟩ rfl rfl ?_; (conv => whnf)
    refine Runs.weak ((P_hash_AddType_j0c e) a0) ?_
    repeat' first | exact wk.of_eq rfl | exact wk.pure rfl | exact wk.un _ | exact wk.hold _ _ _ | exact rfl | exact trivial | refine ⟨?_, ?_⟩ | (refine wk.of_eq ?_; (conv => lhs; whnf); (simp [ATermNode.Ds_all, ATypeNode.Ds_all, Ty.Ds_all, AStore.D, ATermNode.D, ATypeNode.D, Ty.D, listAll] <;> (repeat' first | rfl | apply And.intro)); done) | (refine wk.pure ?_; (conv => lhs; whnf); (simp [ATermNode.Ds_all, ATypeNode.Ds_all, Ty.Ds_all, AStore.D, ATermNode.D, ATypeNode.D, Ty.D, listAll] <;> (repeat' first | rfl | apply And.intro)); done) | ((simp [ATermNode.Ds_all, ATypeNode.Ds_all, Ty.Ds_all, AStore.D, ATermNode.D, ATypeNode.D, Ty.D, listAll] <;> (repeat' first | rfl | apply And.intro)); done)

theorem P_hash_GetType_j0 {r : (Ty × Int)} (e : hash_GetType_j0 = some r) : ∀ (a0 : AStore) (a1 : Int), JoinAt T Try.prog Try.f23 Fx0 [2] [1, 1, 0, 0] (EP T Try.f23 (.tuple [(Ty.D r.1), (.int .i64 r.2)])) [(1, .d (.int .i64 a1)), (4, .ptr 0 1 0), (6, .d .nilptr), (7, .d (.int .i64 4))] [[.cells [.d (.slice 3 (ATypeNode.Ds a0.types)), .d (.slice 5 (ATermNode.Ds a0.terms))], .cells [.d (.bool false), .d (.str ByteArray.empty), .nil 3]]] := by
  unfold hash_GetType_j0 at e
  intro a0 a1
  refine Runs.enter T_ok ?_; (conv => whnf)
  refine ⟨⟨fun _ => ?_, fun h => absurd (by decide) h⟩⟩; (conv => whnf)
  obtain rfl := sm e
  repeat' first | exact rfl | exact trivial | refine ⟨?_, ?_⟩

theorem P_hash_GetType_j0b {r : (Ty × Int)} (e : hash_GetType_j0b = some r) : ∀ (a0 : AStore) (a1 : Int), JoinAt T Try.prog Try.f23 Fx0 [2] [1, 1, 0, 0] (EP T Try.f23 (.tuple [(Ty.D r.1), (.int .i64 r.2)])) [(1, .d (.int .i64 a1)), (4, .ptr 0 1 0), (6, .d .nilptr), (7, .d (.int .i64 8))] [[.cells [.d (.slice 3 (ATypeNode.Ds a0.types)), .d (.slice 5 (ATermNode.Ds a0.terms))], .cells [.d (.bool false), .d (.str ByteArray.empty), .nil 3]]] := by
  unfold hash_GetType_j0b at e
  intro a0 a1
  refine Runs.enter T_ok ?_; (conv => whnf)
  refine ⟨⟨fun _ => ?_, fun h => absurd (by decide) h⟩⟩; (conv => whnf)
  obtain rfl := sm e
  repeat' first | exact rfl | exact trivial | refine ⟨?_, ?_⟩

theorem P_hash_GetType_j0c {a1 : Int} {v4 : ((List ATypeNode) × (List ATermNode) × (List (HashTypeKey × Int)) × (List (HashTermKey × Int)))} {r : (Ty × Int)} (e : hash_GetType_j0c a1 v4 = some r) : ∀ (a0 : AStore), JoinAt T Try.prog Try.f23 Fx0 [2] [1, 1, 0, 0] (EP T Try.f23 (.tuple [(Ty.D r.1), (.int .i64 r.2)])) [(1, .d (.int .i64 a1)), (4, .ptr 0 1 0), (6, .ptr 0 2 0), (7, .d (.int .i64 0))] [[.cells [.d (.slice 3 (ATypeNode.Ds a0.types)), .d (.slice 5 (ATermNode.Ds a0.terms))], .cells [.d (.bool false), .d (.str ByteArray.empty), .nil 3], .cells [.own 0 3 3 (ATypeNode.Ds v4.1), .own 0 4 5 (ATermNode.Ds v4.2.1), .map 0 5, .map 0 6], .grow 3 (ATypeNode.Ds v4.1).length, .grow 5 (ATermNode.Ds v4.2.1).length, .map (mapD HashTypeKey.D (D.int .i64) v4.2.2.1), .map (mapD HashTermKey.D (D.int .i64) v4.2.2.2)]] := by
  unfold hash_GetType_j0c at e
  intro a0
  refine Runs.enter T_ok ?_; (conv => whnf)
  refine ⟨⟨fun h => absurd h (by decide), fun _ => ?_⟩⟩; (conv => whnf)
  refine ⟨⟨fun h5 => ?_, fun h5 => ?_⟩⟩
  · replace e := ifp h5 e; (conv => whnf)
    obtain rfl := sm e
    repeat' first | exact rfl | exact trivial | refine ⟨?_, ?_⟩
  · replace e := ifn h5 e; (conv => whnf)
    refine ⟨⟨fun h6 => ?_, fun h6 => ?_⟩⟩
    · replace e := ifp (by first | exact h6 | simpa [ATermNode.Ds_all, ATypeNode.Ds_all, Ty.Ds_all, AStore.D, ATermNode.D, ATypeNode.D, Ty.D, listAll] using h6) e; (conv => whnf)
      obtain rfl := sm e
      repeat' first | exact rfl | exact trivial | refine ⟨?_, ?_⟩
    · replace e := ifn (by first | exact h6 | simpa [ATermNode.Ds_all, ATypeNode.Ds_all, Ty.Ds_all, AStore.D, ATermNode.D, ATypeNode.D, Ty.D, listAll] using h6) e; (conv => whnf)
      obtain ⟨v7, qv7, e⟩ := bnd e
      first | (refine said_iorF (P_hash_table_typ_io qv7) [2, 3, 4, 5, 6] [.ptr 0 2 0, .d (.int .i64 a1)] rfl ⟨wk.refl _, wk.pure rfl, trivial⟩ rfl rfl ?_) | (refine said_iorF2 (P_hash_table_typ_io qv7) [2, 3, 4, 5, 6] [.ptr 0 2 0, .d (.int .i64 a1)] rfl ⟨wk.refl _, wk.pure rfl, trivial⟩ rfl rfl (by simp [ATermNode.Ds_all, ATypeNode.Ds_all, Ty.Ds_all, AStore.D, ATermNode.D, ATypeNode.D, Ty.D, listAll] <;> (repeat' first | rfl | apply And.intro)) ?_)
      (conv => whnf)
      obtain rfl := sm e
      repeat' first | exact rfl | exact trivial | refine ⟨?_, ?_⟩

theorem P_hash_GetType {a0 : AStore} {a1 : Int} {r : (Ty × Int)} (e : hash_GetType a0 a1 = some r) : Pure Try.prog 23 [(AStore.D a0), (.int .i64 a1)] (.tuple [(Ty.D r.1), (.int .i64 r.2)]) := by
  unfold hash_GetType at e
  refine pure_of_awp (js := [2]) T_ok Try.func23 rfl (by decide +kernel) rfl ?_; (conv => whnf)
  obtain ⟨v1, qv1, e⟩ := bnd e
  rcases v1 with v2 | v3 | v4
  · refine said_iorF (P_hash_open_io qv1) [] [.d (AStore.D a0)] rfl ⟨wk.pure rfl, trivial⟩ rfl rfl ?_; (conv => whnf)
    refine Runs.weak ((P_hash_GetType_j0 e) a0 a1) ?_
    repeat' first | exact wk.of_eq rfl | exact wk.pure rfl | exact wk.un _ | exact wk.hold _ _ _ | exact rfl | exact trivial | refine ⟨?_, ?_⟩
  · refine said_iorF (P_hash_open_io qv1) [] [.d (AStore.D a0)] rfl ⟨wk.pure rfl, trivial⟩ rfl rfl ?_; (conv => whnf)
    refine Runs.weak ((P_hash_GetType_j0b e) a0 a1) ?_
    repeat' first | exact wk.of_eq rfl | exact wk.pure rfl | exact wk.un _ | exact wk.hold _ _ _ | exact rfl | exact trivial | refine ⟨?_, ?_⟩
  · refine said_iorF (P_hash_open_io qv1) [] [.d (AStore.D a0)] rfl ⟨wk.pure rfl, trivial⟩ rfl rfl ?_; (conv => whnf)
    refine Runs.weak ((P_hash_GetType_j0c e) a0) ?_
    repeat' first | exact wk.of_eq rfl | exact wk.pure rfl | exact wk.un _ | exact wk.hold _ _ _ | exact rfl | exact trivial | refine ⟨?_, ?_⟩ | (refine wk.of_eq ?_; (conv => lhs; whnf); (simp [ATermNode.Ds_all, ATypeNode.Ds_all, Ty.Ds_all, AStore.D, ATermNode.D, ATypeNode.D, Ty.D, listAll] <;> (repeat' first | rfl | apply And.intro)); done) | (refine wk.pure ?_; (conv => lhs; whnf); (simp [ATermNode.Ds_all, ATypeNode.Ds_all, Ty.Ds_all, AStore.D, ATermNode.D, ATypeNode.D, Ty.D, listAll] <;> (repeat' first | rfl | apply And.intro)); done) | ((simp [ATermNode.Ds_all, ATypeNode.Ds_all, Ty.Ds_all, AStore.D, ATermNode.D, ATypeNode.D, Ty.D, listAll] <;> (repeat' first | rfl | apply And.intro)); done)

theorem P_sequentlaw31_HashNames_j3 {t1_3 : Bool} {r : Bool} (e : sequentlaw31_HashNames_j3 t1_3 = some r) : JoinAt T Try.prog Try.f10 Fx0 [2, 4, 6, 13] [1, 1, 1, 1, 1, 1, 1, 1, 1, 1, 1, 1, 1, 0] (EP T Try.f10 (.bool r)) [(1, .d (.bool t1_3))] [[]] := by
  unfold sequentlaw31_HashNames_j3 at e
  refine Runs.enter T_ok ?_; (conv => whnf)
  refine ⟨⟨⟨rfl, rfl⟩, ⟨⟨rfl, rfl⟩, trivial⟩⟩, ?_⟩; (conv => whnf)
  refine ⟨⟨⟨rfl, rfl⟩, ⟨⟨rfl, rfl⟩, trivial⟩⟩, ?_⟩; (conv => whnf)
  refine ⟨⟨⟨rfl, rfl⟩, trivial⟩, ?_⟩; (conv => whnf)
  refine brK.split (fun hb32 => ?_) (fun hb32 => ?_)
  · replace e := ifpb hb32 e; (conv => whnf)
    refine brK.tt hb32 ?_; (conv => whnf)
    obtain ⟨v33, qv33, e⟩ := bnd e
    first | (refine said_pure (P_hash_Check qv33) rfl ?_) | (refine said_pure2 (P_hash_Check qv33) rfl (by simp [ATermNode.Ds_all, ATypeNode.Ds_all, Tm.Ds_all, Ty.Ds_all, intDs_i64_all, AStore.D, ATermNode.D, ATypeNode.D, Tm.D, Ty.D, listAll] <;> (repeat' first | rfl | apply And.intro)) ?_)
    (conv => whnf)
    refine brK.tt hb32 ?_; (conv => whnf)
    refine ⟨⟨fun h34 => ?_, fun h34 => ?_⟩⟩
    · replace e := ifp h34 e; (conv => whnf)
      refine brK.tt hb32 ?_; (conv => whnf)
      obtain ⟨v35, qv35, e⟩ := bnd e
      first | (refine said_pure (P_hash_Check qv35) rfl ?_) | (refine said_pure2 (P_hash_Check qv35) rfl (by simp [ATermNode.Ds_all, ATypeNode.Ds_all, Tm.Ds_all, Ty.Ds_all, intDs_i64_all, AStore.D, ATermNode.D, ATypeNode.D, Tm.D, Ty.D, listAll] <;> (repeat' first | rfl | apply And.intro)) ?_)
      (conv => whnf)
      refine test.dec ?_; (conv => whnf)
      obtain rfl := sm e
      repeat' first | exact rfl | exact trivial | refine ⟨?_, ?_⟩
    · replace e := ifn h34 e; (conv => whnf)
      refine brK.tt hb32 ?_; (conv => whnf)
      obtain rfl := sm e
      repeat' first | exact rfl | exact trivial | refine ⟨?_, ?_⟩
  · replace e := ifnb hb32 e; (conv => whnf)
    refine brK.ff hb32 ?_; (conv => whnf)
    refine brK.ff hb32 ?_; (conv => whnf)
    refine brK.ff hb32 ?_; (conv => whnf)
    obtain rfl := sm e
    repeat' first | exact rfl | exact trivial | refine ⟨?_, ?_⟩

theorem P_sequentlaw31_HashNames_j2 {t1_2 : Bool} {v9 : (AStore × Int × Int)} {r : Bool} (e : sequentlaw31_HashNames_j2 t1_2 v9 = some r) : JoinAt T Try.prog Try.f10 Fx0 [2, 4, 6, 13] [1, 1, 1, 1, 1, 1, 0] (EP T Try.f10 (.bool r)) [(1, .d (.bool t1_2)), (2, .ptr 0 0 0)] [[.cells [.d (.slice 3 (ATypeNode.Ds v9.1.types)), .d (.slice 5 (ATermNode.Ds v9.1.terms))]]] := by
  unfold sequentlaw31_HashNames_j2 at e
  refine Runs.enter T_ok ?_; (conv => whnf)
  obtain ⟨v26, qv26, e⟩ := bnd e
  refine said_pure (P_hash_Add qv26) rfl ?_; (conv => whnf)
  obtain ⟨v27, qv27, e⟩ := bnd e
  refine said_pure (P_hash_AddType qv27) rfl ?_; (conv => whnf)
  obtain ⟨v28, qv28, e⟩ := bnd e
  refine said_pure (P_hash_Get qv28) rfl ?_; (conv => whnf)
  obtain ⟨v29, qv29, e⟩ := bnd e
  refine said_pure (P_hash_Get qv29) rfl ?_; (conv => whnf)
  obtain ⟨v30, qv30, e⟩ := bnd e
  refine said_pure (P_hash_GetType qv30) rfl ?_; (conv => whnf)
  obtain ⟨v31, qv31, e⟩ := bnd e
  refine said_pure (P_hash_Size qv31) rfl ?_; (conv => whnf)
  refine brK.split (fun hb32 => ?_) (fun hb32 => ?_)
  · replace e := ifpb hb32 e; (conv => whnf)
    refine brK.tt hb32 ?_; (conv => whnf)
    refine ⟨⟨fun h33 => ?_, fun h33 => ?_⟩⟩
    · replace e := ifp h33 e; (conv => whnf)
      refine brK.tt hb32 ?_; (conv => whnf)
      refine ⟨⟨fun h34 => ?_, fun h34 => ?_⟩⟩
      · replace e := ifp h34 e; (conv => whnf)
        refine ⟨⟨fun h35 => ?_, fun h35 => ?_⟩⟩
        · replace e := ifp h35 e; (conv => whnf)
          refine ⟨⟨fun h36 => ?_, fun h36 => ?_⟩⟩
          · replace e := ifp h36 e; (conv => whnf)
            refine ⟨⟨fun h37 => ?_, fun h37 => ?_⟩⟩
            · replace e := ifp h37 e; (conv => whnf)
              refine ⟨⟨fun h38 => ?_, fun h38 => ?_⟩⟩
              · replace e := ifp h38 e; (conv => whnf)
                refine Runs.weak (P_sequentlaw31_HashNames_j3 e) ?_
                repeat' first | exact wk.of_eq rfl | exact wk.pure rfl | exact wk.un _ | exact wk.hold _ _ _ | exact rfl | exact trivial | refine ⟨?_, ?_⟩
              · replace e := ifn h38 e; (conv => whnf)
                refine Runs.weak (P_sequentlaw31_HashNames_j3 e) ?_
                repeat' first | exact wk.of_eq rfl | exact wk.pure rfl | exact wk.un _ | exact wk.hold _ _ _ | exact rfl | exact trivial | refine ⟨?_, ?_⟩
            · replace e := ifn h37 e; (conv => whnf)
              refine Runs.weak (P_sequentlaw31_HashNames_j3 e) ?_
              repeat' first | exact wk.of_eq rfl | exact wk.pure rfl | exact wk.un _ | exact wk.hold _ _ _ | exact rfl | exact trivial | refine ⟨?_, ?_⟩
          · replace e := ifn h36 e; (conv => whnf)
            refine Runs.weak (P_sequentlaw31_HashNames_j3 e) ?_
            repeat' first | exact wk.of_eq rfl | exact wk.pure rfl | exact wk.un _ | exact wk.hold _ _ _ | exact rfl | exact trivial | refine ⟨?_, ?_⟩
        · replace e := ifn h35 e; (conv => whnf)
          refine Runs.weak (P_sequentlaw31_HashNames_j3 e) ?_
          repeat' first | exact wk.of_eq rfl | exact wk.pure rfl | exact wk.un _ | exact wk.hold _ _ _ | exact rfl | exact trivial | refine ⟨?_, ?_⟩
      · replace e := ifn h34 e; (conv => whnf)
        refine Runs.weak (P_sequentlaw31_HashNames_j3 e) ?_
        repeat' first | exact wk.of_eq rfl | exact wk.pure rfl | exact wk.un _ | exact wk.hold _ _ _ | exact rfl | exact trivial | refine ⟨?_, ?_⟩
    · replace e := ifn h33 e; (conv => whnf)
      refine brK.tt hb32 ?_; (conv => whnf)
      refine Runs.weak (P_sequentlaw31_HashNames_j3 e) ?_
      repeat' first | exact wk.of_eq rfl | exact wk.pure rfl | exact wk.un _ | exact wk.hold _ _ _ | exact rfl | exact trivial | refine ⟨?_, ?_⟩
  · replace e := ifnb hb32 e; (conv => whnf)
    refine brK.ff hb32 ?_; (conv => whnf)
    refine brK.ff hb32 ?_; (conv => whnf)
    refine Runs.weak (P_sequentlaw31_HashNames_j3 e) ?_
    repeat' first | exact wk.of_eq rfl | exact wk.pure rfl | exact wk.un _ | exact wk.hold _ _ _ | exact rfl | exact trivial | refine ⟨?_, ?_⟩

theorem P_sequentlaw31_HashNames_j1 {t1_0 : Bool} {v9 : (AStore × Int × Int)} {v11 : (AStore × Int × Int)} {r : Bool} (e : sequentlaw31_HashNames_j1 t1_0 v9 v11 = some r) : JoinAt T Try.prog Try.f10 Fx0 [2, 4, 6, 13] [1, 1, 1, 1, 0] (EP T Try.f10 (.bool r)) [(1, .d (.bool t1_0)), (2, .ptr 0 0 0), (3, .d (.int .i64 v9.2.1)), (4, .d (.int .i64 v9.2.2)), (5, .ptr 0 1 0), (6, .d (.int .i64 v11.2.1)), (7, .d (.int .i64 v11.2.2))] [[.cells [.d (.slice 3 (ATypeNode.Ds v9.1.types)), .d (.slice 5 (ATermNode.Ds v9.1.terms))], .cells [.d (.slice 3 (ATypeNode.Ds v11.1.types)), .d (.slice 5 (ATermNode.Ds v11.1.terms))]]] := by
  unfold sequentlaw31_HashNames_j1 at e
  refine Runs.enter T_ok ?_; (conv => whnf)
  refine draw_rule [] T_ok mixed sequentlaw31_HashNames_pl4 (by decide +kernel) ?_; (conv => whnf)
  obtain ⟨v12, qv12, e⟩ := bnd e
  refine said_pure (P_sequentlaw31_lambda qv12) rfl ⟨Keeps.refl _ _, ?_⟩; (conv => whnf)
  obtain ⟨v13, qv13, e⟩ := bnd e
  refine said_pure (P_hash_Find qv13) rfl ⟨Keeps.refl _ _, ?_⟩; (conv => whnf)
  refine brK.split (fun hb14 => ?_) (fun hb14 => ?_)
  · replace e := ifpb hb14 e; (conv => whnf)
    refine brK.tt hb14 ?_; (conv => whnf)
    refine ⟨⟨fun h15 => ?_, fun h15 => ?_⟩⟩
    · replace e := ifp h15 e; (conv => whnf)
      refine brK.tt hb14 ?_; (conv => whnf)
      refine ⟨⟨fun h16 => ?_, fun h16 => ?_⟩⟩
      · replace e := ifp h16 e; (conv => whnf)
        refine ⟨⟨fun h17 => ?_, fun h17 => ?_⟩⟩
        · replace e := ifp h17 e; (conv => whnf)
          refine ⟨⟨fun h18 => ?_, fun h18 => ?_⟩⟩
          · replace e := ifp h18 e; (conv => whnf)
            refine ⟨⟨fun h19 => ?_, fun h19 => ?_⟩⟩
            · replace e := ifp h19 e; (conv => whnf)
              refine brK.split (fun hb20 => ?_) (fun hb20 => ?_)
              · replace e := ifpb hb20 e; (conv => whnf)
                refine brK.tt hb20 ?_; (conv => whnf)
                refine ⟨⟨fun h21 => ?_, fun h21 => ?_⟩⟩
                · replace e := ifp h21 e; (conv => whnf)
                  refine brK.tt hb20 ?_; (conv => whnf)
                  obtain ⟨v22, qv22, e⟩ := bnd e
                  refine said_pure (P_hash_Same qv22) rfl ?_; (conv => whnf)
                  refine brK.split (fun hb23 => ?_) (fun hb23 => ?_)
                  · replace e := ifpb hb23 e; (conv => whnf)
                    refine brK.tt hb23 ?_; (conv => whnf)
                    refine brK.tt hb23 ?_; (conv => whnf)
                    refine brK.tt hb23 ?_; (conv => whnf)
                    refine ⟨⟨fun h24 => ?_, fun h24 => ?_⟩⟩
                    · replace e := ifp (by first | exact h24 | simpa [ATermNode.Ds_all, ATypeNode.Ds_all, Tm.Ds_all, Ty.Ds_all, intDs_i64_all, AStore.D, ATermNode.D, ATypeNode.D, Tm.D, Ty.D, listAll] using h24) e; (conv => whnf)
                      refine brK.tt hb23 ?_; (conv => whnf)
                      obtain ⟨v25, qv25, e⟩ := bnd e
                      obtain ⟨qv25k, qv25a, qv25b⟩ := geti_some qv25
                      refine ⟨qv25k, _, qv25a, ATermNode.Ds_get qv25b, ?_⟩; (conv => whnf)
                      refine ⟨⟨fun h26 => ?_, fun h26 => ?_⟩⟩
                      · replace e := ifp h26 e; (conv => whnf)
                        refine Runs.weak (P_sequentlaw31_HashNames_j2 e) ?_
                        repeat' first | exact wk.of_eq rfl | exact wk.pure rfl | exact wk.un _ | exact wk.hold _ _ _ | exact rfl | exact trivial | refine ⟨?_, ?_⟩
                      · replace e := ifn h26 e; (conv => whnf)
                        refine Runs.weak (P_sequentlaw31_HashNames_j2 e) ?_
                        repeat' first | exact wk.of_eq rfl | exact wk.pure rfl | exact wk.un _ | exact wk.hold _ _ _ | exact rfl | exact trivial | refine ⟨?_, ?_⟩
                    · replace e := ifn (by first | exact h24 | simpa [ATermNode.Ds_all, ATypeNode.Ds_all, Tm.Ds_all, Ty.Ds_all, intDs_i64_all, AStore.D, ATermNode.D, ATypeNode.D, Tm.D, Ty.D, listAll] using h24) e; (conv => whnf)
                      refine brK.tt hb23 ?_; (conv => whnf)
                      refine Runs.weak (P_sequentlaw31_HashNames_j2 e) ?_
                      repeat' first | exact wk.of_eq rfl | exact wk.pure rfl | exact wk.un _ | exact wk.hold _ _ _ | exact rfl | exact trivial | refine ⟨?_, ?_⟩
                  · replace e := ifnb hb23 e; (conv => whnf)
                    refine brK.ff hb23 ?_; (conv => whnf)
                    refine brK.ff hb23 ?_; (conv => whnf)
                    refine brK.ff hb23 ?_; (conv => whnf)
                    refine brK.ff hb23 ?_; (conv => whnf)
                    refine Runs.weak (P_sequentlaw31_HashNames_j2 e) ?_
                    repeat' first | exact wk.of_eq rfl | exact wk.pure rfl | exact wk.un _ | exact wk.hold _ _ _ | exact rfl | exact trivial | refine ⟨?_, ?_⟩
                · replace e := ifn h21 e; (conv => whnf)
                  refine brK.tt hb20 ?_; (conv => whnf)
                  refine Runs.weak (P_sequentlaw31_HashNames_j2 e) ?_
                  repeat' first | exact wk.of_eq rfl | exact wk.pure rfl | exact wk.un _ | exact wk.hold _ _ _ | exact rfl | exact trivial | refine ⟨?_, ?_⟩
              · replace e := ifnb hb20 e; (conv => whnf)
                refine brK.ff hb20 ?_; (conv => whnf)
                refine brK.ff hb20 ?_; (conv => whnf)
                refine Runs.weak (P_sequentlaw31_HashNames_j2 e) ?_
                repeat' first | exact wk.of_eq rfl | exact wk.pure rfl | exact wk.un _ | exact wk.hold _ _ _ | exact rfl | exact trivial | refine ⟨?_, ?_⟩
            · replace e := ifn h19 e; (conv => whnf)
              refine Runs.weak (P_sequentlaw31_HashNames_j2 e) ?_
              repeat' first | exact wk.of_eq rfl | exact wk.pure rfl | exact wk.un _ | exact wk.hold _ _ _ | exact rfl | exact trivial | refine ⟨?_, ?_⟩
          · replace e := ifn h18 e; (conv => whnf)
            refine Runs.weak (P_sequentlaw31_HashNames_j2 e) ?_
            repeat' first | exact wk.of_eq rfl | exact wk.pure rfl | exact wk.un _ | exact wk.hold _ _ _ | exact rfl | exact trivial | refine ⟨?_, ?_⟩
        · replace e := ifn h17 e; (conv => whnf)
          refine Runs.weak (P_sequentlaw31_HashNames_j2 e) ?_
          repeat' first | exact wk.of_eq rfl | exact wk.pure rfl | exact wk.un _ | exact wk.hold _ _ _ | exact rfl | exact trivial | refine ⟨?_, ?_⟩
      · replace e := ifn h16 e; (conv => whnf)
        refine Runs.weak (P_sequentlaw31_HashNames_j2 e) ?_
        repeat' first | exact wk.of_eq rfl | exact wk.pure rfl | exact wk.un _ | exact wk.hold _ _ _ | exact rfl | exact trivial | refine ⟨?_, ?_⟩
    · replace e := ifn h15 e; (conv => whnf)
      refine brK.tt hb14 ?_; (conv => whnf)
      refine Runs.weak (P_sequentlaw31_HashNames_j2 e) ?_
      repeat' first | exact wk.of_eq rfl | exact wk.pure rfl | exact wk.un _ | exact wk.hold _ _ _ | exact rfl | exact trivial | refine ⟨?_, ?_⟩
  · replace e := ifnb hb14 e; (conv => whnf)
    refine brK.ff hb14 ?_; (conv => whnf)
    refine brK.ff hb14 ?_; (conv => whnf)
    refine Runs.weak (P_sequentlaw31_HashNames_j2 e) ?_
    repeat' first | exact wk.of_eq rfl | exact wk.pure rfl | exact wk.un _ | exact wk.hold _ _ _ | exact rfl | exact trivial | refine ⟨?_, ?_⟩

theorem P_sequentlaw31_HashNames_j0 {t1_0 : Bool} {r : Bool} (e : sequentlaw31_HashNames_j0 t1_0 = some r) : JoinAt T Try.prog Try.f10 Fx0 [2, 4, 6, 13] [1, 1, 0] (EP T Try.f10 (.bool r)) [(1, .d (.bool t1_0))] [[]] := by
  unfold sequentlaw31_HashNames_j0 at e
  refine Runs.enter T_ok ?_; (conv => whnf)
  obtain ⟨v8, qv8, e⟩ := bnd e
  refine said_pure (P_sequentlaw31_lambda qv8) rfl ?_; (conv => whnf)
  obtain ⟨v9, qv9, e⟩ := bnd e
  refine said_pure (P_hash_Add qv9) rfl ?_; (conv => whnf)
  refine draw_rule [] T_ok mixed sequentlaw31_HashNames_pl3 (by decide +kernel) ?_; (conv => whnf)
  obtain ⟨v10, qv10, e⟩ := bnd e
  obtain ⟨v11, qv11, e⟩ := bnd e
  refine ⟨?_, ?_⟩
  · (conv => whnf)
    refine said_pure (P_sequentlaw31_lambda qv10) rfl ⟨Keeps.refl _ _, ?_⟩; (conv => whnf)
    refine ⟨?_, ?_⟩
    · (conv => whnf)
      refine said_pure (P_hash_Add qv11) rfl ⟨Keeps.refl _ _, ?_⟩; (conv => whnf)
      refine Runs.weak (P_sequentlaw31_HashNames_j1 e) ?_
      repeat' first | exact wk.of_eq rfl | exact wk.pure rfl | exact wk.un _ | exact wk.hold _ _ _ | exact rfl | exact trivial | refine ⟨?_, ?_⟩
    · (conv => whnf)
      refine said_pure (P_hash_Add qv11) rfl ⟨Keeps.refl _ _, ?_⟩; (conv => whnf)
      refine Runs.weak (P_sequentlaw31_HashNames_j1 e) ?_
      repeat' first | exact wk.of_eq rfl | exact wk.pure rfl | exact wk.un _ | exact wk.hold _ _ _ | exact rfl | exact trivial | refine ⟨?_, ?_⟩
  · (conv => whnf)
    refine said_pure (P_sequentlaw31_lambda qv10) rfl ⟨Keeps.refl _ _, ?_⟩; (conv => whnf)
    refine said_pure (P_hash_Add qv11) rfl ⟨Keeps.refl _ _, ?_⟩; (conv => whnf)
    refine Runs.weak (P_sequentlaw31_HashNames_j1 e) ?_
    repeat' first | exact wk.of_eq rfl | exact wk.pure rfl | exact wk.un _ | exact wk.hold _ _ _ | exact rfl | exact trivial | refine ⟨?_, ?_⟩

theorem P_sequentlaw31_HashNames {r : Bool} (e : sequentlaw31_HashNames = some r) : Pure Try.prog 10 [] (.bool r) := by
  unfold sequentlaw31_HashNames at e
  refine pure_of_awp (js := [2, 4, 6, 13]) T_ok Try.func10 rfl (by decide +kernel) rfl ?_; (conv => whnf)
  obtain ⟨v1, qv1, e⟩ := bnd e
  refine said_pure (P_sequentlaw31_alive qv1) rfl ?_; (conv => whnf)
  refine brK.split (fun hb2 => ?_) (fun hb2 => ?_)
  · replace e := ifpb hb2 e; (conv => whnf)
    refine brK.tt hb2 ?_; (conv => whnf)
    obtain ⟨v3, qv3, e⟩ := bnd e
    refine said_pure (P_hash_Check qv3) rfl ?_; (conv => whnf)
    refine brK.tt hb2 ?_; (conv => whnf)
    refine ⟨⟨fun h4 => ?_, fun h4 => ?_⟩⟩
    · replace e := ifp h4 e; (conv => whnf)
      refine brK.tt hb2 ?_; (conv => whnf)
      refine ⟨4097, 4097, rfl, rfl, Nat.le_refl _, by decide, .inr (.inr ⟨rfl, ATermNode.Ds (List.replicate 4097 (ATermNode.mk 0 ByteArray.empty 0 0 [])), ATermNode.Ds_rep _ _, ?_⟩)⟩; (conv => whnf)
      obtain ⟨v5, qv5, e⟩ := bnd e
      first | (refine said_pure (P_hash_Check qv5) rfl ?_) | (refine said_pure2 (P_hash_Check qv5) rfl (by simp [ATermNode.Ds_all, ATypeNode.Ds_all, Tm.Ds_all, Ty.Ds_all, intDs_i64_all, AStore.D, ATermNode.D, ATypeNode.D, Tm.D, Ty.D, listAll] <;> (repeat' first | rfl | apply And.intro)) ?_)
      (conv => whnf)
      refine ⟨⟨fun h6 => ?_, fun h6 => ?_⟩⟩
      · replace e := ifp h6 e; (conv => whnf)
        refine ⟨1, 1, rfl, rfl, Nat.le_refl _, by decide, .inr (.inr ⟨rfl, ATermNode.Ds (List.replicate 1 (ATermNode.mk 0 ByteArray.empty 0 0 [])), ATermNode.Ds_rep _ _, ?_⟩)⟩; (conv => whnf)
        obtain ⟨v7, qv7, e⟩ := bnd e
        first | (refine said_pure (P_hash_Check qv7) rfl ?_) | (refine said_pure2 (P_hash_Check qv7) rfl (by simp [ATermNode.Ds_all, ATypeNode.Ds_all, Tm.Ds_all, Ty.Ds_all, intDs_i64_all, AStore.D, ATermNode.D, ATypeNode.D, Tm.D, Ty.D, listAll] <;> (repeat' first | rfl | apply And.intro)) ?_)
        (conv => whnf)
        refine ⟨⟨fun h8 => ?_, fun h8 => ?_⟩⟩
        · replace e := ifp h8 e; (conv => whnf)
          refine Runs.weak (P_sequentlaw31_HashNames_j0 e) ?_
          repeat' first | exact wk.of_eq rfl | exact wk.pure rfl | exact wk.un _ | exact wk.hold _ _ _ | exact rfl | exact trivial | refine ⟨?_, ?_⟩
        · replace e := ifn h8 e; (conv => whnf)
          refine Runs.weak (P_sequentlaw31_HashNames_j0 e) ?_
          repeat' first | exact wk.of_eq rfl | exact wk.pure rfl | exact wk.un _ | exact wk.hold _ _ _ | exact rfl | exact trivial | refine ⟨?_, ?_⟩
      · replace e := ifn h6 e; (conv => whnf)
        refine Runs.weak (P_sequentlaw31_HashNames_j0 e) ?_
        repeat' first | exact wk.of_eq rfl | exact wk.pure rfl | exact wk.un _ | exact wk.hold _ _ _ | exact rfl | exact trivial | refine ⟨?_, ?_⟩
    · replace e := ifn h4 e; (conv => whnf)
      refine brK.tt hb2 ?_; (conv => whnf)
      refine Runs.weak (P_sequentlaw31_HashNames_j0 e) ?_
      repeat' first | exact wk.of_eq rfl | exact wk.pure rfl | exact wk.un _ | exact wk.hold _ _ _ | exact rfl | exact trivial | refine ⟨?_, ?_⟩
  · replace e := ifnb hb2 e; (conv => whnf)
    refine brK.ff hb2 ?_; (conv => whnf)
    refine brK.ff hb2 ?_; (conv => whnf)
    refine brK.ff hb2 ?_; (conv => whnf)
    refine Runs.weak (P_sequentlaw31_HashNames_j0 e) ?_
    repeat' first | exact wk.of_eq rfl | exact wk.pure rfl | exact wk.un _ | exact wk.hold _ _ _ | exact rfl | exact trivial | refine ⟨?_, ?_⟩

end Go.Proofs.Ytpgecpmonaldiaa.Fw
