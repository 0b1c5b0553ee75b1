/- The code computes the functions. -/
import Derived.Test.YtpgecpmonaldiaaGP2
set_option autoImplicit false
set_option linter.unusedVariables false
set_option linter.unusedSimpArgs false
set_option maxHeartbeats 4000000
namespace Go.Proofs.Ytpgecpmonaldiaa.Fw
open Go Go.Proofs Go.RowKit
def M_slices_CompareFunc_Term_Term_Term_Term__terms_Compare (a0 : (List Tm)) (a1 : (List Tm)) (r : Int) : Prop := Pure Try.prog 117 [(.slice 7 (Tm.Ds a0)), (.slice 7 (Tm.Ds a1)), (.func (.func 96) [] [])] (.int .i64 r)
def M_slices_CompareFunc_Term_Term_Term_Term__terms_Compare_l0 (rest0 : (List Tm)) (k0 : Nat) (a0 : (List Tm)) (a1 : (List Tm)) (r : Int) : Prop := ∀ (hd0 : rest0 = a0.drop k0), LoopAt T Try.prog Try.f117 Fx0 [] [1, 0, 1, 0] (EP T Try.f117 (.int .i64 r)) [(0, .d (.slice 7 (Tm.Ds a0))), (1, .d (.slice 7 (Tm.Ds a1))), (2, .d (.func (.func 96) [] [])), (11, .d (.slice 7 (Tm.Ds a0))), (12, .d (.int .i64 ((Tm.Ds a0).length : Int))), (13, .d (.int .i64 (k0 : Int)))] [[]]
def M_terms_Compare (a0 : Tm) (a1 : Tm) (r : Int) : Prop := Pure Try.prog 96 [(Tm.D a0), (Tm.D a1)] (.int .i64 r)
def M_terms_Compare_j0 (a0 : Tm) (a1 : Tm) (r : Int) : Prop := JoinAt T Try.prog Try.f96 Fx0 [7] [1, 1, 1, 0, 0] (EP T Try.f96 (.int .i64 r)) [(2, .ptr 0 0 0), (3, .ptr 0 1 0)] [[.cells [.d (.int .u8 a0.kind), .d (.str a0.name), .d (.bool a0.ty.v), .d (.str a0.ty.name), .d (.slice 3 (Ty.Ds a0.ty.args)), .d (.int .i64 a0.index), .d (.slice 7 (Tm.Ds a0.sub))], .cells [.d (.int .u8 a1.kind), .d (.str a1.name), .d (.bool a1.ty.v), .d (.str a1.ty.name), .d (.slice 3 (Ty.Ds a1.ty.args)), .d (.int .i64 a1.index), .d (.slice 7 (Tm.Ds a1.sub))]]]
theorem G_slices_CompareFunc_Term_Term_Term_Term__terms_Compare : (∀ p r, slices_CompareFunc_Term_Term_Term_Term__terms_Compare' p = some r → ∀ a0 a1, (a0, a1) = p → M_slices_CompareFunc_Term_Term_Term_Term__terms_Compare a0 a1 r) ∧
    (∀ p r, slices_CompareFunc_Term_Term_Term_Term__terms_Compare_l0' p = some r → ∀ rest0 k0 a0 a1, (rest0, k0, a0, a1) = p → M_slices_CompareFunc_Term_Term_Term_Term__terms_Compare_l0 rest0 k0 a0 a1 r) ∧
    (∀ p r, terms_Compare' p = some r → ∀ a0 a1, (a0, a1) = p → M_terms_Compare a0 a1 r) ∧
    (∀ p r, terms_Compare_j0' p = some r → ∀ a0 a1, (a0, a1) = p → M_terms_Compare_j0 a0 a1 r) := by
  refine slices_CompareFunc_Term_Term_Term_Term__terms_Compare'.mutual_partial_correctness (fun (p : ((List Tm) × (List Tm))) (r : Int) => ∀ (a0 : (List Tm)) (a1 : (List Tm)), (a0, a1) = p → M_slices_CompareFunc_Term_Term_Term_Term__terms_Compare a0 a1 r) (fun (p : ((List Tm) × Nat × (List Tm) × (List Tm))) (r : Int) => ∀ (rest0 : (List Tm)) (k0 : Nat) (a0 : (List Tm)) (a1 : (List Tm)), (rest0, k0, a0, a1) = p → M_slices_CompareFunc_Term_Term_Term_Term__terms_Compare_l0 rest0 k0 a0 a1 r) (fun (p : (Tm × Tm)) (r : Int) => ∀ (a0 : Tm) (a1 : Tm), (a0, a1) = p → M_terms_Compare a0 a1 r) (fun (p : (Tm × Tm)) (r : Int) => ∀ (a0 : Tm) (a1 : Tm), (a0, a1) = p → M_terms_Compare_j0 a0 a1 r) ?_ ?_ ?_ ?_
  · intro f_slices_CompareFunc_Term_Term_Term_Term__terms_Compare_l0 ih_slices_CompareFunc_Term_Term_Term_Term__terms_Compare_l0 p r e a0 a1 hp
    subst hp
    refine pure_of_awp (js := []) T_ok Try.func117 rfl (by decide +kernel) rfl ?_; (conv => whnf)
    refine RunsL.runs (RunsL.weak ((ih_slices_CompareFunc_Term_Term_Term_Term__terms_Compare_l0 _ _ e _ _ _ _ rfl) (by simp)) ?_)
    repeat' first | exact wk.of_eq rfl | exact wk.pure rfl | exact wk.un _ | exact wk.hold _ _ _ | exact rfl | exact trivial | refine ⟨?_, ?_⟩ | (refine wk.of_eq ?_; (conv => lhs; whnf); (simp [Tm.Ds_all, Tm.D, listAll] <;> (repeat' first | rfl | apply And.intro)); done) | (refine wk.pure ?_; (conv => lhs; whnf); (simp [Tm.Ds_all, Tm.D, listAll] <;> (repeat' first | rfl | apply And.intro)); done) | ((simp [Tm.Ds_all, Tm.D, listAll] <;> (repeat' first | rfl | apply And.intro)); done)
  · intro f_slices_CompareFunc_Term_Term_Term_Term__terms_Compare_l0 f_terms_Compare ih_slices_CompareFunc_Term_Term_Term_Term__terms_Compare_l0 ih_terms_Compare p r e rest0 k0 a0 a1 hp
    subst hp
    intro hd0
    refine RunsL.len_tmp 0 rfl fun hlenk0 => ?_
    refine RunsL.of_awp (js := []) T_ok ?_; (conv => whnf)
    have hls := Tm.Ds_len a0
    cases rest0 with
    | nil =>
      have hk := drop_nil hd0
      refine ⟨⟨fun h => absurd h (by omega), fun _ => ?_⟩⟩; (conv => whnf)
      refine ⟨⟨fun h15 => ?_, fun h15 => ?_⟩⟩
      · replace e := ifp (by first | exact h15 | simpa [Tm.Ds_all, Tm.D, listAll] using h15) e; (conv => whnf)
        obtain rfl := sm e
        repeat' first | exact rfl | exact trivial | refine ⟨?_, ?_⟩
      · replace e := ifn (by first | exact h15 | simpa [Tm.Ds_all, Tm.D, listAll] using h15) e; (conv => whnf)
        obtain rfl := sm e
        repeat' first | exact rfl | exact trivial | refine ⟨?_, ?_⟩
    | cons v14 rest0 =>
      obtain ⟨hxv14, hd0, hltv14⟩ := drop_head hd0
      refine ⟨⟨fun _ => ?_, fun h => absurd (by omega) h⟩⟩; (conv => whnf)
      refine ⟨k0, _, rfl, Tm.Ds_get hxv14, ?_⟩; (conv => whnf)
      refine ⟨Tm.Ds_fit _ rfl rfl, ?_⟩; (conv => whnf)
      refine ⟨⟨fun h15 => ?_, fun h15 => ?_⟩⟩
      · replace e := ifp (by first | exact h15 | simpa [Tm.Ds_all, Tm.D, listAll] using h15) e; (conv => whnf)
        obtain rfl := sm e
        repeat' first | exact rfl | exact trivial | refine ⟨?_, ?_⟩
      · replace e := ifn (by first | exact h15 | simpa [Tm.Ds_all, Tm.D, listAll] using h15) e; (conv => whnf)
        obtain ⟨v16, qv16, e⟩ := bnd e
        obtain ⟨qv16k, qv16a, qv16b⟩ := geti_some qv16
        refine ⟨qv16k, _, qv16a, Tm.Ds_get qv16b, ?_⟩; (conv => whnf)
        refine ⟨Tm.Ds_fit _ rfl rfl, ?_⟩; (conv => whnf)
        obtain ⟨v17, qv17, e⟩ := bnd e
        refine said_pure (ih_terms_Compare _ _ qv17 _ _ rfl) rfl ?_; (conv => whnf)
        refine ⟨⟨fun h18 => ?_, fun h18 => ?_⟩⟩
        · replace e := ifp h18 e; (conv => whnf)
          obtain rfl := sm e
          repeat' first | exact rfl | exact trivial | refine ⟨?_, ?_⟩
        · replace e := ifn h18 e; (conv => whnf)
          refine ⟨((k0 + 1 : Nat) : Int), wrap64e (by omega) (by omega) (by omega), ?_⟩; (conv => whnf)
          refine (RunsL.weak ((ih_slices_CompareFunc_Term_Term_Term_Term__terms_Compare_l0 _ _ e _ _ _ _ rfl) hd0) ?_)
          repeat' first | exact wk.of_eq rfl | exact wk.pure rfl | exact wk.un _ | exact wk.hold _ _ _ | exact rfl | exact trivial | refine ⟨?_, ?_⟩ | (refine wk.of_eq ?_; (conv => lhs; whnf); (simp [Tm.Ds_all, Tm.D, listAll] <;> (repeat' first | rfl | apply And.intro)); done) | (refine wk.pure ?_; (conv => lhs; whnf); (simp [Tm.Ds_all, Tm.D, listAll] <;> (repeat' first | rfl | apply And.intro)); done) | ((simp [Tm.Ds_all, Tm.D, listAll] <;> (repeat' first | rfl | apply And.intro)); done)
  · intro f_terms_Compare_j0 ih_terms_Compare_j0 p r e a0 a1 hp
    subst hp
    refine pure_of_awp (js := [7]) T_ok Try.func96 rfl (by decide +kernel) rfl ?_; (conv => whnf)
    obtain ⟨v1, qv1, e⟩ := bnd e
    refine said_pure (P_cmp_Compare_uint8 qv1) rfl ?_; (conv => whnf)
    refine ⟨⟨fun h2 => ?_, fun h2 => ?_⟩⟩
    · replace e := ifp h2 e; (conv => whnf)
      obtain rfl := sm e
      repeat' first | exact rfl | exact trivial | refine ⟨?_, ?_⟩
    · replace e := ifn h2 e; (conv => whnf)
      obtain ⟨v3, qv3, e⟩ := bnd e
      refine said_pure (P_strings_Compare qv3) rfl ?_; (conv => whnf)
      refine ⟨⟨fun h4 => ?_, fun h4 => ?_⟩⟩
      · replace e := ifp h4 e; (conv => whnf)
        refine ⟨⟨fun h5 => ?_, fun h5 => ?_⟩⟩
        · replace e := ifp h5 e; (conv => whnf)
          obtain rfl := sm e
          repeat' first | exact rfl | exact trivial | refine ⟨?_, ?_⟩
        · replace e := ifn h5 e; (conv => whnf)
          refine Runs.weak (ih_terms_Compare_j0 _ _ e _ _ rfl) ?_
          repeat' first | exact wk.of_eq rfl | exact wk.pure rfl | exact wk.un _ | exact wk.hold _ _ _ | exact rfl | exact trivial | refine ⟨?_, ?_⟩
      · replace e := ifn h4 e; (conv => whnf)
        refine Runs.weak (ih_terms_Compare_j0 _ _ e _ _ rfl) ?_
        repeat' first | exact wk.of_eq rfl | exact wk.pure rfl | exact wk.un _ | exact wk.hold _ _ _ | exact rfl | exact trivial | refine ⟨?_, ?_⟩
  · intro f_slices_CompareFunc_Term_Term_Term_Term__terms_Compare ih_slices_CompareFunc_Term_Term_Term_Term__terms_Compare p r e a0 a1 hp
    subst hp
    refine Runs.enter T_ok ?_; (conv => whnf)
    refine draw_rule [] T_ok mixed terms_Compare_pl7 (by decide +kernel) ?_; (conv => whnf)
    obtain ⟨v4, qv4, e⟩ := bnd e
    refine said_pure (P_types_Compare qv4) rfl ⟨Keeps.refl _ _, ?_⟩; (conv => whnf)
    obtain ⟨v5, qv5, e⟩ := bnd e
    refine said_pure (P_cmp_Compare_int qv5) rfl ⟨Keeps.refl _ _, ?_⟩; (conv => whnf)
    obtain ⟨v6, qv6, e⟩ := bnd e
    first | (refine said_pure (P_cmp_Compare_int qv6) rfl ⟨Keeps.refl _ _, ?_⟩) | (refine said_pure2 (P_cmp_Compare_int qv6) rfl (by simp [Tm.Ds_all, Ty.Ds_all, intDs_i64_all, Tm.D, Ty.D, listAll] <;> (repeat' first | rfl | apply And.intro)) ⟨Keeps.refl _ _, ?_⟩)
    (conv => whnf)
    refine ⟨⟨⟨rfl, rfl⟩, ⟨⟨rfl, rfl⟩, ⟨⟨rfl, rfl⟩, trivial⟩⟩⟩, ?_⟩; (conv => whnf)
    obtain ⟨v7, qv7, e⟩ := bnd e
    first | (refine said_pure (P_cmp_Or_int qv7) rfl ⟨Keeps.refl _ _, ?_⟩) | (refine said_pure2 (P_cmp_Or_int qv7) rfl (by simp [Tm.Ds_all, Ty.Ds_all, intDs_i64_all, Tm.D, Ty.D, listAll] <;> (repeat' first | rfl | apply And.intro)) ⟨Keeps.refl _ _, ?_⟩)
    (conv => whnf)
    refine ⟨⟨fun h8 => ?_, fun h8 => ?_⟩⟩
    · replace e := ifp h8 e; (conv => whnf)
      obtain rfl := sm e
      repeat' first | exact rfl | exact trivial | refine ⟨?_, ?_⟩
    · replace e := ifn h8 e; (conv => whnf)
      obtain ⟨v9, qv9, e⟩ := bnd e
      refine said_pure (ih_slices_CompareFunc_Term_Term_Term_Term__terms_Compare _ _ qv9 _ _ rfl) rfl ?_; (conv => whnf)
      obtain rfl := sm e
      repeat' first | exact rfl | exact trivial | refine ⟨?_, ?_⟩
theorem P_slices_CompareFunc_Term_Term_Term_Term__terms_Compare {a0 : (List Tm)} {a1 : (List Tm)} {r : Int} (e : slices_CompareFunc_Term_Term_Term_Term__terms_Compare a0 a1 = some r) : M_slices_CompareFunc_Term_Term_Term_Term__terms_Compare a0 a1 r := G_slices_CompareFunc_Term_Term_Term_Term__terms_Compare.1 _ _ e _ _ rfl
theorem P_slices_CompareFunc_Term_Term_Term_Term__terms_Compare_l0 {rest0 : (List Tm)} {k0 : Nat} {a0 : (List Tm)} {a1 : (List Tm)} {r : Int} (e : slices_CompareFunc_Term_Term_Term_Term__terms_Compare_l0 rest0 k0 a0 a1 = some r) : M_slices_CompareFunc_Term_Term_Term_Term__terms_Compare_l0 rest0 k0 a0 a1 r := G_slices_CompareFunc_Term_Term_Term_Term__terms_Compare.2.1 _ _ e _ _ _ _ rfl
theorem P_terms_Compare {a0 : Tm} {a1 : Tm} {r : Int} (e : terms_Compare a0 a1 = some r) : M_terms_Compare a0 a1 r := G_slices_CompareFunc_Term_Term_Term_Term__terms_Compare.2.2.1 _ _ e _ _ rfl
theorem P_terms_Compare_j0 {a0 : Tm} {a1 : Tm} {r : Int} (e : terms_Compare_j0 a0 a1 = some r) : M_terms_Compare_j0 a0 a1 r := G_slices_CompareFunc_Term_Term_Term_Term__terms_Compare.2.2.2 _ _ e _ _ rfl

theorem P_terms_Same {a0 : Tm} {a1 : Tm} {r : Bool} (e : terms_Same a0 a1 = some r) : Pure Try.prog 73 [(Tm.D a0), (Tm.D a1)] (.bool r) := by
  unfold terms_Same at e
  refine pure_of_awp (js := []) T_ok Try.func73 rfl (by decide +kernel) rfl ?_; (conv => whnf)
  obtain ⟨v1, qv1, e⟩ := bnd e
  refine said_pure (P_terms_Compare qv1) rfl ?_; (conv => whnf)
  refine test.dec ?_; (conv => whnf)
  obtain rfl := sm e
  repeat' first | exact rfl | exact trivial | refine ⟨?_, ?_⟩

def M_sequentref31_ints_l0 (rest0 : (List Int)) (k0 : Nat) (a1 : (List Int)) (r : Bool) : Prop := ∀ (a0 : (List Int)) (hd0 : rest0 = a0.drop k0), LoopAt T Try.prog Try.f88 Fx0 [] [1, 1, 0, 1, 0] (EP T Try.f88 (.bool r)) [(0, .d (.slice 1 (intDs_i64 a0))), (1, .d (.slice 1 (intDs_i64 a1))), (5, .d (.int .i64 (k0 : Int)))] [[]]
theorem G_sequentref31_ints_l0 : (∀ p r, sequentref31_ints_l0' p = some r → ∀ rest0 k0 a1, (rest0, k0, a1) = p → M_sequentref31_ints_l0 rest0 k0 a1 r) := by
  refine sequentref31_ints_l0'.partial_correctness (fun (p : ((List Int) × Nat × (List Int))) (r : Bool) => ∀ (rest0 : (List Int)) (k0 : Nat) (a1 : (List Int)), (rest0, k0, a1) = p → M_sequentref31_ints_l0 rest0 k0 a1 r) ?_
  · intro f_sequentref31_ints_l0 ih_sequentref31_ints_l0 p r e rest0 k0 a1 hp
    subst hp
    intro a0 hd0
    refine RunsL.len_tmp 0 rfl fun hlenk0 => ?_
    refine RunsL.of_awp (js := []) T_ok ?_; (conv => whnf)
    have hls := intDs_i64_len a0
    cases rest0 with
    | nil =>
      have hk := drop_nil hd0
      refine ⟨⟨fun h => absurd h (by omega), fun _ => ?_⟩⟩; (conv => whnf)
      obtain rfl := sm e
      repeat' first | exact rfl | exact trivial | refine ⟨?_, ?_⟩
    | cons v6 rest0 =>
      obtain ⟨hxv6, hd0, hltv6⟩ := drop_head hd0
      refine ⟨⟨fun _ => ?_, fun h => absurd (by omega) h⟩⟩; (conv => whnf)
      refine draw_rule [] T_ok mixed sequentref31_ints_pl6 (by decide +kernel) ?_; (conv => whnf)
      refine ⟨k0, _, rfl, intDs_i64_get hxv6, ?_⟩; (conv => whnf)
      refine ⟨intDs_i64_fit _ rfl rfl, ?_⟩; (conv => whnf)
      obtain ⟨v7, qv7, e⟩ := bnd e
      obtain ⟨qv7k, qv7a, qv7b⟩ := geti_some qv7
      refine ⟨qv7k, _, qv7a, intDs_i64_get qv7b, ?_⟩; (conv => whnf)
      refine ⟨intDs_i64_fit _ rfl rfl, ?_⟩; (conv => whnf)
      refine ⟨⟨fun h8 => ?_, fun h8 => ?_⟩⟩
      · replace e := ifp h8 e; (conv => whnf)
        obtain rfl := sm e
        repeat' first | exact rfl | exact trivial | refine ⟨?_, ?_⟩
      · replace e := ifn h8 e; (conv => whnf)
        refine ⟨((k0 + 1 : Nat) : Int), wrap64e (by omega) (by omega) (by omega), ?_⟩; (conv => whnf)
        refine (RunsL.weak ((ih_sequentref31_ints_l0 _ _ e _ _ _ rfl) a0 hd0) ?_)
        repeat' first | exact wk.of_eq rfl | exact wk.pure rfl | exact wk.un _ | exact wk.hold _ _ _ | exact rfl | exact trivial | refine ⟨?_, ?_⟩
theorem P_sequentref31_ints_l0 {rest0 : (List Int)} {k0 : Nat} {a1 : (List Int)} {r : Bool} (e : sequentref31_ints_l0 rest0 k0 a1 = some r) : M_sequentref31_ints_l0 rest0 k0 a1 r := G_sequentref31_ints_l0 _ _ e _ _ _ rfl

theorem P_sequentref31_ints {a0 : (List Int)} {a1 : (List Int)} {r : Bool} (e : sequentref31_ints a0 a1 = some r) : Pure Try.prog 88 [(.slice 1 (intDs_i64 a0)), (.slice 1 (intDs_i64 a1))] (.bool r) := by
  unfold sequentref31_ints at e
  refine pure_of_awp (js := []) T_ok Try.func88 rfl (by decide +kernel) rfl ?_; (conv => whnf)
  refine ⟨⟨fun h1 => ?_, fun h1 => ?_⟩⟩
  · replace e := ifp (by first | exact h1 | simpa [intDs_i64_all, listAll] using h1) e; (conv => whnf)
    obtain rfl := sm e
    repeat' first | exact rfl | exact trivial | refine ⟨?_, ?_⟩
  · replace e := ifn (by first | exact h1 | simpa [intDs_i64_all, listAll] using h1) e; (conv => whnf)
    refine RunsL.runs (RunsL.weak ((P_sequentref31_ints_l0 e) a0 (by simp)) ?_)
    repeat' first | exact wk.of_eq rfl | exact wk.pure rfl | exact wk.un _ | exact wk.hold _ _ _ | exact rfl | exact trivial | refine ⟨?_, ?_⟩

theorem P_sequentref31_sameType {a0 : ATypeNode} {a1 : ATypeNode} {r : Bool} (e : sequentref31_sameType a0 a1 = some r) : Pure Try.prog 51 [(ATypeNode.D a0), (ATypeNode.D a1)] (.bool r) := by
  unfold sequentref31_sameType at e
  refine pure_of_awp (js := []) T_ok Try.func51 rfl (by decide +kernel) rfl ?_; (conv => whnf)
  refine ⟨⟨fun h1 => ?_, fun h1 => ?_⟩⟩
  · replace e := ifp h1 e; (conv => whnf)
    refine ⟨⟨fun h2 => ?_, fun h2 => ?_⟩⟩
    · replace e := ifp h2 e; (conv => whnf)
      obtain ⟨v3, qv3, e⟩ := bnd e
      refine said_pure (P_sequentref31_ints qv3) rfl ?_; (conv => whnf)
      obtain rfl := sm e
      repeat' first | exact rfl | exact trivial | refine ⟨?_, ?_⟩
    · replace e := ifn h2 e; (conv => whnf)
      obtain rfl := sm e
      repeat' first | exact rfl | exact trivial | refine ⟨?_, ?_⟩
  · replace e := ifn h1 e; (conv => whnf)
    obtain rfl := sm e
    repeat' first | exact rfl | exact trivial | refine ⟨?_, ?_⟩

theorem P_sequentref31_sameTerm {a0 : ATermNode} {a1 : ATermNode} {r : Bool} (e : sequentref31_sameTerm a0 a1 = some r) : Pure Try.prog 52 [(ATermNode.D a0), (ATermNode.D a1)] (.bool r) := by
  unfold sequentref31_sameTerm at e
  refine pure_of_awp (js := []) T_ok Try.func52 rfl (by decide +kernel) rfl ?_; (conv => whnf)
  refine ⟨⟨fun h1 => ?_, fun h1 => ?_⟩⟩
  · replace e := ifp h1 e; (conv => whnf)
    refine ⟨⟨fun h2 => ?_, fun h2 => ?_⟩⟩
    · replace e := ifp h2 e; (conv => whnf)
      refine ⟨⟨fun h3 => ?_, fun h3 => ?_⟩⟩
      · replace e := ifp h3 e; (conv => whnf)
        refine ⟨⟨fun h4 => ?_, fun h4 => ?_⟩⟩
        · replace e := ifp h4 e; (conv => whnf)
          obtain ⟨v5, qv5, e⟩ := bnd e
          refine said_pure (P_sequentref31_ints qv5) rfl ?_; (conv => whnf)
          obtain rfl := sm e
          repeat' first | exact rfl | exact trivial | refine ⟨?_, ?_⟩
        · replace e := ifn h4 e; (conv => whnf)
          obtain rfl := sm e
          repeat' first | exact rfl | exact trivial | refine ⟨?_, ?_⟩
      · replace e := ifn h3 e; (conv => whnf)
        obtain rfl := sm e
        repeat' first | exact rfl | exact trivial | refine ⟨?_, ?_⟩
    · replace e := ifn h2 e; (conv => whnf)
      refine ⟨⟨fun h3 => ?_, fun h3 => ?_⟩⟩
      · replace e := ifp h3 e; (conv => whnf)
        refine ⟨⟨fun h4 => ?_, fun h4 => ?_⟩⟩
        · replace e := ifp h4 e; (conv => whnf)
          refine ⟨⟨fun h5 => ?_, fun h5 => ?_⟩⟩
          · replace e := ifp h5 e; (conv => whnf)
            obtain ⟨v6, qv6, e⟩ := bnd e
            refine said_pure (P_sequentref31_ints qv6) rfl ?_; (conv => whnf)
            obtain rfl := sm e
            repeat' first | exact rfl | exact trivial | refine ⟨?_, ?_⟩
          · replace e := ifn h5 e; (conv => whnf)
            obtain rfl := sm e
            repeat' first | exact rfl | exact trivial | refine ⟨?_, ?_⟩
        · replace e := ifn h4 e; (conv => whnf)
          obtain rfl := sm e
          repeat' first | exact rfl | exact trivial | refine ⟨?_, ?_⟩
      · replace e := ifn h3 e; (conv => whnf)
        obtain rfl := sm e
        repeat' first | exact rfl | exact trivial | refine ⟨?_, ?_⟩
  · replace e := ifn h1 e; (conv => whnf)
    obtain rfl := sm e
    repeat' first | exact rfl | exact trivial | refine ⟨?_, ?_⟩

def M_sequentref31_Same_l1 (rest1 : (List ATermNode)) (k1 : Nat) (a1 : AStore) (r : Bool) : Prop := ∀ (a0 : AStore) (hd1 : rest1 = a0.terms.drop k1), LoopAt T Try.prog Try.f17 Fx0 [] [1, 1, 1, 0, 1, 0] (EP T Try.f17 (.bool r)) [(2, .ptr 0 0 0), (3, .ptr 0 1 0), (6, .d (.int .i64 (k1 : Int)))] [[.cells [.d (.slice 3 (ATypeNode.Ds a0.types)), .d (.slice 5 (ATermNode.Ds a0.terms))], .cells [.d (.slice 3 (ATypeNode.Ds a1.types)), .d (.slice 5 (ATermNode.Ds a1.terms))]]]
theorem G_sequentref31_Same_l1 : (∀ p r, sequentref31_Same_l1' p = some r → ∀ rest1 k1 a1, (rest1, k1, a1) = p → M_sequentref31_Same_l1 rest1 k1 a1 r) := by
  refine sequentref31_Same_l1'.partial_correctness (fun (p : ((List ATermNode) × Nat × AStore)) (r : Bool) => ∀ (rest1 : (List ATermNode)) (k1 : Nat) (a1 : AStore), (rest1, k1, a1) = p → M_sequentref31_Same_l1 rest1 k1 a1 r) ?_
  · intro f_sequentref31_Same_l1 ih_sequentref31_Same_l1 p r e rest1 k1 a1 hp
    subst hp
    intro a0 hd1
    refine RunsL.len_cell 0 1 rfl rfl rfl fun hlenk1 => ?_
    refine RunsL.of_awp (js := []) T_ok ?_; (conv => whnf)
    have hls := ATermNode.Ds_len a0.terms
    cases rest1 with
    | nil =>
      have hk := drop_nil hd1
      refine ⟨⟨fun h => absurd h (by omega), fun _ => ?_⟩⟩; (conv => whnf)
      obtain rfl := sm e
      repeat' first | exact rfl | exact trivial | refine ⟨?_, ?_⟩
    | cons v7 rest1 =>
      obtain ⟨hxv7, hd1, hltv7⟩ := drop_head hd1
      refine ⟨⟨fun _ => ?_, fun h => absurd (by omega) h⟩⟩; (conv => whnf)
      refine draw_rule [] T_ok mixed sequentref31_Same_pl11 (by decide +kernel) ?_; (conv => whnf)
      refine ⟨k1, _, rfl, ATermNode.Ds_get hxv7, ?_⟩; (conv => whnf)
      refine ⟨ATermNode.Ds_fit _ rfl rfl, ?_⟩; (conv => whnf)
      obtain ⟨v8, qv8, e⟩ := bnd e
      obtain ⟨qv8k, qv8a, qv8b⟩ := geti_some qv8
      refine ⟨qv8k, _, qv8a, ATermNode.Ds_get qv8b, ?_⟩; (conv => whnf)
      refine ⟨ATermNode.Ds_fit _ rfl rfl, ?_⟩; (conv => whnf)
      obtain ⟨v9, qv9, e⟩ := bnd e
      refine said_pure (P_sequentref31_sameTerm qv9) rfl ⟨Keeps.refl _ _, ?_⟩; (conv => whnf)
      refine brK.nsplit (fun hb10 => ?_) (fun hb10 => ?_)
      · replace e := ifpb hb10 e; (conv => whnf)
        refine brK.ntt hb10 ?_; (conv => whnf)
        refine brK.ntt hb10 ?_; (conv => whnf)
        refine brK.ntt hb10 ?_; (conv => whnf)
        refine ⟨k1, _, rfl, ATermNode.Ds_get hxv7, ?_⟩; (conv => whnf)
        refine brK.ntt hb10 ?_; (conv => whnf)
        refine brK.ntt hb10 ?_; (conv => whnf)
        refine brK.ntt hb10 ?_; (conv => whnf)
        refine brK.ntt hb10 ?_; (conv => whnf)
        refine brK.ntt hb10 ?_; (conv => whnf)
        refine brK.ntt hb10 ?_; (conv => whnf)
        obtain ⟨v11, qv11, e⟩ := bnd e
        obtain ⟨qv11k, qv11a, qv11b⟩ := geti_some qv11
        refine ⟨qv11k, _, qv11a, ATermNode.Ds_get qv11b, ?_⟩; (conv => whnf)
        refine brK.ntt hb10 ?_; (conv => whnf)
        refine brK.ntt hb10 ?_; (conv => whnf)
        refine brK.ntt hb10 ?_; (conv => whnf)
        refine ⟨⟨fun h12 => ?_, fun h12 => ?_⟩⟩
        · replace e := ifp h12 e; (conv => whnf)
          refine brK.ntt hb10 ?_; (conv => whnf)
          obtain rfl := sm e
          repeat' first | exact rfl | exact trivial | refine ⟨?_, ?_⟩
        · replace e := ifn h12 e; (conv => whnf)
          refine brK.ntt hb10 ?_; (conv => whnf)
          refine ⟨((k1 + 1 : Nat) : Int), wrap64e (by omega) (by omega) (by omega), ?_⟩; (conv => whnf)
          refine (RunsL.weak ((ih_sequentref31_Same_l1 _ _ e _ _ _ rfl) a0 hd1) ?_)
          repeat' first | exact wk.of_eq rfl | exact wk.pure rfl | exact wk.un _ | exact wk.hold _ _ _ | exact rfl | exact trivial | refine ⟨?_, ?_⟩
      · replace e := ifnb hb10 e; (conv => whnf)
        refine brK.nff hb10 ?_; (conv => whnf)
        refine brK.nff hb10 ?_; (conv => whnf)
        refine brK.nff hb10 ?_; (conv => whnf)
        refine brK.nff hb10 ?_; (conv => whnf)
        refine brK.nff hb10 ?_; (conv => whnf)
        refine brK.nff hb10 ?_; (conv => whnf)
        refine brK.nff hb10 ?_; (conv => whnf)
        refine brK.nff hb10 ?_; (conv => whnf)
        refine brK.nff hb10 ?_; (conv => whnf)
        refine brK.nff hb10 ?_; (conv => whnf)
        refine brK.nff hb10 ?_; (conv => whnf)
        refine brK.nff hb10 ?_; (conv => whnf)
        refine brK.nff hb10 ?_; (conv => whnf)
        obtain rfl := sm e
        repeat' first | exact rfl | exact trivial | refine ⟨?_, ?_⟩
theorem P_sequentref31_Same_l1 {rest1 : (List ATermNode)} {k1 : Nat} {a1 : AStore} {r : Bool} (e : sequentref31_Same_l1 rest1 k1 a1 = some r) : M_sequentref31_Same_l1 rest1 k1 a1 r := G_sequentref31_Same_l1 _ _ e _ _ _ rfl

def M_sequentref31_Same_l0 (rest0 : (List ATypeNode)) (k0 : Nat) (a0 : AStore) (a1 : AStore) (r : Bool) : Prop := ∀ (hd0 : rest0 = a0.types.drop k0), LoopAt T Try.prog Try.f17 Fx0 [] [1, 1, 0, 1, 0] (EP T Try.f17 (.bool r)) [(2, .ptr 0 0 0), (3, .ptr 0 1 0), (5, .d (.int .i64 (k0 : Int)))] [[.cells [.d (.slice 3 (ATypeNode.Ds a0.types)), .d (.slice 5 (ATermNode.Ds a0.terms))], .cells [.d (.slice 3 (ATypeNode.Ds a1.types)), .d (.slice 5 (ATermNode.Ds a1.terms))]]]
theorem G_sequentref31_Same_l0 : (∀ p r, sequentref31_Same_l0' p = some r → ∀ rest0 k0 a0 a1, (rest0, k0, a0, a1) = p → M_sequentref31_Same_l0 rest0 k0 a0 a1 r) := by
  refine sequentref31_Same_l0'.partial_correctness (fun (p : ((List ATypeNode) × Nat × AStore × AStore)) (r : Bool) => ∀ (rest0 : (List ATypeNode)) (k0 : Nat) (a0 : AStore) (a1 : AStore), (rest0, k0, a0, a1) = p → M_sequentref31_Same_l0 rest0 k0 a0 a1 r) ?_
  · intro f_sequentref31_Same_l0 ih_sequentref31_Same_l0 p r e rest0 k0 a0 a1 hp
    subst hp
    intro hd0
    refine RunsL.len_cell 0 0 rfl rfl rfl fun hlenk0 => ?_
    refine RunsL.of_awp (js := []) T_ok ?_; (conv => whnf)
    have hls := ATypeNode.Ds_len a0.types
    cases rest0 with
    | nil =>
      have hk := drop_nil hd0
      refine ⟨⟨fun h => absurd h (by omega), fun _ => ?_⟩⟩; (conv => whnf)
      refine RunsL.runs (RunsL.weak ((P_sequentref31_Same_l1 e) a0 (by simp)) ?_)
      repeat' first | exact wk.of_eq rfl | exact wk.pure rfl | exact wk.un _ | exact wk.hold _ _ _ | exact rfl | exact trivial | refine ⟨?_, ?_⟩
    | cons v6 rest0 =>
      obtain ⟨hxv6, hd0, hltv6⟩ := drop_head hd0
      refine ⟨⟨fun _ => ?_, fun h => absurd (by omega) h⟩⟩; (conv => whnf)
      refine draw_rule [] T_ok mixed sequentref31_Same_pl6 (by decide +kernel) ?_; (conv => whnf)
      refine ⟨k0, _, rfl, ATypeNode.Ds_get hxv6, ?_⟩; (conv => whnf)
      refine ⟨ATypeNode.Ds_fit _ rfl rfl, ?_⟩; (conv => whnf)
      obtain ⟨v7, qv7, e⟩ := bnd e
      obtain ⟨qv7k, qv7a, qv7b⟩ := geti_some qv7
      refine ⟨qv7k, _, qv7a, ATypeNode.Ds_get qv7b, ?_⟩; (conv => whnf)
      refine ⟨ATypeNode.Ds_fit _ rfl rfl, ?_⟩; (conv => whnf)
      obtain ⟨v8, qv8, e⟩ := bnd e
      refine said_pure (P_sequentref31_sameType qv8) rfl ⟨Keeps.refl _ _, ?_⟩; (conv => whnf)
      refine brK.nsplit (fun hb9 => ?_) (fun hb9 => ?_)
      · replace e := ifpb hb9 e; (conv => whnf)
        refine ⟨((k0 + 1 : Nat) : Int), wrap64e (by omega) (by omega) (by omega), ?_⟩; (conv => whnf)
        refine (RunsL.weak ((ih_sequentref31_Same_l0 _ _ e _ _ _ _ rfl) hd0) ?_)
        repeat' first | exact wk.of_eq rfl | exact wk.pure rfl | exact wk.un _ | exact wk.hold _ _ _ | exact rfl | exact trivial | refine ⟨?_, ?_⟩
      · replace e := ifnb hb9 e; (conv => whnf)
        obtain rfl := sm e
        repeat' first | exact rfl | exact trivial | refine ⟨?_, ?_⟩
theorem P_sequentref31_Same_l0 {rest0 : (List ATypeNode)} {k0 : Nat} {a0 : AStore} {a1 : AStore} {r : Bool} (e : sequentref31_Same_l0 rest0 k0 a0 a1 = some r) : M_sequentref31_Same_l0 rest0 k0 a0 a1 r := G_sequentref31_Same_l0 _ _ e _ _ _ _ rfl

theorem P_sequentref31_Same {a0 : AStore} {a1 : AStore} {r : Bool} (e : sequentref31_Same a0 a1 = some r) : Pure Try.prog 17 [(AStore.D a0), (AStore.D a1)] (.bool r) := by
  unfold sequentref31_Same at e
  refine pure_of_awp (js := []) T_ok Try.func17 rfl (by decide +kernel) rfl ?_; (conv => whnf)
  refine ⟨⟨fun h1 => ?_, fun h1 => ?_⟩⟩
  · replace e := ifp (by first | exact h1 | simpa [ATermNode.Ds_all, ATypeNode.Ds_all, AStore.D, ATermNode.D, ATypeNode.D, listAll] using h1) e; (conv => whnf)
    obtain rfl := sm e
    repeat' first | exact rfl | exact trivial | refine ⟨?_, ?_⟩
  · replace e := ifn (by first | exact h1 | simpa [ATermNode.Ds_all, ATypeNode.Ds_all, AStore.D, ATermNode.D, ATypeNode.D, listAll] using h1) e; (conv => whnf)
    refine ⟨⟨fun h2 => ?_, fun h2 => ?_⟩⟩
    · replace e := ifp (by first | exact h2 | simpa [ATermNode.Ds_all, ATypeNode.Ds_all, AStore.D, ATermNode.D, ATypeNode.D, listAll] using h2) e; (conv => whnf)
      obtain rfl := sm e
      repeat' first | exact rfl | exact trivial | refine ⟨?_, ?_⟩
    · replace e := ifn (by first | exact h2 | simpa [ATermNode.Ds_all, ATypeNode.Ds_all, AStore.D, ATermNode.D, ATypeNode.D, listAll] using h2) e; (conv => whnf)
      refine RunsL.runs (RunsL.weak ((P_sequentref31_Same_l0 e) (by simp)) ?_)
      repeat' first | exact wk.of_eq rfl | exact wk.pure rfl | exact wk.un _ | exact wk.hold _ _ _ | exact rfl | exact trivial | refine ⟨?_, ?_⟩

theorem P_sequentlaw31_alive {r : Bool} (e : sequentlaw31_alive = some r) : Pure Try.prog 37 [] (.bool r) := by
  unfold sequentlaw31_alive at e
  refine pure_of_awp (js := []) T_ok Try.func37 rfl (by decide +kernel) rfl ?_; (conv => whnf)
  obtain ⟨v1, qv1, e⟩ := bnd e
  refine said_pure (P_sequentlaw31_twice qv1) rfl ?_; (conv => whnf)
  obtain ⟨v2, qv2, e⟩ := bnd e
  refine said_pure (P_hash_Add qv2) rfl ?_; (conv => whnf)
  obtain ⟨v3, qv3, e⟩ := bnd e
  refine said_pure (P_hash_Size qv3) rfl ?_; (conv => whnf)
  obtain ⟨v4, qv4, e⟩ := bnd e
  refine said_pure (P_hash_Shared qv4) rfl ?_; (conv => whnf)
  obtain ⟨v5, qv5, e⟩ := bnd e
  refine said_pure (P_hash_Get qv5) rfl ?_; (conv => whnf)
  refine ⟨⟨⟨rfl, rfl⟩, ⟨⟨rfl, rfl⟩, trivial⟩⟩, ?_⟩; (conv => whnf)
  refine ⟨⟨⟨rfl, rfl⟩, ⟨⟨rfl, rfl⟩, trivial⟩⟩, ?_⟩; (conv => whnf)
  refine ⟨⟨⟨rfl, rfl⟩, ⟨⟨rfl, rfl⟩, trivial⟩⟩, ?_⟩; (conv => whnf)
  refine ⟨⟨⟨rfl, rfl⟩, ⟨⟨rfl, rfl⟩, trivial⟩⟩, ?_⟩; (conv => whnf)
  refine ⟨⟨⟨rfl, rfl⟩, ⟨⟨rfl, rfl⟩, ⟨⟨rfl, rfl⟩, ⟨⟨rfl, rfl⟩, trivial⟩⟩⟩⟩, ?_⟩; (conv => whnf)
  refine draw_rule [] T_ok mixed sequentlaw31_alive_pl6 (by decide +kernel) ?_; (conv => whnf)
  refine ⟨⟨fun h6 => ?_, fun h6 => ?_⟩⟩
  · replace e := ifp h6 e; (conv => whnf)
    refine ⟨⟨fun h7 => ?_, fun h7 => ?_⟩⟩
    · replace e := ifp h7 e; (conv => whnf)
      refine ⟨⟨fun h8 => ?_, fun h8 => ?_⟩⟩
      · replace e := ifp h8 e; (conv => whnf)
        refine ⟨⟨fun h9 => ?_, fun h9 => ?_⟩⟩
        · replace e := ifp h9 e; (conv => whnf)
          refine ⟨⟨fun h10 => ?_, fun h10 => ?_⟩⟩
          · replace e := ifp h10 e; (conv => whnf)
            refine ⟨⟨fun h11 => ?_, fun h11 => ?_⟩⟩
            · replace e := ifp h11 e; (conv => whnf)
              refine ⟨⟨fun h12 => ?_, fun h12 => ?_⟩⟩
              · replace e := ifp h12 e; (conv => whnf)
                obtain ⟨v13, qv13, e⟩ := bnd e
                refine said_pure (P_sequentlaw31_twice qv13) rfl ⟨Keeps.refl _ _, ?_⟩; (conv => whnf)
                obtain ⟨v14, qv14, e⟩ := bnd e
                refine said_pure (P_terms_Same qv14) rfl ⟨Keeps.refl _ _, ?_⟩; (conv => whnf)
                refine brK.split (fun hb15 => ?_) (fun hb15 => ?_)
                · replace e := ifpb hb15 e; (conv => whnf)
                  refine brK.tt hb15 ?_; (conv => whnf)
                  refine brK.tt hb15 ?_; (conv => whnf)
                  obtain ⟨v16, qv16, e⟩ := bnd e
                  first | (refine said_pure (P_sequentref31_Same qv16) rfl ⟨Keeps.refl _ _, ?_⟩) | (refine said_pure2 (P_sequentref31_Same qv16) rfl (by simp [ATermNode.Ds_all, ATypeNode.Ds_all, Tm.Ds_all, Ty.Ds_all, intDs_i64_all, AStore.D, ATermNode.D, ATypeNode.D, Tm.D, Ty.D, listAll] <;> (repeat' first | rfl | apply And.intro)) ⟨Keeps.refl _ _, ?_⟩)
                  (conv => whnf)
                  refine brK.tt hb15 ?_; (conv => whnf)
                  obtain rfl := sm e
                  repeat' first | exact rfl | exact trivial | refine ⟨?_, ?_⟩
                · replace e := ifnb hb15 e; (conv => whnf)
                  refine brK.ff hb15 ?_; (conv => whnf)
                  refine brK.ff hb15 ?_; (conv => whnf)
                  refine brK.ff hb15 ?_; (conv => whnf)
                  obtain rfl := sm e
                  repeat' first | exact rfl | exact trivial | refine ⟨?_, ?_⟩
              · replace e := ifn h12 e; (conv => whnf)
                obtain rfl := sm e
                repeat' first | exact rfl | exact trivial | refine ⟨?_, ?_⟩
            · replace e := ifn h11 e; (conv => whnf)
              obtain rfl := sm e
              repeat' first | exact rfl | exact trivial | refine ⟨?_, ?_⟩
          · replace e := ifn h10 e; (conv => whnf)
            obtain rfl := sm e
            repeat' first | exact rfl | exact trivial | refine ⟨?_, ?_⟩
        · replace e := ifn h9 e; (conv => whnf)
          obtain rfl := sm e
          repeat' first | exact rfl | exact trivial | refine ⟨?_, ?_⟩
      · replace e := ifn h8 e; (conv => whnf)
        obtain rfl := sm e
        repeat' first | exact rfl | exact trivial | refine ⟨?_, ?_⟩
    · replace e := ifn h7 e; (conv => whnf)
      obtain rfl := sm e
      repeat' first | exact rfl | exact trivial | refine ⟨?_, ?_⟩
  · replace e := ifn h6 e; (conv => whnf)
    obtain rfl := sm e
    repeat' first | exact rfl | exact trivial | refine ⟨?_, ?_⟩

def M_sequentref31_Great_l1 (rest1 : (List ATermNode)) (t4_1 : Int) (r : Bool) : Prop := ∀ (a0 : AStore) (k1 : Nat) (hd1 : rest1 = a0.terms.drop k1), LoopAt T Try.prog Try.f11 Fx0 [2, 4] [1, 1, 1, 1, 1, 0, 1, 0] (EP T Try.f11 (.bool r)) [(1, .ptr 0 0 0), (4, .d (.int .i64 t4_1)), (6, .d (.int .i64 (k1 : Int)))] [[.cells [.d (.slice 3 (ATypeNode.Ds a0.types)), .d (.slice 5 (ATermNode.Ds a0.terms))]]]
theorem G_sequentref31_Great_l1 : (∀ p r, sequentref31_Great_l1' p = some r → ∀ rest1 t4_1, (rest1, t4_1) = p → M_sequentref31_Great_l1 rest1 t4_1 r) := by
  refine sequentref31_Great_l1'.partial_correctness (fun (p : ((List ATermNode) × Int)) (r : Bool) => ∀ (rest1 : (List ATermNode)) (t4_1 : Int), (rest1, t4_1) = p → M_sequentref31_Great_l1 rest1 t4_1 r) ?_
  · intro f_sequentref31_Great_l1 ih_sequentref31_Great_l1 p r e rest1 t4_1 hp
    subst hp
    intro a0 k1 hd1
    refine RunsL.len_cell 0 1 rfl rfl rfl fun hlenk1 => ?_
    refine RunsL.of_awp (js := [2, 4]) T_ok ?_; (conv => whnf)
    have hls := ATermNode.Ds_len a0.terms
    cases rest1 with
    | nil =>
      have hk := drop_nil hd1
      refine ⟨⟨fun h => absurd h (by omega), fun _ => ?_⟩⟩; (conv => whnf)
      obtain rfl := sm e
      repeat' first | exact rfl | exact trivial | refine ⟨?_, ?_⟩
    | cons v7 rest1 =>
      obtain ⟨hxv7, hd1, hltv7⟩ := drop_head hd1
      refine ⟨⟨fun _ => ?_, fun h => absurd (by omega) h⟩⟩; (conv => whnf)
      refine ⟨k1, _, rfl, ATermNode.Ds_get hxv7, ?_⟩; (conv => whnf)
      obtain ⟨v8, qv8, e⟩ := bnd e
      refine ⟨v8, sm qv8, ?_⟩; (conv => whnf)
      refine ⟨k1, _, rfl, ATermNode.Ds_get hxv7, ?_⟩; (conv => whnf)
      refine ⟨⟨fun h9 => ?_, fun h9 => ?_⟩⟩
      · replace e := ifp (by first | exact h9 | simpa [ATermNode.Ds_all, ATypeNode.Ds_all, intDs_i64_all, AStore.D, ATermNode.D, ATypeNode.D, listAll] using h9) e; (conv => whnf)
        obtain rfl := sm e
        repeat' first | exact rfl | exact trivial | refine ⟨?_, ?_⟩
      · replace e := ifn (by first | exact h9 | simpa [ATermNode.Ds_all, ATypeNode.Ds_all, intDs_i64_all, AStore.D, ATermNode.D, ATypeNode.D, listAll] using h9) e; (conv => whnf)
        refine ⟨⟨fun h10 => ?_, fun h10 => ?_⟩⟩
        · replace e := ifp h10 e; (conv => whnf)
          obtain rfl := sm e
          repeat' first | exact rfl | exact trivial | refine ⟨?_, ?_⟩
        · replace e := ifn h10 e; (conv => whnf)
          refine ⟨((k1 + 1 : Nat) : Int), wrap64e (by omega) (by omega) (by omega), ?_⟩; (conv => whnf)
          refine (RunsL.weak ((ih_sequentref31_Great_l1 _ _ e _ _ rfl) a0 (k1 + 1) hd1) ?_)
          repeat' first | exact wk.of_eq rfl | exact wk.pure rfl | exact wk.un _ | exact wk.hold _ _ _ | exact rfl | exact trivial | refine ⟨?_, ?_⟩
theorem P_sequentref31_Great_l1 {rest1 : (List ATermNode)} {t4_1 : Int} {r : Bool} (e : sequentref31_Great_l1 rest1 t4_1 = some r) : M_sequentref31_Great_l1 rest1 t4_1 r := G_sequentref31_Great_l1 _ _ e _ _ rfl

def M_sequentref31_Great_l0 (rest0 : (List ATypeNode)) (t4_0 : Int) (a0 : AStore) (r : Bool) : Prop := ∀ (k0 : Nat) (hd0 : rest0 = a0.types.drop k0), LoopAt T Try.prog Try.f11 Fx0 [2, 4] [1, 1, 1, 1, 0, 1, 0] (EP T Try.f11 (.bool r)) [(1, .ptr 0 0 0), (4, .d (.int .i64 t4_0)), (5, .d (.int .i64 (k0 : Int)))] [[.cells [.d (.slice 3 (ATypeNode.Ds a0.types)), .d (.slice 5 (ATermNode.Ds a0.terms))]]]
theorem G_sequentref31_Great_l0 : (∀ p r, sequentref31_Great_l0' p = some r → ∀ rest0 t4_0 a0, (rest0, t4_0, a0) = p → M_sequentref31_Great_l0 rest0 t4_0 a0 r) := by
  refine sequentref31_Great_l0'.partial_correctness (fun (p : ((List ATypeNode) × Int × AStore)) (r : Bool) => ∀ (rest0 : (List ATypeNode)) (t4_0 : Int) (a0 : AStore), (rest0, t4_0, a0) = p → M_sequentref31_Great_l0 rest0 t4_0 a0 r) ?_
  · intro f_sequentref31_Great_l0 ih_sequentref31_Great_l0 p r e rest0 t4_0 a0 hp
    subst hp
    intro k0 hd0
    refine RunsL.len_cell 0 0 rfl rfl rfl fun hlenk0 => ?_
    refine RunsL.of_awp (js := [2, 4]) T_ok ?_; (conv => whnf)
    have hls := ATypeNode.Ds_len a0.types
    cases rest0 with
    | nil =>
      have hk := drop_nil hd0
      refine ⟨⟨fun h => absurd h (by omega), fun _ => ?_⟩⟩; (conv => whnf)
      refine RunsL.runs (RunsL.weak ((P_sequentref31_Great_l1 e) a0 0 (by simp)) ?_)
      repeat' first | exact wk.of_eq rfl | exact wk.pure rfl | exact wk.un _ | exact wk.hold _ _ _ | exact rfl | exact trivial | refine ⟨?_, ?_⟩
    | cons v6 rest0 =>
      obtain ⟨hxv6, hd0, hltv6⟩ := drop_head hd0
      refine ⟨⟨fun _ => ?_, fun h => absurd (by omega) h⟩⟩; (conv => whnf)
      refine ⟨k0, _, rfl, ATypeNode.Ds_get hxv6, ?_⟩; (conv => whnf)
      obtain ⟨v7, qv7, e⟩ := bnd e
      refine ⟨v7, sm qv7, ?_⟩; (conv => whnf)
      refine ⟨k0, _, rfl, ATypeNode.Ds_get hxv6, ?_⟩; (conv => whnf)
      refine ⟨⟨fun h8 => ?_, fun h8 => ?_⟩⟩
      · replace e := ifp (by first | exact h8 | simpa [ATermNode.Ds_all, ATypeNode.Ds_all, intDs_i64_all, AStore.D, ATermNode.D, ATypeNode.D, listAll] using h8) e; (conv => whnf)
        obtain rfl := sm e
        repeat' first | exact rfl | exact trivial | refine ⟨?_, ?_⟩
      · replace e := ifn (by first | exact h8 | simpa [ATermNode.Ds_all, ATypeNode.Ds_all, intDs_i64_all, AStore.D, ATermNode.D, ATypeNode.D, listAll] using h8) e; (conv => whnf)
        refine ⟨⟨fun h9 => ?_, fun h9 => ?_⟩⟩
        · replace e := ifp h9 e; (conv => whnf)
          obtain rfl := sm e
          repeat' first | exact rfl | exact trivial | refine ⟨?_, ?_⟩
        · replace e := ifn h9 e; (conv => whnf)
          refine ⟨((k0 + 1 : Nat) : Int), wrap64e (by omega) (by omega) (by omega), ?_⟩; (conv => whnf)
          refine (RunsL.weak ((ih_sequentref31_Great_l0 _ _ e _ _ _ rfl) (k0 + 1) hd0) ?_)
          repeat' first | exact wk.of_eq rfl | exact wk.pure rfl | exact wk.un _ | exact wk.hold _ _ _ | exact rfl | exact trivial | refine ⟨?_, ?_⟩
theorem P_sequentref31_Great_l0 {rest0 : (List ATypeNode)} {t4_0 : Int} {a0 : AStore} {r : Bool} (e : sequentref31_Great_l0 rest0 t4_0 a0 = some r) : M_sequentref31_Great_l0 rest0 t4_0 a0 r := G_sequentref31_Great_l0 _ _ e _ _ _ rfl

theorem P_sequentref31_Great_j1 {a0 : AStore} {r : Bool} (e : sequentref31_Great_j1 a0 = some r) : JoinAt T Try.prog Try.f11 Fx0 [2, 4] [1, 1, 1, 0] (EP T Try.f11 (.bool r)) [(1, .ptr 0 0 0)] [[.cells [.d (.slice 3 (ATypeNode.Ds a0.types)), .d (.slice 5 (ATermNode.Ds a0.terms))]]] := by
  unfold sequentref31_Great_j1 at e
  refine Runs.enter T_ok ?_; (conv => whnf)
  refine RunsL.runs (RunsL.weak ((P_sequentref31_Great_l0 e) 0 (by simp)) ?_)
  repeat' first | exact wk.of_eq rfl | exact wk.pure rfl | exact wk.un _ | exact wk.hold _ _ _ | exact rfl | exact trivial | refine ⟨?_, ?_⟩

theorem P_sequentref31_Great_j0 {t3_2 : Bool} {a0 : AStore} {r : Bool} (e : sequentref31_Great_j0 t3_2 a0 = some r) : JoinAt T Try.prog Try.f11 Fx0 [2, 4] [1, 1, 0, 0] (EP T Try.f11 (.bool r)) [(1, .ptr 0 0 0), (3, .d (.bool t3_2))] [[.cells [.d (.slice 3 (ATypeNode.Ds a0.types)), .d (.slice 5 (ATermNode.Ds a0.terms))]]] := by
  unfold sequentref31_Great_j0 at e
  refine Runs.enter T_ok ?_; (conv => whnf)
  refine ⟨⟨fun h4 => ?_, fun h4 => ?_⟩⟩
  · replace e := ifp (by first | exact h4 | simpa [ATermNode.Ds_all, ATypeNode.Ds_all, intDs_i64_all, AStore.D, ATermNode.D, ATypeNode.D, listAll] using h4) e; (conv => whnf)
    obtain rfl := sm e
    repeat' first | exact rfl | exact trivial | refine ⟨?_, ?_⟩
  · replace e := ifn (by first | exact h4 | simpa [ATermNode.Ds_all, ATypeNode.Ds_all, intDs_i64_all, AStore.D, ATermNode.D, ATypeNode.D, listAll] using h4) e; (conv => whnf)
    refine ⟨⟨fun h5 => ?_, fun h5 => ?_⟩⟩
    · replace e := ifp (by first | exact h5 | simpa [ATermNode.Ds_all, ATypeNode.Ds_all, intDs_i64_all, AStore.D, ATermNode.D, ATypeNode.D, listAll] using h5) e; (conv => whnf)
      obtain rfl := sm e
      repeat' first | exact rfl | exact trivial | refine ⟨?_, ?_⟩
    · replace e := ifn (by first | exact h5 | simpa [ATermNode.Ds_all, ATypeNode.Ds_all, intDs_i64_all, AStore.D, ATermNode.D, ATypeNode.D, listAll] using h5) e; (conv => whnf)
      refine brK.nsplit (fun hb6 => ?_) (fun hb6 => ?_)
      · replace e := ifpb hb6 e; (conv => whnf)
        refine brK.ntt hb6 ?_; (conv => whnf)
        refine brK.ntt hb6 ?_; (conv => whnf)
        refine brK.ntt hb6 ?_; (conv => whnf)
        refine brK.ntt hb6 ?_; (conv => whnf)
        refine brK.ntt hb6 ?_; (conv => whnf)
        refine brK.ntt hb6 ?_; (conv => whnf)
        refine Runs.weak (P_sequentref31_Great_j1 e) ?_
        repeat' first | exact wk.of_eq rfl | exact wk.pure rfl | exact wk.un _ | exact wk.hold _ _ _ | exact rfl | exact trivial | refine ⟨?_, ?_⟩
      · replace e := ifnb hb6 e; (conv => whnf)
        refine brK.nff hb6 ?_; (conv => whnf)
        refine brK.nff hb6 ?_; (conv => whnf)
        refine brK.nff hb6 ?_; (conv => whnf)
        refine ⟨⟨fun h7 => ?_, fun h7 => ?_⟩⟩
        · replace e := ifp (by first | exact h7 | simpa [ATermNode.Ds_all, ATypeNode.Ds_all, intDs_i64_all, AStore.D, ATermNode.D, ATypeNode.D, listAll] using h7) e; (conv => whnf)
          refine brK.nff hb6 ?_; (conv => whnf)
          refine brK.nff hb6 ?_; (conv => whnf)
          refine brK.nff hb6 ?_; (conv => whnf)
          obtain rfl := sm e
          repeat' first | exact rfl | exact trivial | refine ⟨?_, ?_⟩
        · replace e := ifn (by first | exact h7 | simpa [ATermNode.Ds_all, ATypeNode.Ds_all, intDs_i64_all, AStore.D, ATermNode.D, ATypeNode.D, listAll] using h7) e; (conv => whnf)
          refine brK.nff hb6 ?_; (conv => whnf)
          refine ⟨⟨fun h8 => ?_, fun h8 => ?_⟩⟩
          · replace e := ifp (by first | exact h8 | simpa [ATermNode.Ds_all, ATypeNode.Ds_all, intDs_i64_all, AStore.D, ATermNode.D, ATypeNode.D, listAll] using h8) e; (conv => whnf)
            refine brK.nff hb6 ?_; (conv => whnf)
            refine brK.nff hb6 ?_; (conv => whnf)
            obtain rfl := sm e
            repeat' first | exact rfl | exact trivial | refine ⟨?_, ?_⟩
          · replace e := ifn (by first | exact h8 | simpa [ATermNode.Ds_all, ATypeNode.Ds_all, intDs_i64_all, AStore.D, ATermNode.D, ATypeNode.D, listAll] using h8) e; (conv => whnf)
            refine brK.nff hb6 ?_; (conv => whnf)
            refine brK.nff hb6 ?_; (conv => whnf)
            refine Runs.weak (P_sequentref31_Great_j1 e) ?_
            repeat' first | exact wk.of_eq rfl | exact wk.pure rfl | exact wk.un _ | exact wk.hold _ _ _ | exact rfl | exact trivial | refine ⟨?_, ?_⟩

theorem P_sequentref31_Great {a0 : AStore} {r : Bool} (e : sequentref31_Great a0 = some r) : Pure Try.prog 11 [(AStore.D a0)] (.bool r) := by
  unfold sequentref31_Great at e
  refine pure_of_awp (js := [2, 4]) T_ok Try.func11 rfl (by decide +kernel) rfl ?_; (conv => whnf)
  refine ⟨⟨fun h1 => ?_, fun h1 => ?_⟩⟩
  · replace e := ifp (by first | exact h1 | simpa [ATermNode.Ds_all, ATypeNode.Ds_all, intDs_i64_all, AStore.D, ATermNode.D, ATypeNode.D, listAll] using h1) e; (conv => whnf)
    refine Runs.weak (P_sequentref31_Great_j0 e) ?_
    repeat' first | exact wk.of_eq rfl | exact wk.pure rfl | exact wk.un _ | exact wk.hold _ _ _ | exact rfl | exact trivial | refine ⟨?_, ?_⟩
  · replace e := ifn (by first | exact h1 | simpa [ATermNode.Ds_all, ATypeNode.Ds_all, intDs_i64_all, AStore.D, ATermNode.D, ATypeNode.D, listAll] using h1) e; (conv => whnf)
    refine ⟨⟨fun h2 => ?_, fun h2 => ?_⟩⟩
    · replace e := ifp (by first | exact h2 | simpa [ATermNode.Ds_all, ATypeNode.Ds_all, intDs_i64_all, AStore.D, ATermNode.D, ATypeNode.D, listAll] using h2) e; (conv => whnf)
      refine Runs.weak (P_sequentref31_Great_j0 e) ?_
      repeat' first | exact wk.of_eq rfl | exact wk.pure rfl | exact wk.un _ | exact wk.hold _ _ _ | exact rfl | exact trivial | refine ⟨?_, ?_⟩
    · replace e := ifn (by first | exact h2 | simpa [ATermNode.Ds_all, ATypeNode.Ds_all, intDs_i64_all, AStore.D, ATermNode.D, ATypeNode.D, listAll] using h2) e; (conv => whnf)
      refine Runs.weak (P_sequentref31_Great_j0 e) ?_
      repeat' first | exact wk.of_eq rfl | exact wk.pure rfl | exact wk.un _ | exact wk.hold _ _ _ | exact rfl | exact trivial | refine ⟨?_, ?_⟩

def M_sequentref01_count (a0 : Ty) (a1 : Int) (a2 : Int) (r : Int) : Prop := Pure Try.prog 42 [(Ty.D a0), (.int .i64 a1), (.int .i64 a2)] (.int .i64 r)
def M_sequentref01_count_l0 (rest0 : (List Ty)) (t1_0 : Int) (a2 : Int) (r : Int) : Prop := ∀ (a0 : Ty) (k0 : Nat) (hd0 : rest0 = a0.args.drop k0), LoopAt T Try.prog Try.f42 Fx0 [] [1, 1, 1, 0, 1, 0] (EP T Try.f42 (.int .i64 r)) [(1, .d (.int .i64 t1_0)), (2, .d (.int .i64 a2)), (3, .ptr 0 0 0), (7, .d (.int .i64 (k0 : Int)))] [[.cells [.d (.bool a0.v), .d (.str a0.name), .d (.slice 3 (Ty.Ds a0.args))]]]
theorem G_sequentref01_count : (∀ p r, sequentref01_count' p = some r → ∀ a0 a1 a2, (a0, a1, a2) = p → M_sequentref01_count a0 a1 a2 r) ∧
    (∀ p r, sequentref01_count_l0' p = some r → ∀ rest0 t1_0 a2, (rest0, t1_0, a2) = p → M_sequentref01_count_l0 rest0 t1_0 a2 r) := by
  refine sequentref01_count'.mutual_partial_correctness (fun (p : (Ty × Int × Int)) (r : Int) => ∀ (a0 : Ty) (a1 : Int) (a2 : Int), (a0, a1, a2) = p → M_sequentref01_count a0 a1 a2 r) (fun (p : ((List Ty) × Int × Int)) (r : Int) => ∀ (rest0 : (List Ty)) (t1_0 : Int) (a2 : Int), (rest0, t1_0, a2) = p → M_sequentref01_count_l0 rest0 t1_0 a2 r) ?_ ?_
  · intro f_sequentref01_count_l0 ih_sequentref01_count_l0 p r e a0 a1 a2 hp
    subst hp
    refine pure_of_awp (js := []) T_ok Try.func42 rfl (by decide +kernel) rfl ?_; (conv => whnf)
    refine ⟨⟨fun h1 => ?_, fun h1 => ?_⟩⟩
    · replace e := ifp h1 e; (conv => whnf)
      obtain rfl := sm e
      repeat' first | exact rfl | exact trivial | refine ⟨?_, ?_⟩
    · replace e := ifn h1 e; (conv => whnf)
      obtain ⟨v2, qv2, e⟩ := bnd e
      refine ⟨v2, sm qv2, ?_⟩; (conv => whnf)
      obtain ⟨v3, qv3, e⟩ := bnd e
      refine ⟨by decide, v3, sm qv3, ?_⟩; (conv => whnf)
      obtain ⟨v4, qv4, e⟩ := bnd e
      refine ⟨v4, sm qv4, ?_⟩; (conv => whnf)
      refine RunsL.runs (RunsL.weak ((ih_sequentref01_count_l0 _ _ e _ _ _ rfl) a0 0 (by simp)) ?_)
      repeat' first | exact wk.of_eq rfl | exact wk.pure rfl | exact wk.un _ | exact wk.hold _ _ _ | exact rfl | exact trivial | refine ⟨?_, ?_⟩
  · intro f_sequentref01_count f_sequentref01_count_l0 ih_sequentref01_count ih_sequentref01_count_l0 p r e rest0 t1_0 a2 hp
    subst hp
    intro a0 k0 hd0
    refine RunsL.len_cell 0 2 rfl rfl rfl fun hlenk0 => ?_
    refine RunsL.of_awp (js := []) T_ok ?_; (conv => whnf)
    have hls := Ty.Ds_len a0.args
    cases rest0 with
    | nil =>
      have hk := drop_nil hd0
      refine ⟨⟨fun h => absurd h (by omega), fun _ => ?_⟩⟩; (conv => whnf)
      obtain rfl := sm e
      repeat' first | exact rfl | exact trivial | refine ⟨?_, ?_⟩
    | cons v8 rest0 =>
      obtain ⟨hxv8, hd0, hltv8⟩ := drop_head hd0
      refine ⟨⟨fun _ => ?_, fun h => absurd (by omega) h⟩⟩; (conv => whnf)
      refine ⟨⟨fun h9 => ?_, fun h9 => ?_⟩⟩
      · replace e := ifp h9 e; (conv => whnf)
        refine ⟨k0, _, rfl, Ty.Ds_get hxv8, ?_⟩; (conv => whnf)
        refine ⟨Ty.Ds_fit _ rfl rfl, ?_⟩; (conv => whnf)
        obtain ⟨v10, qv10, e⟩ := bnd e
        refine ⟨v10, sm qv10, ?_⟩; (conv => whnf)
        obtain ⟨v11, qv11, e⟩ := bnd e
        refine said_pure (ih_sequentref01_count _ _ qv11 _ _ _ rfl) rfl ?_; (conv => whnf)
        refine ⟨((k0 + 1 : Nat) : Int), wrap64e (by omega) (by omega) (by omega), ?_⟩; (conv => whnf)
        refine (RunsL.weak ((ih_sequentref01_count_l0 _ _ e _ _ _ rfl) a0 (k0 + 1) hd0) ?_)
        repeat' first | exact wk.of_eq rfl | exact wk.pure rfl | exact wk.un _ | exact wk.hold _ _ _ | exact rfl | exact trivial | refine ⟨?_, ?_⟩
      · replace e := ifn h9 e; (conv => whnf)
        obtain rfl := sm e
        repeat' first | exact rfl | exact trivial | refine ⟨?_, ?_⟩
theorem P_sequentref01_count {a0 : Ty} {a1 : Int} {a2 : Int} {r : Int} (e : sequentref01_count a0 a1 a2 = some r) : M_sequentref01_count a0 a1 a2 r := G_sequentref01_count.1 _ _ e _ _ _ rfl
theorem P_sequentref01_count_l0 {rest0 : (List Ty)} {t1_0 : Int} {a2 : Int} {r : Int} (e : sequentref01_count_l0 rest0 t1_0 a2 = some r) : M_sequentref01_count_l0 rest0 t1_0 a2 r := G_sequentref01_count.2 _ _ e _ _ _ rfl

theorem P_sequentref01_Great {a0 : Ty} {r : Bool} (e : sequentref01_Great a0 = some r) : Pure Try.prog 12 [(Ty.D a0)] (.bool r) := by
  unfold sequentref01_Great at e
  refine pure_of_awp (js := []) T_ok Try.func12 rfl (by decide +kernel) rfl ?_; (conv => whnf)
  obtain ⟨v1, qv1, e⟩ := bnd e
  refine said_pure (P_sequentref01_count qv1) rfl ?_; (conv => whnf)
  refine test.dec ?_; (conv => whnf)
  obtain rfl := sm e
  repeat' first | exact rfl | exact trivial | refine ⟨?_, ?_⟩

def M_sequentref02_count (a0 : Tm) (a1 : Int) (a2 : Int) (r : Int) : Prop := Pure Try.prog 80 [(Tm.D a0), (.int .i64 a1), (.int .i64 a2)] (.int .i64 r)
def M_sequentref02_count_l0 (rest0 : (List Tm)) (t1_0 : Int) (a2 : Int) (r : Int) : Prop := ∀ (a0 : Tm) (k0 : Nat) (hd0 : rest0 = a0.sub.drop k0), LoopAt T Try.prog Try.f80 Fx0 [] [1, 1, 1, 0, 1, 0] (EP T Try.f80 (.int .i64 r)) [(1, .d (.int .i64 t1_0)), (2, .d (.int .i64 a2)), (3, .ptr 0 0 0), (7, .d (.int .i64 (k0 : Int)))] [[.cells [.d (.int .u8 a0.kind), .d (.str a0.name), .d (.bool a0.ty.v), .d (.str a0.ty.name), .d (.slice 3 (Ty.Ds a0.ty.args)), .d (.int .i64 a0.index), .d (.slice 7 (Tm.Ds a0.sub))]]]
theorem G_sequentref02_count : (∀ p r, sequentref02_count' p = some r → ∀ a0 a1 a2, (a0, a1, a2) = p → M_sequentref02_count a0 a1 a2 r) ∧
    (∀ p r, sequentref02_count_l0' p = some r → ∀ rest0 t1_0 a2, (rest0, t1_0, a2) = p → M_sequentref02_count_l0 rest0 t1_0 a2 r) := by
  refine sequentref02_count'.mutual_partial_correctness (fun (p : (Tm × Int × Int)) (r : Int) => ∀ (a0 : Tm) (a1 : Int) (a2 : Int), (a0, a1, a2) = p → M_sequentref02_count a0 a1 a2 r) (fun (p : ((List Tm) × Int × Int)) (r : Int) => ∀ (rest0 : (List Tm)) (t1_0 : Int) (a2 : Int), (rest0, t1_0, a2) = p → M_sequentref02_count_l0 rest0 t1_0 a2 r) ?_ ?_
  · intro f_sequentref02_count_l0 ih_sequentref02_count_l0 p r e a0 a1 a2 hp
    subst hp
    refine pure_of_awp (js := []) T_ok Try.func80 rfl (by decide +kernel) rfl ?_; (conv => whnf)
    refine ⟨⟨fun h1 => ?_, fun h1 => ?_⟩⟩
    · replace e := ifp h1 e; (conv => whnf)
      obtain rfl := sm e
      repeat' first | exact rfl | exact trivial | refine ⟨?_, ?_⟩
    · replace e := ifn h1 e; (conv => whnf)
      obtain ⟨v2, qv2, e⟩ := bnd e
      refine said_pure (P_sequentref01_Great qv2) rfl ?_; (conv => whnf)
      refine brK.split (fun hb3 => ?_) (fun hb3 => ?_)
      · replace e := ifpb hb3 e; (conv => whnf)
        obtain rfl := sm e
        repeat' first | exact rfl | exact trivial | refine ⟨?_, ?_⟩
      · replace e := ifnb hb3 e; (conv => whnf)
        obtain ⟨v4, qv4, e⟩ := bnd e
        refine ⟨v4, sm qv4, ?_⟩; (conv => whnf)
        obtain ⟨v5, qv5, e⟩ := bnd e
        refine ⟨by decide, v5, sm qv5, ?_⟩; (conv => whnf)
        obtain ⟨v6, qv6, e⟩ := bnd e
        refine ⟨v6, sm qv6, ?_⟩; (conv => whnf)
        refine RunsL.runs (RunsL.weak ((ih_sequentref02_count_l0 _ _ e _ _ _ rfl) a0 0 (by simp)) ?_)
        repeat' first | exact wk.of_eq rfl | exact wk.pure rfl | exact wk.un _ | exact wk.hold _ _ _ | exact rfl | exact trivial | refine ⟨?_, ?_⟩
  · intro f_sequentref02_count f_sequentref02_count_l0 ih_sequentref02_count ih_sequentref02_count_l0 p r e rest0 t1_0 a2 hp
    subst hp
    intro a0 k0 hd0
    refine RunsL.len_cell 0 6 rfl rfl rfl fun hlenk0 => ?_
    refine RunsL.of_awp (js := []) T_ok ?_; (conv => whnf)
    have hls := Tm.Ds_len a0.sub
    cases rest0 with
    | nil =>
      have hk := drop_nil hd0
      refine ⟨⟨fun h => absurd h (by omega), fun _ => ?_⟩⟩; (conv => whnf)
      obtain rfl := sm e
      repeat' first | exact rfl | exact trivial | refine ⟨?_, ?_⟩
    | cons v8 rest0 =>
      obtain ⟨hxv8, hd0, hltv8⟩ := drop_head hd0
      refine ⟨⟨fun _ => ?_, fun h => absurd (by omega) h⟩⟩; (conv => whnf)
      refine ⟨⟨fun h9 => ?_, fun h9 => ?_⟩⟩
      · replace e := ifp h9 e; (conv => whnf)
        refine ⟨k0, _, rfl, Tm.Ds_get hxv8, ?_⟩; (conv => whnf)
        refine ⟨Tm.Ds_fit _ rfl rfl, ?_⟩; (conv => whnf)
        obtain ⟨v10, qv10, e⟩ := bnd e
        refine ⟨v10, sm qv10, ?_⟩; (conv => whnf)
        obtain ⟨v11, qv11, e⟩ := bnd e
        refine said_pure (ih_sequentref02_count _ _ qv11 _ _ _ rfl) rfl ?_; (conv => whnf)
        refine ⟨((k0 + 1 : Nat) : Int), wrap64e (by omega) (by omega) (by omega), ?_⟩; (conv => whnf)
        refine (RunsL.weak ((ih_sequentref02_count_l0 _ _ e _ _ _ rfl) a0 (k0 + 1) hd0) ?_)
        repeat' first | exact wk.of_eq rfl | exact wk.pure rfl | exact wk.un _ | exact wk.hold _ _ _ | exact rfl | exact trivial | refine ⟨?_, ?_⟩
      · replace e := ifn h9 e; (conv => whnf)
        obtain rfl := sm e
        repeat' first | exact rfl | exact trivial | refine ⟨?_, ?_⟩
theorem P_sequentref02_count {a0 : Tm} {a1 : Int} {a2 : Int} {r : Int} (e : sequentref02_count a0 a1 a2 = some r) : M_sequentref02_count a0 a1 a2 r := G_sequentref02_count.1 _ _ e _ _ _ rfl
theorem P_sequentref02_count_l0 {rest0 : (List Tm)} {t1_0 : Int} {a2 : Int} {r : Int} (e : sequentref02_count_l0 rest0 t1_0 a2 = some r) : M_sequentref02_count_l0 rest0 t1_0 a2 r := G_sequentref02_count.2 _ _ e _ _ _ rfl

def M_sequentref02_Size (a0 : Tm) (r : Int) : Prop := Pure Try.prog 38 [(Tm.D a0)] (.int .i64 r)
def M_sequentref02_Size_l0 (rest0 : (List Tm)) (t3_0 : Int) (r : Int) : Prop := ∀ (a0 : Tm) (k0 : Nat) (hd0 : rest0 = a0.sub.drop k0), LoopAt T Try.prog Try.f38 Fx0 [] [1, 1, 0, 1, 0] (EP T Try.f38 (.int .i64 r)) [(1, .ptr 0 0 0), (3, .d (.int .i64 t3_0)), (4, .d (.int .i64 (k0 : Int)))] [[.cells [.d (.int .u8 a0.kind), .d (.str a0.name), .d (.bool a0.ty.v), .d (.str a0.ty.name), .d (.slice 3 (Ty.Ds a0.ty.args)), .d (.int .i64 a0.index), .d (.slice 7 (Tm.Ds a0.sub))]]]
theorem G_sequentref02_Size : (∀ p r, sequentref02_Size' p = some r → ∀ a0, a0 = p → M_sequentref02_Size a0 r) ∧
    (∀ p r, sequentref02_Size_l0' p = some r → ∀ rest0 t3_0, (rest0, t3_0) = p → M_sequentref02_Size_l0 rest0 t3_0 r) := by
  refine sequentref02_Size'.mutual_partial_correctness (fun (p : Tm) (r : Int) => ∀ (a0 : Tm), a0 = p → M_sequentref02_Size a0 r) (fun (p : ((List Tm) × Int)) (r : Int) => ∀ (rest0 : (List Tm)) (t3_0 : Int), (rest0, t3_0) = p → M_sequentref02_Size_l0 rest0 t3_0 r) ?_ ?_
  · intro f_sequentref02_Size_l0 ih_sequentref02_Size_l0 p r e a0 hp
    subst hp
    refine pure_of_awp (js := []) T_ok Try.func38 rfl (by decide +kernel) rfl ?_; (conv => whnf)
    refine RunsL.runs (RunsL.weak ((ih_sequentref02_Size_l0 _ _ e _ _ rfl) a0 0 (by simp)) ?_)
    repeat' first | exact wk.of_eq rfl | exact wk.pure rfl | exact wk.un _ | exact wk.hold _ _ _ | exact rfl | exact trivial | refine ⟨?_, ?_⟩
  · intro f_sequentref02_Size f_sequentref02_Size_l0 ih_sequentref02_Size ih_sequentref02_Size_l0 p r e rest0 t3_0 hp
    subst hp
    intro a0 k0 hd0
    refine RunsL.len_cell 0 6 rfl rfl rfl fun hlenk0 => ?_
    refine RunsL.of_awp (js := []) T_ok ?_; (conv => whnf)
    have hls := Tm.Ds_len a0.sub
    cases rest0 with
    | nil =>
      have hk := drop_nil hd0
      refine ⟨⟨fun h => absurd h (by omega), fun _ => ?_⟩⟩; (conv => whnf)
      obtain rfl := sm e
      repeat' first | exact rfl | exact trivial | refine ⟨?_, ?_⟩
    | cons v5 rest0 =>
      obtain ⟨hxv5, hd0, hltv5⟩ := drop_head hd0
      refine ⟨⟨fun _ => ?_, fun h => absurd (by omega) h⟩⟩; (conv => whnf)
      refine ⟨k0, _, rfl, Tm.Ds_get hxv5, ?_⟩; (conv => whnf)
      refine ⟨Tm.Ds_fit _ rfl rfl, ?_⟩; (conv => whnf)
      obtain ⟨v6, qv6, e⟩ := bnd e
      refine said_pure (ih_sequentref02_Size _ _ qv6 _ rfl) rfl ?_; (conv => whnf)
      obtain ⟨v7, qv7, e⟩ := bnd e
      refine ⟨v7, sm qv7, ?_⟩; (conv => whnf)
      refine ⟨((k0 + 1 : Nat) : Int), wrap64e (by omega) (by omega) (by omega), ?_⟩; (conv => whnf)
      refine (RunsL.weak ((ih_sequentref02_Size_l0 _ _ e _ _ rfl) a0 (k0 + 1) hd0) ?_)
      repeat' first | exact wk.of_eq rfl | exact wk.pure rfl | exact wk.un _ | exact wk.hold _ _ _ | exact rfl | exact trivial | refine ⟨?_, ?_⟩
theorem P_sequentref02_Size {a0 : Tm} {r : Int} (e : sequentref02_Size a0 = some r) : M_sequentref02_Size a0 r := G_sequentref02_Size.1 _ _ e _ rfl
theorem P_sequentref02_Size_l0 {rest0 : (List Tm)} {t3_0 : Int} {r : Int} (e : sequentref02_Size_l0 rest0 t3_0 = some r) : M_sequentref02_Size_l0 rest0 t3_0 r := G_sequentref02_Size.2 _ _ e _ _ rfl

def M_sequentref02_Depth (a0 : Tm) (r : Int) : Prop := Pure Try.prog 102 [(Tm.D a0)] (.int .i64 r)
def M_sequentref02_Depth_l0 (rest0 : (List Tm)) (t3_0 : Int) (r : Int) : Prop := ∀ (a0 : Tm) (k0 : Nat) (hd0 : rest0 = a0.sub.drop k0), LoopAt T Try.prog Try.f102 Fx0 [] [1, 1, 0, 1, 0] (EP T Try.f102 (.int .i64 r)) [(1, .ptr 0 0 0), (3, .d (.int .i64 t3_0)), (4, .d (.int .i64 (k0 : Int)))] [[.cells [.d (.int .u8 a0.kind), .d (.str a0.name), .d (.bool a0.ty.v), .d (.str a0.ty.name), .d (.slice 3 (Ty.Ds a0.ty.args)), .d (.int .i64 a0.index), .d (.slice 7 (Tm.Ds a0.sub))]]]
theorem G_sequentref02_Depth : (∀ p r, sequentref02_Depth' p = some r → ∀ a0, a0 = p → M_sequentref02_Depth a0 r) ∧
    (∀ p r, sequentref02_Depth_l0' p = some r → ∀ rest0 t3_0, (rest0, t3_0) = p → M_sequentref02_Depth_l0 rest0 t3_0 r) := by
  refine sequentref02_Depth'.mutual_partial_correctness (fun (p : Tm) (r : Int) => ∀ (a0 : Tm), a0 = p → M_sequentref02_Depth a0 r) (fun (p : ((List Tm) × Int)) (r : Int) => ∀ (rest0 : (List Tm)) (t3_0 : Int), (rest0, t3_0) = p → M_sequentref02_Depth_l0 rest0 t3_0 r) ?_ ?_
  · intro f_sequentref02_Depth_l0 ih_sequentref02_Depth_l0 p r e a0 hp
    subst hp
    refine pure_of_awp (js := []) T_ok Try.func102 rfl (by decide +kernel) rfl ?_; (conv => whnf)
    refine RunsL.runs (RunsL.weak ((ih_sequentref02_Depth_l0 _ _ e _ _ rfl) a0 0 (by simp)) ?_)
    repeat' first | exact wk.of_eq rfl | exact wk.pure rfl | exact wk.un _ | exact wk.hold _ _ _ | exact rfl | exact trivial | refine ⟨?_, ?_⟩
  · intro f_sequentref02_Depth f_sequentref02_Depth_l0 ih_sequentref02_Depth ih_sequentref02_Depth_l0 p r e rest0 t3_0 hp
    subst hp
    intro a0 k0 hd0
    refine RunsL.len_cell 0 6 rfl rfl rfl fun hlenk0 => ?_
    refine RunsL.of_awp (js := []) T_ok ?_; (conv => whnf)
    have hls := Tm.Ds_len a0.sub
    cases rest0 with
    | nil =>
      have hk := drop_nil hd0
      refine ⟨⟨fun h => absurd h (by omega), fun _ => ?_⟩⟩; (conv => whnf)
      obtain ⟨v6, qv6, e⟩ := bnd e
      refine ⟨v6, sm qv6, ?_⟩; (conv => whnf)
      obtain rfl := sm e
      repeat' first | exact rfl | exact trivial | refine ⟨?_, ?_⟩
    | cons v5 rest0 =>
      obtain ⟨hxv5, hd0, hltv5⟩ := drop_head hd0
      refine ⟨⟨fun _ => ?_, fun h => absurd (by omega) h⟩⟩; (conv => whnf)
      refine ⟨k0, _, rfl, Tm.Ds_get hxv5, ?_⟩; (conv => whnf)
      refine ⟨Tm.Ds_fit _ rfl rfl, ?_⟩; (conv => whnf)
      obtain ⟨v6, qv6, e⟩ := bnd e
      refine said_pure (ih_sequentref02_Depth _ _ qv6 _ rfl) rfl ?_; (conv => whnf)
      refine ⟨((k0 + 1 : Nat) : Int), wrap64e (by omega) (by omega) (by omega), ?_⟩; (conv => whnf)
      refine (RunsL.weak ((ih_sequentref02_Depth_l0 _ _ e _ _ rfl) a0 (k0 + 1) hd0) ?_)
      repeat' first | exact wk.of_eq rfl | exact wk.pure rfl | exact wk.un _ | exact wk.hold _ _ _ | exact rfl | exact trivial | refine ⟨?_, ?_⟩
theorem P_sequentref02_Depth {a0 : Tm} {r : Int} (e : sequentref02_Depth a0 = some r) : M_sequentref02_Depth a0 r := G_sequentref02_Depth.1 _ _ e _ rfl
theorem P_sequentref02_Depth_l0 {rest0 : (List Tm)} {t3_0 : Int} {r : Int} (e : sequentref02_Depth_l0 rest0 t3_0 = some r) : M_sequentref02_Depth_l0 rest0 t3_0 r := G_sequentref02_Depth.2 _ _ e _ _ rfl

theorem P_sequentref02_Small {a0 : Tm} {r : Bool} (e : sequentref02_Small a0 = some r) : Pure Try.prog 81 [(Tm.D a0)] (.bool r) := by
  unfold sequentref02_Small at e
  refine pure_of_awp (js := []) T_ok Try.func81 rfl (by decide +kernel) rfl ?_; (conv => whnf)
  obtain ⟨v1, qv1, e⟩ := bnd e
  refine said_pure (P_sequentref02_Size qv1) rfl ?_; (conv => whnf)
  refine ⟨⟨fun h2 => ?_, fun h2 => ?_⟩⟩
  · replace e := ifp h2 e; (conv => whnf)
    obtain ⟨v3, qv3, e⟩ := bnd e
    refine said_pure (P_sequentref02_Depth qv3) rfl ?_; (conv => whnf)
    refine test.dec ?_; (conv => whnf)
    obtain rfl := sm e
    repeat' first | exact rfl | exact trivial | refine ⟨?_, ?_⟩
  · replace e := ifn h2 e; (conv => whnf)
    obtain rfl := sm e
    repeat' first | exact rfl | exact trivial | refine ⟨?_, ?_⟩

theorem P_sequentref02_Great {a0 : Tm} {r : Bool} (e : sequentref02_Great a0 = some r) : Pure Try.prog 43 [(Tm.D a0)] (.bool r) := by
  unfold sequentref02_Great at e
  refine pure_of_awp (js := []) T_ok Try.func43 rfl (by decide +kernel) rfl ?_; (conv => whnf)
  obtain ⟨v1, qv1, e⟩ := bnd e
  refine said_pure (P_sequentref02_count qv1) rfl ?_; (conv => whnf)
  refine ⟨⟨fun h2 => ?_, fun h2 => ?_⟩⟩
  · replace e := ifp h2 e; (conv => whnf)
    obtain rfl := sm e
    repeat' first | exact rfl | exact trivial | refine ⟨?_, ?_⟩
  · replace e := ifn h2 e; (conv => whnf)
    obtain ⟨v3, qv3, e⟩ := bnd e
    refine said_pure (P_sequentref02_count qv3) rfl ?_; (conv => whnf)
    refine ⟨⟨fun h4 => ?_, fun h4 => ?_⟩⟩
    · replace e := ifp h4 e; (conv => whnf)
      obtain rfl := sm e
      repeat' first | exact rfl | exact trivial | refine ⟨?_, ?_⟩
    · replace e := ifn h4 e; (conv => whnf)
      obtain ⟨v5, qv5, e⟩ := bnd e
      refine said_pure (P_sequentref02_Small qv5) rfl ?_; (conv => whnf)
      obtain rfl := sm e
      repeat' first | exact rfl | exact trivial | refine ⟨?_, ?_⟩

theorem P_sequentref31_Wide {a0 : Tm} {r : Bool} (e : sequentref31_Wide a0 = some r) : Pure Try.prog 13 [(Tm.D a0)] (.bool r) := by
  unfold sequentref31_Wide at e
  refine pure_of_awp (js := []) T_ok Try.func13 rfl (by decide +kernel) rfl ?_; (conv => whnf)
  obtain ⟨v1, qv1, e⟩ := bnd e
  refine said_pure (P_sequentref02_Great qv1) rfl ?_; (conv => whnf)
  refine brK.split (fun hb2 => ?_) (fun hb2 => ?_)
  · replace e := ifpb hb2 e; (conv => whnf)
    refine brK.tt hb2 ?_; (conv => whnf)
    refine brK.tt hb2 ?_; (conv => whnf)
    refine brK.tt hb2 ?_; (conv => whnf)
    refine brK.tt hb2 ?_; (conv => whnf)
    refine brK.tt hb2 ?_; (conv => whnf)
    obtain rfl := sm e
    repeat' first | exact rfl | exact trivial | refine ⟨?_, ?_⟩
  · replace e := ifnb hb2 e; (conv => whnf)
    refine brK.ff hb2 ?_; (conv => whnf)
    obtain ⟨v3, qv3, e⟩ := bnd e
    refine said_pure (P_sequentref02_Size qv3) rfl ?_; (conv => whnf)
    refine brK.ff hb2 ?_; (conv => whnf)
    refine ⟨⟨fun h4 => ?_, fun h4 => ?_⟩⟩
    · replace e := ifp h4 e; (conv => whnf)
      refine brK.ff hb2 ?_; (conv => whnf)
      obtain ⟨v5, qv5, e⟩ := bnd e
      refine said_pure (P_sequentref02_Size qv5) rfl ?_; (conv => whnf)
      refine test.dec ?_; (conv => whnf)
      refine brK.ff hb2 ?_; (conv => whnf)
      refine brK.ff hb2 ?_; (conv => whnf)
      obtain rfl := sm e
      repeat' first | exact rfl | exact trivial | refine ⟨?_, ?_⟩
    · replace e := ifn h4 e; (conv => whnf)
      refine brK.ff hb2 ?_; (conv => whnf)
      refine brK.ff hb2 ?_; (conv => whnf)
      refine brK.ff hb2 ?_; (conv => whnf)
      obtain rfl := sm e
      repeat' first | exact rfl | exact trivial | refine ⟨?_, ?_⟩

theorem P_sequentlaw31_HashShares {a0 : AStore} {a1 : Tm} {r : Bool} (e : sequentlaw31_HashShares a0 a1 = some r) : Pure Try.prog 5 [(AStore.D a0), (Tm.D a1)] (.bool r) := by
  unfold sequentlaw31_HashShares at e
  refine pure_of_awp (js := []) T_ok Try.func5 rfl (by decide +kernel) rfl ?_; (conv => whnf)
  obtain ⟨v1, qv1, e⟩ := bnd e
  refine said_pure (P_sequentlaw31_alive qv1) rfl ?_; (conv => whnf)
  obtain ⟨v2, qv2, e⟩ := bnd e
  refine said_pure (P_sequentref31_Great qv2) rfl ?_; (conv => whnf)
  refine brK.split (fun hb3 => ?_) (fun hb3 => ?_)
  · replace e := ifpb hb3 e; (conv => whnf)
    refine brK.tt hb3 ?_; (conv => whnf)
    refine brK.tt hb3 ?_; (conv => whnf)
    obtain rfl := sm e
    repeat' first | exact rfl | exact trivial | refine ⟨?_, ?_⟩
  · replace e := ifnb hb3 e; (conv => whnf)
    refine brK.ff hb3 ?_; (conv => whnf)
    obtain ⟨v4, qv4, e⟩ := bnd e
    refine said_pure (P_sequentref31_Wide qv4) rfl ?_; (conv => whnf)
    refine brK.ff hb3 ?_; (conv => whnf)
    refine brK.split (fun hb5 => ?_) (fun hb5 => ?_)
    · replace e := ifpb hb5 e; (conv => whnf)
      refine brK.tt hb5 ?_; (conv => whnf)
      refine brK.tt hb5 ?_; (conv => whnf)
      obtain rfl := sm e
      repeat' first | exact rfl | exact trivial | refine ⟨?_, ?_⟩
    · replace e := ifnb hb5 e; (conv => whnf)
      refine brK.ff hb5 ?_; (conv => whnf)
      refine brK.ff hb5 ?_; (conv => whnf)
      refine brK.nsplit (fun hb6 => ?_) (fun hb6 => ?_)
      · replace e := ifpb hb6 e; (conv => whnf)
        obtain ⟨v7, qv7, e⟩ := bnd e
        refine said_pure (P_hash_Add qv7) rfl ?_; (conv => whnf)
        refine ⟨⟨fun h8 => ?_, fun h8 => ?_⟩⟩
        · replace e := ifp h8 e; (conv => whnf)
          obtain rfl := sm e
          repeat' first | exact rfl | exact trivial | refine ⟨?_, ?_⟩
        · replace e := ifn h8 e; (conv => whnf)
          obtain ⟨v9, qv9, e⟩ := bnd e
          refine said_pure (P_hash_Size qv9) rfl ?_; (conv => whnf)
          obtain ⟨v10, qv10, e⟩ := bnd e
          refine said_pure (P_hash_Shared qv10) rfl ?_; (conv => whnf)
          obtain ⟨v11, qv11, e⟩ := bnd e
          refine said_pure (P_hash_Add qv11) rfl ?_; (conv => whnf)
          obtain ⟨v12, qv12, e⟩ := bnd e
          refine said_pure (P_hash_Shared qv12) rfl ?_; (conv => whnf)
          refine brK.tt hb6 ?_; (conv => whnf)
          refine brK.tt hb6 ?_; (conv => whnf)
          refine ⟨⟨fun h13 => ?_, fun h13 => ?_⟩⟩
          · replace e := ifp h13 e; (conv => whnf)
            refine brK.tt hb6 ?_; (conv => whnf)
            obtain ⟨v14, qv14, e⟩ := bnd e
            refine said_pure (P_sequentref02_Size qv14) rfl ?_; (conv => whnf)
            refine ⟨⟨fun h15 => ?_, fun h15 => ?_⟩⟩
            · replace e := ifp h15 e; (conv => whnf)
              refine ⟨⟨fun h16 => ?_, fun h16 => ?_⟩⟩
              · replace e := ifp h16 e; (conv => whnf)
                refine ⟨⟨fun h17 => ?_, fun h17 => ?_⟩⟩
                · replace e := ifp h17 e; (conv => whnf)
                  refine ⟨⟨fun h18 => ?_, fun h18 => ?_⟩⟩
                  · replace e := ifp h18 e; (conv => whnf)
                    refine ⟨⟨fun h19 => ?_, fun h19 => ?_⟩⟩
                    · replace e := ifp h19 e; (conv => whnf)
                      refine ⟨⟨fun h20 => ?_, fun h20 => ?_⟩⟩
                      · replace e := ifp h20 e; (conv => whnf)
                        refine ⟨⟨fun h21 => ?_, fun h21 => ?_⟩⟩
                        · replace e := ifp h21 e; (conv => whnf)
                          refine ⟨⟨fun h22 => ?_, fun h22 => ?_⟩⟩
                          · replace e := ifp (by first | exact h22 | simpa [ATermNode.Ds_all, ATypeNode.Ds_all, Tm.Ds_all, Ty.Ds_all, AStore.D, ATermNode.D, ATypeNode.D, Tm.D, Ty.D, listAll] using h22) e; (conv => whnf)
                            obtain ⟨v23, qv23, e⟩ := bnd e
                            refine ⟨v23, sm qv23, ?_⟩; (conv => whnf)
                            refine ⟨⟨fun h24 => ?_, fun h24 => ?_⟩⟩
                            · replace e := ifp h24 e; (conv => whnf)
                              obtain ⟨v25, qv25, e⟩ := bnd e
                              refine ⟨v25, (by have := sm qv25; first | exact this | simpa [ATermNode.Ds_all, ATypeNode.Ds_all, Tm.Ds_all, Ty.Ds_all, AStore.D, ATermNode.D, ATypeNode.D, Tm.D, Ty.D, listAll] using this), ?_⟩; (conv => whnf)
                              refine test.dec ?_; (conv => whnf)
                              obtain rfl := sm e
                              repeat' first | exact rfl | exact trivial | refine ⟨?_, ?_⟩
                            · replace e := ifn h24 e; (conv => whnf)
                              obtain rfl := sm e
                              repeat' first | exact rfl | exact trivial | refine ⟨?_, ?_⟩
                          · replace e := ifn (by first | exact h22 | simpa [ATermNode.Ds_all, ATypeNode.Ds_all, Tm.Ds_all, Ty.Ds_all, AStore.D, ATermNode.D, ATypeNode.D, Tm.D, Ty.D, listAll] using h22) e; (conv => whnf)
                            obtain rfl := sm e
                            repeat' first | exact rfl | exact trivial | refine ⟨?_, ?_⟩
                        · replace e := ifn h21 e; (conv => whnf)
                          obtain rfl := sm e
                          repeat' first | exact rfl | exact trivial | refine ⟨?_, ?_⟩
                      · replace e := ifn h20 e; (conv => whnf)
                        obtain rfl := sm e
                        repeat' first | exact rfl | exact trivial | refine ⟨?_, ?_⟩
                    · replace e := ifn h19 e; (conv => whnf)
                      obtain rfl := sm e
                      repeat' first | exact rfl | exact trivial | refine ⟨?_, ?_⟩
                  · replace e := ifn h18 e; (conv => whnf)
                    obtain rfl := sm e
                    repeat' first | exact rfl | exact trivial | refine ⟨?_, ?_⟩
                · replace e := ifn h17 e; (conv => whnf)
                  obtain rfl := sm e
                  repeat' first | exact rfl | exact trivial | refine ⟨?_, ?_⟩
              · replace e := ifn h16 e; (conv => whnf)
                obtain rfl := sm e
                repeat' first | exact rfl | exact trivial | refine ⟨?_, ?_⟩
            · replace e := ifn h15 e; (conv => whnf)
              obtain rfl := sm e
              repeat' first | exact rfl | exact trivial | refine ⟨?_, ?_⟩
          · replace e := ifn h13 e; (conv => whnf)
            refine brK.tt hb6 ?_; (conv => whnf)
            obtain rfl := sm e
            repeat' first | exact rfl | exact trivial | refine ⟨?_, ?_⟩
      · replace e := ifnb hb6 e; (conv => whnf)
        obtain rfl := sm e
        repeat' first | exact rfl | exact trivial | refine ⟨?_, ?_⟩

theorem P_sequentlaw31_HashOrder {a0 : AStore} {a1 : Tm} {a2 : Tm} {r : Bool} (e : sequentlaw31_HashOrder a0 a1 a2 = some r) : Pure Try.prog 6 [(AStore.D a0), (Tm.D a1), (Tm.D a2)] (.bool r) := by
  unfold sequentlaw31_HashOrder at e
  refine pure_of_awp (js := []) T_ok Try.func6 rfl (by decide +kernel) rfl ?_; (conv => whnf)
  obtain ⟨v1, qv1, e⟩ := bnd e
  refine said_pure (P_sequentlaw31_alive qv1) rfl ?_; (conv => whnf)
  obtain ⟨v2, qv2, e⟩ := bnd e
  refine said_pure (P_sequentref31_Great qv2) rfl ?_; (conv => whnf)
  refine brK.split (fun hb3 => ?_) (fun hb3 => ?_)
  · replace e := ifpb hb3 e; (conv => whnf)
    refine brK.tt hb3 ?_; (conv => whnf)
    refine brK.tt hb3 ?_; (conv => whnf)
    obtain rfl := sm e
    repeat' first | exact rfl | exact trivial | refine ⟨?_, ?_⟩
  · replace e := ifnb hb3 e; (conv => whnf)
    refine brK.ff hb3 ?_; (conv => whnf)
    obtain ⟨v4, qv4, e⟩ := bnd e
    refine said_pure (P_sequentref31_Wide qv4) rfl ?_; (conv => whnf)
    refine brK.ff hb3 ?_; (conv => whnf)
    refine brK.split (fun hb5 => ?_) (fun hb5 => ?_)
    · replace e := ifpb hb5 e; (conv => whnf)
      refine brK.tt hb5 ?_; (conv => whnf)
      refine brK.tt hb5 ?_; (conv => whnf)
      obtain rfl := sm e
      repeat' first | exact rfl | exact trivial | refine ⟨?_, ?_⟩
    · replace e := ifnb hb5 e; (conv => whnf)
      refine brK.ff hb5 ?_; (conv => whnf)
      obtain ⟨v6, qv6, e⟩ := bnd e
      refine said_pure (P_sequentref31_Wide qv6) rfl ?_; (conv => whnf)
      refine brK.ff hb5 ?_; (conv => whnf)
      refine brK.split (fun hb7 => ?_) (fun hb7 => ?_)
      · replace e := ifpb hb7 e; (conv => whnf)
        refine brK.tt hb7 ?_; (conv => whnf)
        refine brK.tt hb7 ?_; (conv => whnf)
        obtain rfl := sm e
        repeat' first | exact rfl | exact trivial | refine ⟨?_, ?_⟩
      · replace e := ifnb hb7 e; (conv => whnf)
        refine brK.ff hb7 ?_; (conv => whnf)
        refine brK.ff hb7 ?_; (conv => whnf)
        refine brK.nsplit (fun hb8 => ?_) (fun hb8 => ?_)
        · replace e := ifpb hb8 e; (conv => whnf)
          obtain ⟨v9, qv9, e⟩ := bnd e
          refine said_pure (P_hash_Add qv9) rfl ?_; (conv => whnf)
          obtain ⟨v10, qv10, e⟩ := bnd e
          refine said_pure (P_hash_Add qv10) rfl ?_; (conv => whnf)
          obtain ⟨v11, qv11, e⟩ := bnd e
          refine said_pure (P_hash_Add qv11) rfl ?_; (conv => whnf)
          obtain ⟨v12, qv12, e⟩ := bnd e
          refine said_pure (P_hash_Add qv12) rfl ?_; (conv => whnf)
          refine ⟨⟨fun h13 => ?_, fun h13 => ?_⟩⟩
          · replace e := ifp h13 e; (conv => whnf)
            obtain rfl := sm e
            repeat' first | exact rfl | exact trivial | refine ⟨?_, ?_⟩
          · replace e := ifn h13 e; (conv => whnf)
            refine ⟨⟨fun h14 => ?_, fun h14 => ?_⟩⟩
            · replace e := ifp h14 e; (conv => whnf)
              obtain rfl := sm e
              repeat' first | exact rfl | exact trivial | refine ⟨?_, ?_⟩
            · replace e := ifn h14 e; (conv => whnf)
              refine ⟨⟨fun h15 => ?_, fun h15 => ?_⟩⟩
              · replace e := ifp h15 e; (conv => whnf)
                obtain rfl := sm e
                repeat' first | exact rfl | exact trivial | refine ⟨?_, ?_⟩
              · replace e := ifn h15 e; (conv => whnf)
                refine ⟨⟨fun h16 => ?_, fun h16 => ?_⟩⟩
                · replace e := ifp h16 e; (conv => whnf)
                  obtain rfl := sm e
                  repeat' first | exact rfl | exact trivial | refine ⟨?_, ?_⟩
                · replace e := ifn h16 e; (conv => whnf)
                  refine brK.tt hb8 ?_; (conv => whnf)
                  refine brK.tt hb8 ?_; (conv => whnf)
                  refine brK.tt hb8 ?_; (conv => whnf)
                  refine brK.tt hb8 ?_; (conv => whnf)
                  refine brK.tt hb8 ?_; (conv => whnf)
                  refine brK.tt hb8 ?_; (conv => whnf)
                  refine brK.tt hb8 ?_; (conv => whnf)
                  refine ⟨⟨fun h17 => ?_, fun h17 => ?_⟩⟩
                  · replace e := ifp (by first | exact h17 | simpa [ATermNode.Ds_all, ATypeNode.Ds_all, Tm.Ds_all, Ty.Ds_all, AStore.D, ATermNode.D, ATypeNode.D, Tm.D, Ty.D, listAll] using h17) e; (conv => whnf)
                    refine brK.tt hb8 ?_; (conv => whnf)
                    refine test.dec ?_; (conv => whnf)
                    obtain rfl := sm e
                    repeat' first | exact rfl | exact trivial | refine ⟨?_, ?_⟩
                  · replace e := ifn (by first | exact h17 | simpa [ATermNode.Ds_all, ATypeNode.Ds_all, Tm.Ds_all, Ty.Ds_all, AStore.D, ATermNode.D, ATypeNode.D, Tm.D, Ty.D, listAll] using h17) e; (conv => whnf)
                    refine brK.tt hb8 ?_; (conv => whnf)
                    obtain rfl := sm e
                    repeat' first | exact rfl | exact trivial | refine ⟨?_, ?_⟩
        · replace e := ifnb hb8 e; (conv => whnf)
          obtain rfl := sm e
          repeat' first | exact rfl | exact trivial | refine ⟨?_, ?_⟩

def M_terms_Twin (a0 : Tm) (r : Tm) : Prop := Pure Try.prog 78 [(Tm.D a0)] (Tm.D r)
def M_terms_Twin_j0 (a0 : Tm) (v1 : Ty) (v3 : (List Tm)) (r : Tm) : Prop := ∀ (nv3 : Nat) (hlv3 : v3.length = nv3), JoinAt T Try.prog Try.f78 Fx0 [5] [1, 1, 1, 1, 0, 0] (EP T Try.f78 (Tm.D r)) [(1, .ptr 0 0 0), (2, .ptr 0 1 0), (3, .d (.slice 7 (Tm.Ds a0.sub)))] [[.cells [.d (.int .u8 a0.kind), .d (.str a0.name), .d (.bool v1.v), .d (.str v1.name), .d (.slice 3 (Ty.Ds v1.args)), .d (.int .i64 a0.index), .arr 0 2 0 nv3 7], .cells [.d (.int .u8 0), .d (.str ByteArray.empty), .d (.bool false), .d (.str ByteArray.empty), .nil 3, .d (.int .i64 0), .nil 7], .arr 7 (Tm.Ds v3)]]
def M_terms_Twin_l0 (t22_0 : Int) (a2_0 : (List Tm)) (a0 : Tm) (v1 : Ty) (r : Tm) : Prop := ∀ (nv3 : Nat) (hla2_0 : a2_0.length = nv3), LoopAt T Try.prog Try.f78 Fx0 [5] [1, 1, 1, 1, 0, 1, 0] (EP T Try.f78 (Tm.D r)) [(1, .ptr 0 0 0), (2, .ptr 0 1 0), (20, .d (.slice 7 (Tm.Ds a0.sub))), (21, .d (.int .i64 ((Tm.Ds a0.sub).length : Int))), (22, .d (.int .i64 t22_0))] [[.cells [.d (.int .u8 a0.kind), .d (.str a0.name), .d (.bool v1.v), .d (.str v1.name), .d (.slice 3 (Ty.Ds v1.args)), .d (.int .i64 a0.index), .arr 0 2 0 nv3 7], .cells [.d (.int .u8 0), .d (.str ByteArray.empty), .d (.bool false), .d (.str ByteArray.empty), .nil 3, .d (.int .i64 0), .nil 7], .arr 7 (Tm.Ds a2_0)]]
def M_terms_Twin_j0b (a0 : Tm) (v1 : Ty) (r : Tm) : Prop := JoinAt T Try.prog Try.f78 Fx0 [5] [1, 1, 1, 1, 0, 0] (EP T Try.f78 (Tm.D r)) [(1, .ptr 0 0 0), (2, .ptr 0 1 0), (3, .d (.slice 7 (Tm.Ds a0.sub)))] [[.cells [.d (.int .u8 a0.kind), .d (.str a0.name), .d (.bool v1.v), .d (.str v1.name), .d (.slice 3 (Ty.Ds v1.args)), .d (.int .i64 a0.index), .nil 7], .cells [.d (.int .u8 0), .d (.str ByteArray.empty), .d (.bool false), .d (.str ByteArray.empty), .nil 3, .d (.int .i64 0), .nil 7]]]
def M_terms_Twin_l0b (a0 : Tm) (v1 : Ty) (r : Tm) : Prop := LoopAt T Try.prog Try.f78 Fx0 [5] [1, 1, 1, 1, 0, 1, 0] (EP T Try.f78 (Tm.D r)) [(1, .ptr 0 0 0), (2, .ptr 0 1 0), (20, .d (.slice 7 (Tm.Ds a0.sub))), (21, .d (.int .i64 ((Tm.Ds a0.sub).length : Int))), (22, .d (.int .i64 0))] [[.cells [.d (.int .u8 a0.kind), .d (.str a0.name), .d (.bool v1.v), .d (.str v1.name), .d (.slice 3 (Ty.Ds v1.args)), .d (.int .i64 a0.index), .nil 7], .cells [.d (.int .u8 0), .d (.str ByteArray.empty), .d (.bool false), .d (.str ByteArray.empty), .nil 3, .d (.int .i64 0), .nil 7]]]
theorem G_terms_Twin : (∀ p r, terms_Twin' p = some r → ∀ a0, a0 = p → M_terms_Twin a0 r) ∧
    (∀ p r, terms_Twin_j0b' p = some r → ∀ a0 v1, (a0, v1) = p → M_terms_Twin_j0b a0 v1 r) ∧
    (∀ p r, terms_Twin_l0b' p = some r → ∀ a0 v1, (a0, v1) = p → M_terms_Twin_l0b a0 v1 r) ∧
    (∀ p r, terms_Twin_j0' p = some r → ∀ a0 v1 v3, (a0, v1, v3) = p → M_terms_Twin_j0 a0 v1 v3 r) ∧
    (∀ p r, terms_Twin_l0' p = some r → ∀ t22_0 a2_0 a0 v1, (t22_0, a2_0, a0, v1) = p → M_terms_Twin_l0 t22_0 a2_0 a0 v1 r) := by
  refine terms_Twin'.mutual_partial_correctness (fun (p : Tm) (r : Tm) => ∀ (a0 : Tm), a0 = p → M_terms_Twin a0 r) (fun (p : (Tm × Ty)) (r : Tm) => ∀ (a0 : Tm) (v1 : Ty), (a0, v1) = p → M_terms_Twin_j0b a0 v1 r) (fun (p : (Tm × Ty)) (r : Tm) => ∀ (a0 : Tm) (v1 : Ty), (a0, v1) = p → M_terms_Twin_l0b a0 v1 r) (fun (p : (Tm × Ty × (List Tm))) (r : Tm) => ∀ (a0 : Tm) (v1 : Ty) (v3 : (List Tm)), (a0, v1, v3) = p → M_terms_Twin_j0 a0 v1 v3 r) (fun (p : (Int × (List Tm) × Tm × Ty)) (r : Tm) => ∀ (t22_0 : Int) (a2_0 : (List Tm)) (a0 : Tm) (v1 : Ty), (t22_0, a2_0, a0, v1) = p → M_terms_Twin_l0 t22_0 a2_0 a0 v1 r) ?_ ?_ ?_ ?_ ?_
  · intro f_terms_Twin_j0b f_terms_Twin_j0 ih_terms_Twin_j0b ih_terms_Twin_j0 p r e a0 hp
    subst hp
    refine pure_of_awp (js := [5]) T_ok Try.func78 rfl (by decide +kernel) rfl ?_; (conv => whnf)
    obtain ⟨v1, qv1, e⟩ := bnd e
    refine said_pure (P_types_Twin qv1) rfl ?_; (conv => whnf)
    refine ⟨⟨fun h2 => ?_, fun h2 => ?_⟩⟩
    · replace e := ifp (by first | exact h2 | simpa [Tm.Ds_all, Ty.Ds_all, Tm.D, Ty.D, listAll] using h2) e; (conv => whnf)
      obtain ⟨v3, qv3, e⟩ := bnd e
      obtain ⟨nv3, qv3a, qv3b, qv3c⟩ := mkn_some qv3
      have hlv3 : v3.length = nv3 := by rw [qv3c]; simp
      refine ⟨nv3, nv3, congrArg (fun z => AV.d (D.int .i64 z)) qv3a, congrArg (fun z => AV.d (D.int .i64 z)) qv3a, Nat.le_refl _, qv3b, .inr (.inl ⟨rfl, ?_⟩)⟩; (conv => whnf)
      refine Runs.weak ((ih_terms_Twin_j0 _ _ e _ _ _ rfl) nv3 hlv3) ?_
      repeat' first | exact wk.of_eq rfl | exact wk.pure rfl | exact wk.un _ | exact wk.hold _ _ _ | exact rfl | exact trivial | refine ⟨?_, ?_⟩ | (refine wk.of_eq ?_; (conv => lhs; whnf); (simp [Tm.Ds_all, Ty.Ds_all, Tm.D, Ty.D, listAll, qv3c, hlv3] <;> (repeat' first | rfl | apply And.intro)); done) | (refine wk.pure ?_; (conv => lhs; whnf); (simp [Tm.Ds_all, Ty.Ds_all, Tm.D, Ty.D, listAll, qv3c, hlv3] <;> (repeat' first | rfl | apply And.intro)); done) | ((simp [Tm.Ds_all, Ty.Ds_all, Tm.D, Ty.D, listAll, qv3c, hlv3] <;> (repeat' first | rfl | apply And.intro)); done)
    · replace e := ifn (by first | exact h2 | simpa [Tm.Ds_all, Ty.Ds_all, Tm.D, Ty.D, listAll] using h2) e; (conv => whnf)
      refine Runs.weak (ih_terms_Twin_j0b _ _ e _ _ rfl) ?_
      repeat' first | exact wk.of_eq rfl | exact wk.pure rfl | exact wk.un _ | exact wk.hold _ _ _ | exact rfl | exact trivial | refine ⟨?_, ?_⟩
  · intro f_terms_Twin_l0b ih_terms_Twin_l0b p r e a0 v1 hp
    subst hp
    refine Runs.enter T_ok ?_; (conv => whnf)
    refine RunsL.runs (RunsL.weak (ih_terms_Twin_l0b _ _ e _ _ rfl) ?_)
    repeat' first | exact wk.of_eq rfl | exact wk.pure rfl | exact wk.un _ | exact wk.hold _ _ _ | exact rfl | exact trivial | refine ⟨?_, ?_⟩ | (refine wk.of_eq ?_; (conv => lhs; whnf); (simp [Tm.Ds_all, Ty.Ds_all, Tm.D, Ty.D, listAll] <;> (repeat' first | rfl | apply And.intro)); done) | (refine wk.pure ?_; (conv => lhs; whnf); (simp [Tm.Ds_all, Ty.Ds_all, Tm.D, Ty.D, listAll] <;> (repeat' first | rfl | apply And.intro)); done) | ((simp [Tm.Ds_all, Ty.Ds_all, Tm.D, Ty.D, listAll] <;> (repeat' first | rfl | apply And.intro)); done)
  · intro f_terms_Twin ih_terms_Twin p r e a0 v1 hp
    subst hp
    refine RunsL.of_awp (js := [5]) T_ok ?_; (conv => whnf)
    refine ⟨⟨fun h23 => ?_, fun h23 => ?_⟩⟩
    · replace e := ifp (by first | exact h23 | simpa [Tm.Ds_all, Ty.Ds_all, Tm.D, Ty.D, listAll] using h23) e; (conv => whnf)
      obtain ⟨v24, qv24, e⟩ := bnd e
      obtain ⟨qv24k, qv24a, qv24b⟩ := geti_some qv24
      refine ⟨qv24k, _, qv24a, Tm.Ds_get qv24b, ?_⟩; (conv => whnf)
      refine ⟨Tm.Ds_fit _ rfl rfl, ?_⟩; (conv => whnf)
      refine draw_rule [] T_ok mixed terms_Twin_pl8 (by decide +kernel) ?_; (conv => whnf)
      obtain ⟨v25, qv25, e⟩ := bnd e
      refine said_pure (ih_terms_Twin _ _ qv25 _ rfl) rfl ⟨Keeps.refl _ _, ?_⟩; (conv => whnf)
      cases e
    · replace e := ifn (by first | exact h23 | simpa [Tm.Ds_all, Ty.Ds_all, Tm.D, Ty.D, listAll] using h23) e; (conv => whnf)
      obtain rfl := sm e
      repeat' first | exact rfl | exact trivial | refine ⟨?_, ?_⟩
  · intro f_terms_Twin_l0 ih_terms_Twin_l0 p r e a0 v1 v3 hp
    subst hp
    intro nv3 hlv3
    refine Runs.enter T_ok ?_; (conv => whnf)
    refine RunsL.runs (RunsL.weak ((ih_terms_Twin_l0 _ _ e _ _ _ _ rfl) nv3 hlv3) ?_)
    repeat' first | exact wk.of_eq rfl | exact wk.pure rfl | exact wk.un _ | exact wk.hold _ _ _ | exact rfl | exact trivial | refine ⟨?_, ?_⟩ | (refine wk.of_eq ?_; (conv => lhs; whnf); (simp [Tm.Ds_all, Ty.Ds_all, Tm.D, Ty.D, listAll, hlv3] <;> (repeat' first | rfl | apply And.intro)); done) | (refine wk.pure ?_; (conv => lhs; whnf); (simp [Tm.Ds_all, Ty.Ds_all, Tm.D, Ty.D, listAll, hlv3] <;> (repeat' first | rfl | apply And.intro)); done) | ((simp [Tm.Ds_all, Ty.Ds_all, Tm.D, Ty.D, listAll, hlv3] <;> (repeat' first | rfl | apply And.intro)); done)
  · intro f_terms_Twin f_terms_Twin_l0 ih_terms_Twin ih_terms_Twin_l0 p r e t22_0 a2_0 a0 v1 hp
    subst hp
    intro nv3 hla2_0
    refine RunsL.of_awp (js := [5]) T_ok ?_; (conv => whnf)
    refine ⟨⟨fun h23 => ?_, fun h23 => ?_⟩⟩
    · replace e := ifp (by first | exact h23 | simpa [Tm.Ds_all, Ty.Ds_all, Tm.D, Ty.D, listAll] using h23) e; (conv => whnf)
      obtain ⟨v24, qv24, e⟩ := bnd e
      obtain ⟨qv24k, qv24a, qv24b⟩ := geti_some qv24
      refine ⟨qv24k, _, qv24a, Tm.Ds_get qv24b, ?_⟩; (conv => whnf)
      refine ⟨Tm.Ds_fit _ rfl rfl, ?_⟩; (conv => whnf)
      refine draw_rule [] T_ok mixed terms_Twin_pl8 (by decide +kernel) ?_; (conv => whnf)
      obtain ⟨v25, qv25, e⟩ := bnd e
      refine said_pure (ih_terms_Twin _ _ qv25 _ rfl) rfl ⟨Keeps.refl _ _, ?_⟩; (conv => whnf)
      obtain ⟨g27, qg27, e⟩ := bnd e
      obtain ⟨k26, k26a⟩ : ∃ k26 : Nat, t22_0 = k26 := ⟨(t22_0).toNat, by have := wantb_some qg27; omega⟩
      refine ⟨k26, k26a, by have := wantb_some qg27; omega, ?_⟩; simp only [Nat.zero_add]; (conv => whnf)
      obtain ⟨v28, qv28, e⟩ := bnd e
      obtain ⟨qv28k, qv28a, qv28b, qv28c⟩ := seti_some qv28
      obtain rfl : k26 = qv28k := by omega
      have hlv28 : v28.length = nv3 := by rw [qv28c]; simp [hla2_0]
      refine ⟨(by first | exact qv28b | simpa [Tm.Ds_all, Ty.Ds_all, Tm.D, Ty.D, listAll, hla2_0] using qv28b), Tm.Ds_fit _ rfl rfl, rfl, ?_⟩
      (conv => whnf)
      obtain ⟨v29, qv29, e⟩ := bnd e
      refine ⟨v29, sm qv29, ?_⟩; (conv => whnf)
      refine (RunsL.weak ((ih_terms_Twin_l0 _ _ e _ _ _ _ rfl) nv3 hlv28) ?_)
      repeat' first | exact wk.of_eq rfl | exact wk.pure rfl | exact wk.un _ | exact wk.hold _ _ _ | exact rfl | exact trivial | refine ⟨?_, ?_⟩ | (refine wk.of_eq ?_; (conv => lhs; whnf); (simp [Tm.Ds_all, Ty.Ds_all, Tm.D, Ty.D, listAll, qv28c, hlv28] <;> (repeat' first | rfl | apply And.intro)); done) | (refine wk.pure ?_; (conv => lhs; whnf); (simp [Tm.Ds_all, Ty.Ds_all, Tm.D, Ty.D, listAll, qv28c, hlv28] <;> (repeat' first | rfl | apply And.intro)); done) | ((simp [Tm.Ds_all, Ty.Ds_all, Tm.D, Ty.D, listAll, qv28c, hlv28] <;> (repeat' first | rfl | apply And.intro)); done)
    · replace e := ifn (by first | exact h23 | simpa [Tm.Ds_all, Ty.Ds_all, Tm.D, Ty.D, listAll] using h23) e; (conv => whnf)
      obtain rfl := sm e
      repeat' first | exact rfl | exact trivial | exact ⟨_, rfl, (by first | exact rfl | (simp [Tm.Ds_all, Ty.Ds_all, Tm.D, Ty.D, listAll, hla2_0] <;> (repeat' first | rfl | apply And.intro))), (by first | exact rfl | (simp [Tm.Ds_all, Ty.Ds_all, Tm.D, Ty.D, listAll, hla2_0] <;> (repeat' first | rfl | apply And.intro)))⟩ | refine ⟨?_, ?_⟩ | (simp [Tm.Ds_all, Ty.Ds_all, Tm.D, Ty.D, listAll, hla2_0] <;> (repeat' first | rfl | apply And.intro))
theorem P_terms_Twin {a0 : Tm} {r : Tm} (e : terms_Twin a0 = some r) : M_terms_Twin a0 r := G_terms_Twin.1 _ _ e _ rfl
theorem P_terms_Twin_j0b {a0 : Tm} {v1 : Ty} {r : Tm} (e : terms_Twin_j0b a0 v1 = some r) : M_terms_Twin_j0b a0 v1 r := G_terms_Twin.2.1 _ _ e _ _ rfl
theorem P_terms_Twin_l0b {a0 : Tm} {v1 : Ty} {r : Tm} (e : terms_Twin_l0b a0 v1 = some r) : M_terms_Twin_l0b a0 v1 r := G_terms_Twin.2.2.1 _ _ e _ _ rfl
theorem P_terms_Twin_j0 {a0 : Tm} {v1 : Ty} {v3 : (List Tm)} {r : Tm} (e : terms_Twin_j0 a0 v1 v3 = some r) : M_terms_Twin_j0 a0 v1 v3 r := G_terms_Twin.2.2.2.1 _ _ e _ _ _ rfl
theorem P_terms_Twin_l0 {t22_0 : Int} {a2_0 : (List Tm)} {a0 : Tm} {v1 : Ty} {r : Tm} (e : terms_Twin_l0 t22_0 a2_0 a0 v1 = some r) : M_terms_Twin_l0 t22_0 a2_0 a0 v1 r := G_terms_Twin.2.2.2.2 _ _ e _ _ _ _ rfl

theorem P_terms_Comb {a0 : Tm} {a1 : Tm} {r : (Tm × Int)} (e : terms_Comb a0 a1 = some r) : Pure Try.prog 40 [(Tm.D a0), (Tm.D a1)] (.tuple [(Tm.D r.1), (.int .i64 r.2)]) := by
  unfold terms_Comb at e
  refine pure_of_awp (js := []) T_ok Try.func40 rfl (by decide +kernel) rfl ?_; (conv => whnf)
  obtain ⟨v1, qv1, e⟩ := bnd e
  refine said_pure (P_terms_typed qv1) rfl ?_; (conv => whnf)
  refine ⟨⟨fun h2 => ?_, fun h2 => ?_⟩⟩
  · replace e := ifp h2 e; (conv => whnf)
    obtain rfl := sm e
    repeat' first | exact rfl | exact trivial | refine ⟨?_, ?_⟩
  · replace e := ifn h2 e; (conv => whnf)
    obtain ⟨v3, qv3, e⟩ := bnd e
    refine said_pure (P_terms_typed qv3) rfl ?_; (conv => whnf)
    refine ⟨⟨fun h4 => ?_, fun h4 => ?_⟩⟩
    · replace e := ifp h4 e; (conv => whnf)
      obtain rfl := sm e
      repeat' first | exact rfl | exact trivial | refine ⟨?_, ?_⟩
    · replace e := ifn h4 e; (conv => whnf)
      refine draw_rule [] T_ok mixed terms_Comb_pl7 (by decide +kernel) ?_; (conv => whnf)
      refine brK.split (fun hb5 => ?_) (fun hb5 => ?_)
      · replace e := ifpb hb5 e; (conv => whnf)
        refine brK.tt hb5 ?_; (conv => whnf)
        refine brK.tt hb5 ?_; (conv => whnf)
        refine brK.tt hb5 ?_; (conv => whnf)
        obtain rfl := sm e
        repeat' first | exact rfl | exact trivial | refine ⟨?_, ?_⟩
      · replace e := ifnb hb5 e; (conv => whnf)
        refine brK.ff hb5 ?_; (conv => whnf)
        refine brK.ff hb5 ?_; (conv => whnf)
        refine ⟨⟨fun h6 => ?_, fun h6 => ?_⟩⟩
        · replace e := ifp h6 e; (conv => whnf)
          refine brK.ff hb5 ?_; (conv => whnf)
          obtain rfl := sm e
          repeat' first | exact rfl | exact trivial | refine ⟨?_, ?_⟩
        · replace e := ifn h6 e; (conv => whnf)
          refine brK.ff hb5 ?_; (conv => whnf)
          refine ⟨⟨fun h7 => ?_, fun h7 => ?_⟩⟩
          · replace e := ifp (by first | exact h7 | simpa [Tm.Ds_all, Ty.Ds_all, Tm.D, Ty.D, listAll] using h7) e; (conv => whnf)
            obtain rfl := sm e
            repeat' first | exact rfl | exact trivial | refine ⟨?_, ?_⟩
          · replace e := ifn (by first | exact h7 | simpa [Tm.Ds_all, Ty.Ds_all, Tm.D, Ty.D, listAll] using h7) e; (conv => whnf)
            obtain ⟨v8, qv8, e⟩ := bnd e
            obtain ⟨qv8k, qv8a, qv8b⟩ := geti_some qv8
            refine ⟨qv8k, _, qv8a, Ty.Ds_get qv8b, ?_⟩; (conv => whnf)
            refine ⟨Ty.Ds_fit _ rfl rfl, ?_⟩; (conv => whnf)
            obtain ⟨v9, qv9, e⟩ := bnd e
            refine said_pure (P_types_Same qv9) rfl ⟨Keeps.refl _ _, ?_⟩; (conv => whnf)
            refine brK.nsplit (fun hb10 => ?_) (fun hb10 => ?_)
            · replace e := ifpb hb10 e; (conv => whnf)
              refine ⟨⟨⟨rfl, rfl⟩, ⟨⟨rfl, rfl⟩, trivial⟩⟩, ?_⟩; (conv => whnf)
              obtain ⟨v11, qv11, e⟩ := bnd e
              first | (refine said_pure (P_terms_great qv11) rfl ?_) | (refine said_pure2 (P_terms_great qv11) rfl (by simp [Tm.Ds_all, Ty.Ds_all, Tm.D, Ty.D, listAll] <;> (repeat' first | rfl | apply And.intro)) ?_)
              (conv => whnf)
              refine brK.split (fun hb12 => ?_) (fun hb12 => ?_)
              · replace e := ifpb hb12 e; (conv => whnf)
                obtain rfl := sm e
                repeat' first | exact rfl | exact trivial | refine ⟨?_, ?_⟩
              · replace e := ifnb hb12 e; (conv => whnf)
                obtain ⟨v13, qv13, e⟩ := bnd e
                first | (refine said_pure (P_terms_Twin qv13) rfl ?_) | (refine said_pure2 (P_terms_Twin qv13) rfl (by simp [Tm.Ds_all, Ty.Ds_all, Tm.D, Ty.D, listAll] <;> (repeat' first | rfl | apply And.intro)) ?_)
                (conv => whnf)
                obtain rfl := sm e
                repeat' first | exact rfl | exact trivial | refine ⟨?_, ?_⟩
            · replace e := ifnb hb10 e; (conv => whnf)
              obtain rfl := sm e
              repeat' first | exact rfl | exact trivial | refine ⟨?_, ?_⟩

theorem P_hash_Find_j0 {r : (Int × Bool × Int)} (e : hash_Find_j0 = some r) : ∀ (a0 : AStore) (a1 : Tm), JoinAt T Try.prog Try.f20 Fx0 [2] [1, 1, 0, 0] (EP T Try.f20 (.tuple [(.int .i64 r.1), (.bool r.2.1), (.int .i64 r.2.2)])) [(3, .ptr 0 1 0), (7, .d .nilptr), (8, .d (.int .i64 4))] [[.cells [.d (.slice 3 (ATypeNode.Ds a0.types)), .d (.slice 5 (ATermNode.Ds a0.terms))], .cells [.d (.int .u8 a1.kind), .d (.str a1.name), .d (.bool a1.ty.v), .d (.str a1.ty.name), .d (.slice 3 (Ty.Ds a1.ty.args)), .d (.int .i64 a1.index), .d (.slice 7 (Tm.Ds a1.sub))]]] := by
  unfold hash_Find_j0 at e
  intro a0 a1
  refine Runs.enter T_ok ?_; (conv => whnf)
  refine ⟨⟨fun h => absurd h (by decide), fun _ => ?_⟩⟩; (conv => whnf)
  refine ⟨⟨fun _ => ?_, fun h => absurd (by decide) h⟩⟩; (conv => whnf)
  obtain rfl := sm e
  repeat' first | exact rfl | exact trivial | refine ⟨?_, ?_⟩

theorem P_hash_Find_j0b {r : (Int × Bool × Int)} (e : hash_Find_j0b = some r) : ∀ (a0 : AStore) (a1 : Tm), JoinAt T Try.prog Try.f20 Fx0 [2] [1, 1, 0, 0] (EP T Try.f20 (.tuple [(.int .i64 r.1), (.bool r.2.1), (.int .i64 r.2.2)])) [(3, .ptr 0 1 0), (7, .d .nilptr), (8, .d (.int .i64 8))] [[.cells [.d (.slice 3 (ATypeNode.Ds a0.types)), .d (.slice 5 (ATermNode.Ds a0.terms))], .cells [.d (.int .u8 a1.kind), .d (.str a1.name), .d (.bool a1.ty.v), .d (.str a1.ty.name), .d (.slice 3 (Ty.Ds a1.ty.args)), .d (.int .i64 a1.index), .d (.slice 7 (Tm.Ds a1.sub))]]] := by
  unfold hash_Find_j0b at e
  intro a0 a1
  refine Runs.enter T_ok ?_; (conv => whnf)
  refine ⟨⟨fun h => absurd h (by decide), fun _ => ?_⟩⟩; (conv => whnf)
  refine ⟨⟨fun _ => ?_, fun h => absurd (by decide) h⟩⟩; (conv => whnf)
  obtain rfl := sm e
  repeat' first | exact rfl | exact trivial | refine ⟨?_, ?_⟩
end Go.Proofs.Ytpgecpmonaldiaa.Fw
