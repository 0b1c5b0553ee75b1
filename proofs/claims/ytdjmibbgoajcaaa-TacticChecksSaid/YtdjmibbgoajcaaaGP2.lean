/- The code computes the functions. -/
import Derived.Test.YtdjmibbgoajcaaaGP1
set_option autoImplicit false
set_option linter.unusedVariables false
set_option linter.unusedSimpArgs false
set_option maxHeartbeats 4000000
namespace Go.Proofs.Ytdjmibbgoajcaaa.Fw
open Go Go.Proofs Go.RowKit
def M_types_Twin (a0 : Ty) (r : Ty) : Prop := Pure Try.prog 123 [(Ty.D a0)] (Ty.D r)
def M_types_Twin_j0 (a0 : Ty) (v2 : (List Ty)) (r : Ty) : Prop := ∀ (nv2 : Nat) (hlv2 : v2.length = nv2), JoinAt T Try.prog Try.f123 Fx0 [5] [1, 1, 1, 1, 0, 0] (EP T Try.f123 (Ty.D r)) [(1, .ptr 0 0 0), (2, .ptr 0 1 0), (3, .d (.slice 3 (Ty.Ds a0.args)))] [[.cells [.d (.bool a0.v), .d (.str a0.name), .arr 0 2 0 nv2 3], .cells [.d (.bool false), .d (.str ByteArray.empty), .nil 3], .arr 3 (Ty.Ds v2)]]
def M_types_Twin_l0 (t18_0 : Int) (a2_0 : (List Ty)) (a0 : Ty) (r : Ty) : Prop := ∀ (nv2 : Nat) (hla2_0 : a2_0.length = nv2), LoopAt T Try.prog Try.f123 Fx0 [5] [1, 1, 1, 1, 0, 1, 0] (EP T Try.f123 (Ty.D r)) [(1, .ptr 0 0 0), (2, .ptr 0 1 0), (16, .d (.slice 3 (Ty.Ds a0.args))), (17, .d (.int .i64 ((Ty.Ds a0.args).length : Int))), (18, .d (.int .i64 t18_0))] [[.cells [.d (.bool a0.v), .d (.str a0.name), .arr 0 2 0 nv2 3], .cells [.d (.bool false), .d (.str ByteArray.empty), .nil 3], .arr 3 (Ty.Ds a2_0)]]
def M_types_Twin_j0b (a0 : Ty) (r : Ty) : Prop := JoinAt T Try.prog Try.f123 Fx0 [5] [1, 1, 1, 1, 0, 0] (EP T Try.f123 (Ty.D r)) [(1, .ptr 0 0 0), (2, .ptr 0 1 0), (3, .d (.slice 3 (Ty.Ds a0.args)))] [[.cells [.d (.bool a0.v), .d (.str a0.name), .nil 3], .cells [.d (.bool false), .d (.str ByteArray.empty), .nil 3]]]
def M_types_Twin_l0b (a0 : Ty) (r : Ty) : Prop := LoopAt T Try.prog Try.f123 Fx0 [5] [1, 1, 1, 1, 0, 1, 0] (EP T Try.f123 (Ty.D r)) [(1, .ptr 0 0 0), (2, .ptr 0 1 0), (16, .d (.slice 3 (Ty.Ds a0.args))), (17, .d (.int .i64 ((Ty.Ds a0.args).length : Int))), (18, .d (.int .i64 0))] [[.cells [.d (.bool a0.v), .d (.str a0.name), .nil 3], .cells [.d (.bool false), .d (.str ByteArray.empty), .nil 3]]]
theorem G_types_Twin : (∀ p r, types_Twin' p = some r → ∀ a0, a0 = p → M_types_Twin a0 r) ∧
    (∀ p r, types_Twin_j0b' p = some r → ∀ a0, a0 = p → M_types_Twin_j0b a0 r) ∧
    (∀ p r, types_Twin_l0b' p = some r → ∀ a0, a0 = p → M_types_Twin_l0b a0 r) ∧
    (∀ p r, types_Twin_j0' p = some r → ∀ a0 v2, (a0, v2) = p → M_types_Twin_j0 a0 v2 r) ∧
    (∀ p r, types_Twin_l0' p = some r → ∀ t18_0 a2_0 a0, (t18_0, a2_0, a0) = p → M_types_Twin_l0 t18_0 a2_0 a0 r) := by
  refine types_Twin'.mutual_partial_correctness (fun (p : Ty) (r : Ty) => ∀ (a0 : Ty), a0 = p → M_types_Twin a0 r) (fun (p : Ty) (r : Ty) => ∀ (a0 : Ty), a0 = p → M_types_Twin_j0b a0 r) (fun (p : Ty) (r : Ty) => ∀ (a0 : Ty), a0 = p → M_types_Twin_l0b a0 r) (fun (p : (Ty × (List Ty))) (r : Ty) => ∀ (a0 : Ty) (v2 : (List Ty)), (a0, v2) = p → M_types_Twin_j0 a0 v2 r) (fun (p : (Int × (List Ty) × Ty)) (r : Ty) => ∀ (t18_0 : Int) (a2_0 : (List Ty)) (a0 : Ty), (t18_0, a2_0, a0) = p → M_types_Twin_l0 t18_0 a2_0 a0 r) ?_ ?_ ?_ ?_ ?_
  · intro f_types_Twin_j0b f_types_Twin_j0 ih_types_Twin_j0b ih_types_Twin_j0 p r e a0 hp
    subst hp
    refine pure_of_awp (js := [5]) T_ok Try.func123 rfl (by decide +kernel) rfl ?_; (conv => whnf)
    refine ⟨⟨fun h1 => ?_, fun h1 => ?_⟩⟩
    · replace e := ifp (by first | exact h1 | omega | simpa [Ty.Ds_all, Ty.D, listAll] using h1) e; (conv => whnf)
      obtain ⟨v2, qv2, e⟩ := bnd e
      obtain ⟨nv2, qv2a, qv2b, qv2c⟩ := mkn_some qv2
      have hlv2 : v2.length = nv2 := by rw [qv2c]; simp
      refine ⟨nv2, nv2, congrArg (fun z => AV.d (D.int .i64 z)) qv2a, congrArg (fun z => AV.d (D.int .i64 z)) qv2a, Nat.le_refl _, qv2b, .inr (.inl ⟨rfl, ?_⟩)⟩; (conv => whnf)
      refine Runs.weak ((ih_types_Twin_j0 _ _ e _ _ rfl) nv2 hlv2) ?_
      repeat' first | exact wk.of_eq rfl | exact wk.pure rfl | exact wk.un _ | exact wk.hold _ _ _ | exact wk.holdG _ _ _ | exact rfl | exact trivial | refine ⟨?_, ?_⟩ | (refine wk.of_eq ?_; (conv => lhs; whnf); (simp [Ty.Ds_all, Ty.D, listAll, qv2c, hlv2] <;> (repeat' first | rfl | apply And.intro)); done) | (refine wk.pure ?_; (conv => lhs; whnf); (simp [Ty.Ds_all, Ty.D, listAll, qv2c, hlv2] <;> (repeat' first | rfl | apply And.intro)); done) | ((simp [Ty.Ds_all, Ty.D, listAll, qv2c, hlv2] <;> (repeat' first | rfl | apply And.intro)); done) | (simp [Ty.Ds_all, Ty.D, listAll, qv2c, hlv2]; omega)
    · replace e := ifn (by first | exact h1 | omega | simpa [Ty.Ds_all, Ty.D, listAll] using h1) e; (conv => whnf)
      refine Runs.weak (ih_types_Twin_j0b _ _ e _ rfl) ?_
      repeat' first | exact wk.of_eq rfl | exact wk.pure rfl | exact wk.un _ | exact wk.hold _ _ _ | exact wk.holdG _ _ _ | exact rfl | exact trivial | refine ⟨?_, ?_⟩
  · intro f_types_Twin_l0b ih_types_Twin_l0b p r e a0 hp
    subst hp
    refine Runs.enter T_ok ?_; (conv => whnf)
    refine RunsL.runs (RunsL.weak (ih_types_Twin_l0b _ _ e _ rfl) ?_)
    repeat' first | exact wk.of_eq rfl | exact wk.pure rfl | exact wk.un _ | exact wk.hold _ _ _ | exact wk.holdG _ _ _ | exact rfl | exact trivial | refine ⟨?_, ?_⟩ | (refine wk.of_eq ?_; (conv => lhs; whnf); (simp [Ty.Ds_all, Ty.D, listAll] <;> (repeat' first | rfl | apply And.intro)); done) | (refine wk.pure ?_; (conv => lhs; whnf); (simp [Ty.Ds_all, Ty.D, listAll] <;> (repeat' first | rfl | apply And.intro)); done) | ((simp [Ty.Ds_all, Ty.D, listAll] <;> (repeat' first | rfl | apply And.intro)); done) | (simp [Ty.Ds_all, Ty.D, listAll]; omega)
  · intro f_types_Twin ih_types_Twin p r e a0 hp
    subst hp
    refine RunsL.of_awp (js := [5]) T_ok ?_; (conv => whnf)
    refine ⟨⟨fun h19 => ?_, fun h19 => ?_⟩⟩
    · replace e := ifp (by first | exact h19 | omega | simpa [Ty.Ds_all, Ty.D, listAll] using h19) e; (conv => whnf)
      obtain ⟨v20, qv20, e⟩ := bnd e
      obtain ⟨qv20k, qv20a, qv20b⟩ := geti_some qv20
      refine ⟨qv20k, _, qv20a, Ty.Ds_get qv20b, ?_⟩; (conv => whnf)
      refine ⟨Ty.Ds_fit _ rfl rfl, ?_⟩; (conv => whnf)
      refine draw_rule [] T_ok mixed types_Twin_pl8 (by decide +kernel) ?_; (conv => whnf)
      obtain ⟨v21, qv21, e⟩ := bnd e
      refine said_pure (ih_types_Twin _ _ qv21 _ rfl) rfl ⟨Keeps.refl _ _, ?_⟩; (conv => whnf)
      cases e
    · replace e := ifn (by first | exact h19 | omega | simpa [Ty.Ds_all, Ty.D, listAll] using h19) e; (conv => whnf)
      obtain rfl := sm e
      repeat' first | exact rfl | exact trivial | refine ⟨?_, ?_⟩
  · intro f_types_Twin_l0 ih_types_Twin_l0 p r e a0 v2 hp
    subst hp
    intro nv2 hlv2
    refine Runs.enter T_ok ?_; (conv => whnf)
    refine RunsL.runs (RunsL.weak ((ih_types_Twin_l0 _ _ e _ _ _ rfl) nv2 hlv2) ?_)
    repeat' first | exact wk.of_eq rfl | exact wk.pure rfl | exact wk.un _ | exact wk.hold _ _ _ | exact wk.holdG _ _ _ | exact rfl | exact trivial | refine ⟨?_, ?_⟩ | (refine wk.of_eq ?_; (conv => lhs; whnf); (simp [Ty.Ds_all, Ty.D, listAll, hlv2] <;> (repeat' first | rfl | apply And.intro)); done) | (refine wk.pure ?_; (conv => lhs; whnf); (simp [Ty.Ds_all, Ty.D, listAll, hlv2] <;> (repeat' first | rfl | apply And.intro)); done) | ((simp [Ty.Ds_all, Ty.D, listAll, hlv2] <;> (repeat' first | rfl | apply And.intro)); done) | (simp [Ty.Ds_all, Ty.D, listAll, hlv2]; omega)
  · intro f_types_Twin f_types_Twin_l0 ih_types_Twin ih_types_Twin_l0 p r e t18_0 a2_0 a0 hp
    subst hp
    intro nv2 hla2_0
    refine RunsL.of_awp (js := [5]) T_ok ?_; (conv => whnf)
    refine ⟨⟨fun h19 => ?_, fun h19 => ?_⟩⟩
    · replace e := ifp (by first | exact h19 | omega | simpa [Ty.Ds_all, Ty.D, listAll] using h19) e; (conv => whnf)
      obtain ⟨v20, qv20, e⟩ := bnd e
      obtain ⟨qv20k, qv20a, qv20b⟩ := geti_some qv20
      refine ⟨qv20k, _, qv20a, Ty.Ds_get qv20b, ?_⟩; (conv => whnf)
      refine ⟨Ty.Ds_fit _ rfl rfl, ?_⟩; (conv => whnf)
      refine draw_rule [] T_ok mixed types_Twin_pl8 (by decide +kernel) ?_; (conv => whnf)
      obtain ⟨v21, qv21, e⟩ := bnd e
      refine said_pure (ih_types_Twin _ _ qv21 _ rfl) rfl ⟨Keeps.refl _ _, ?_⟩; (conv => whnf)
      obtain ⟨g23, qg23, e⟩ := bnd e
      obtain ⟨k22, k22a⟩ : ∃ k22 : Nat, t18_0 = k22 := ⟨(t18_0).toNat, by have := wantb_some qg23; omega⟩
      refine ⟨k22, k22a, by have := wantb_some qg23; omega, ?_⟩; simp only [Nat.zero_add]; (conv => whnf)
      obtain ⟨v24, qv24, e⟩ := bnd e
      obtain ⟨qv24k, qv24a, qv24b, qv24c⟩ := seti_some qv24
      obtain rfl : k22 = qv24k := by omega
      have hlv24 : v24.length = nv2 := by rw [qv24c]; simp [hla2_0]
      refine .inl ⟨rfl, (by first | exact qv24b | simpa [Ty.Ds_all, Ty.D, listAll, hla2_0] using qv24b), Ty.Ds_fit _ rfl rfl, rfl, ?_⟩
      (conv => whnf)
      obtain ⟨v25, qv25, e⟩ := bnd e
      refine ⟨v25, sm qv25, ?_⟩; (conv => whnf)
      refine (RunsL.weak ((ih_types_Twin_l0 _ _ e _ _ _ rfl) nv2 hlv24) ?_)
      repeat' first | exact wk.of_eq rfl | exact wk.pure rfl | exact wk.un _ | exact wk.hold _ _ _ | exact wk.holdG _ _ _ | exact rfl | exact trivial | refine ⟨?_, ?_⟩ | (refine wk.of_eq ?_; (conv => lhs; whnf); (simp [Ty.Ds_all, Ty.D, listAll, qv24c, hlv24] <;> (repeat' first | rfl | apply And.intro)); done) | (refine wk.pure ?_; (conv => lhs; whnf); (simp [Ty.Ds_all, Ty.D, listAll, qv24c, hlv24] <;> (repeat' first | rfl | apply And.intro)); done) | ((simp [Ty.Ds_all, Ty.D, listAll, qv24c, hlv24] <;> (repeat' first | rfl | apply And.intro)); done) | (simp [Ty.Ds_all, Ty.D, listAll, qv24c, hlv24]; omega)
    · replace e := ifn (by first | exact h19 | omega | simpa [Ty.Ds_all, Ty.D, listAll] using h19) e; (conv => whnf)
      obtain rfl := sm e
      repeat' first | exact rfl | exact trivial | exact ⟨_, rfl, (by first | exact rfl | (simp [Ty.Ds_all, Ty.D, listAll, hla2_0] <;> (repeat' first | rfl | apply And.intro))), (by first | exact rfl | (simp [Ty.Ds_all, Ty.D, listAll, hla2_0] <;> (repeat' first | rfl | apply And.intro)))⟩ | refine ⟨?_, ?_⟩ | (simp [Ty.Ds_all, Ty.D, listAll, hla2_0] <;> (repeat' first | rfl | apply And.intro))
theorem P_types_Twin {a0 : Ty} {r : Ty} (e : types_Twin a0 = some r) : M_types_Twin a0 r := G_types_Twin.1 _ _ e _ rfl
theorem P_types_DestFun {a0 : Ty} {r : (Ty × Ty × Bool)} (e : types_DestFun a0 = some r) : Pure Try.prog 165 [(Ty.D a0)] (.tuple [(Ty.D r.1), (Ty.D r.2.1), (.bool r.2.2)]) := by
  unfold types_DestFun at e
  refine pure_of_awp (js := []) T_ok Try.func165 rfl (by decide +kernel) rfl ?_; (conv => whnf)
  refine brK.split (fun hb1 => ?_) (fun hb1 => ?_)
  · replace e := ifpb hb1 e; (conv => whnf)
    refine brK.tt hb1 ?_; (conv => whnf)
    refine brK.tt hb1 ?_; (conv => whnf)
    refine brK.tt hb1 ?_; (conv => whnf)
    refine draw_rule [] T_ok mixed types_DestFun_pl2 (by decide +kernel) ?_; (conv => whnf)
    obtain rfl := sm e
    repeat' first | exact rfl | exact trivial | refine ⟨?_, ?_⟩
  · replace e := ifnb hb1 e; (conv => whnf)
    refine brK.ff hb1 ?_; (conv => whnf)
    refine brK.ff hb1 ?_; (conv => whnf)
    refine ⟨⟨fun h2 => ?_, fun h2 => ?_⟩⟩
    · replace e := ifp h2 e; (conv => whnf)
      refine brK.ff hb1 ?_; (conv => whnf)
      refine draw_rule [] T_ok mixed types_DestFun_pl2 (by decide +kernel) ?_; (conv => whnf)
      obtain rfl := sm e
      repeat' first | exact rfl | exact trivial | refine ⟨?_, ?_⟩
    · replace e := ifn h2 e; (conv => whnf)
      refine brK.ff hb1 ?_; (conv => whnf)
      refine ⟨⟨fun h3 => ?_, fun h3 => ?_⟩⟩
      · replace e := ifp (by first | exact h3 | omega | simpa [Ty.Ds_all, Ty.D, listAll] using h3) e; (conv => whnf)
        refine draw_rule [] T_ok mixed types_DestFun_pl2 (by decide +kernel) ?_; (conv => whnf)
        obtain rfl := sm e
        repeat' first | exact rfl | exact trivial | refine ⟨?_, ?_⟩
      · replace e := ifn (by first | exact h3 | omega | simpa [Ty.Ds_all, Ty.D, listAll] using h3) e; (conv => whnf)
        refine draw_rule [] T_ok mixed types_DestFun_pl3 (by decide +kernel) ?_; (conv => whnf)
        obtain ⟨v4, qv4, e⟩ := bnd e
        obtain ⟨qv4k, qv4a, qv4b⟩ := geti_some qv4
        refine ⟨qv4k, _, qv4a, Ty.Ds_get qv4b, ?_⟩; (conv => whnf)
        refine ⟨Ty.Ds_fit _ rfl rfl, ?_⟩; (conv => whnf)
        obtain ⟨v5, qv5, e⟩ := bnd e
        obtain ⟨qv5k, qv5a, qv5b⟩ := geti_some qv5
        refine ⟨qv5k, _, qv5a, Ty.Ds_get qv5b, ?_⟩; (conv => whnf)
        refine ⟨Ty.Ds_fit _ rfl rfl, ?_⟩; (conv => whnf)
        obtain ⟨v6, qv6, e⟩ := bnd e
        refine said_pure (P_types_Twin qv6) rfl ⟨Keeps.refl _ _, ?_⟩; (conv => whnf)
        obtain ⟨v7, qv7, e⟩ := bnd e
        refine said_pure (P_types_Twin qv7) rfl ⟨Keeps.refl _ _, ?_⟩; (conv => whnf)
        obtain rfl := sm e
        repeat' first | exact rfl | exact trivial | refine ⟨?_, ?_⟩
theorem P_types_Fun {a0 : Ty} {a1 : Ty} {r : Ty} (e : types_Fun a0 a1 = some r) : Pure Try.prog 71 [(Ty.D a0), (Ty.D a1)] (Ty.D r) := by
  unfold types_Fun at e
  refine pure_of_awp (js := []) T_ok Try.func71 rfl (by decide +kernel) rfl ?_; (conv => whnf)
  refine draw_rule [] T_ok mixed types_Fun_pl1 (by decide +kernel) ?_; (conv => whnf)
  obtain ⟨v1, qv1, e⟩ := bnd e
  refine said_pure (P_types_Twin qv1) rfl ⟨Keeps.refl _ _, ?_⟩; (conv => whnf)
  obtain ⟨v2, qv2, e⟩ := bnd e
  refine said_pure (P_types_Twin qv2) rfl ⟨Keeps.refl _ _, ?_⟩; (conv => whnf)
  refine ⟨⟨⟨rfl, rfl⟩, ⟨⟨rfl, rfl⟩, trivial⟩⟩, ?_⟩; (conv => whnf)
  obtain rfl := sm e
  repeat' first | exact rfl | exact trivial | exact ⟨_, rfl, (by first | exact rfl | (simp [Ty.Ds_all, Ty.D, listAll] <;> (repeat' first | rfl | apply And.intro))), (by first | exact rfl | (simp [Ty.Ds_all, Ty.D, listAll] <;> (repeat' first | rfl | apply And.intro)))⟩ | refine ⟨?_, ?_⟩ | (simp [Ty.Ds_all, Ty.D, listAll] <;> (repeat' first | rfl | apply And.intro))
theorem P_equality_thin_j0 {a0 : Tm} {v7 : (Ty × Bool)} {r : (Ty × Bool)} (e : equality_thin_j0 a0 v7 = some r) : (∀ (v6 : (List Ty)), JoinAt T Try.prog Try.f151 Fx0 [15] [1, 1, 0, 1, 0, 1, 1, 1, 1, 1, 0, 1, 0, 0] (EP T Try.f151 (.tuple [(Ty.D r.1), (.bool r.2)])) [(2, .ptr 0 0 0), (4, .ptr 0 1 0), (6, .ptr 0 2 0), (11, .ptr 0 4 0), (12, .d (.bool v7.2))] [[.cells [.d (.int .u8 a0.kind), .d (.str a0.name), .d (.bool a0.ty.v), .d (.str a0.ty.name), .d (.slice 3 (Ty.Ds a0.ty.args)), .d (.int .i64 a0.index), .d (.slice 7 (Tm.Ds a0.sub))], .cells [.d (.bool false), .d (.str ByteArray.empty), .nil 3], .cells [.d (.bool a0.ty.v), .d (.str a0.ty.name), .d (.slice 3 (Ty.Ds a0.ty.args))], .grow 3 (Ty.Ds v6).length, .cells [.d (.bool v7.1.v), .d (.str v7.1.name), .d (.slice 3 (Ty.Ds v7.1.args))]]]) ∧ (JoinAt T Try.prog Try.f151 Fx0 [15] [1, 1, 0, 1, 0, 1, 1, 1, 1, 1, 0, 1, 0, 0] (EP T Try.f151 (.tuple [(Ty.D r.1), (.bool r.2)])) [(2, .ptr 0 0 0), (4, .ptr 0 1 0), (6, .ptr 0 2 0), (11, .ptr 0 3 0), (12, .d (.bool v7.2))] [[.cells [.d (.int .u8 a0.kind), .d (.str a0.name), .d (.bool a0.ty.v), .d (.str a0.ty.name), .d (.slice 3 (Ty.Ds a0.ty.args)), .d (.int .i64 a0.index), .d (.slice 7 (Tm.Ds a0.sub))], .cells [.d (.bool false), .d (.str ByteArray.empty), .nil 3], .cells [.d (.bool a0.ty.v), .d (.str a0.ty.name), .d (.slice 3 (Ty.Ds a0.ty.args))], .cells [.d (.bool v7.1.v), .d (.str v7.1.name), .d (.slice 3 (Ty.Ds v7.1.args))]]]) := by
  unfold equality_thin_j0 at e
  refine ⟨?_, ?_⟩
  · intro v6
    refine Runs.enter T_ok ?_; (conv => whnf)
    refine brK.nsplit (fun hb8 => ?_) (fun hb8 => ?_)
    · replace e := ifpb hb8 e; (conv => whnf)
      obtain ⟨v9, qv9, e⟩ := bnd e
      refine said_pure (P_types_Fun qv9) rfl ?_; (conv => whnf)
      refine draw_rule [] T_ok mixed equality_thin_pl18 (by decide +kernel) ?_; (conv => whnf)
      obtain ⟨v10, qv10, e⟩ := bnd e
      refine said_pure (P_types_Size qv10) rfl ⟨Keeps.refl _ _, ?_⟩; (conv => whnf)
      refine test.dec ?_; (conv => whnf)
      obtain rfl := sm e
      repeat' first | exact rfl | exact trivial | refine ⟨?_, ?_⟩
    · replace e := ifnb hb8 e; (conv => whnf)
      obtain rfl := sm e
      repeat' first | exact rfl | exact trivial | refine ⟨?_, ?_⟩
  · refine Runs.enter T_ok ?_; (conv => whnf)
    refine brK.nsplit (fun hb8 => ?_) (fun hb8 => ?_)
    · replace e := ifpb hb8 e; (conv => whnf)
      obtain ⟨v9, qv9, e⟩ := bnd e
      refine said_pure (P_types_Fun qv9) rfl ?_; (conv => whnf)
      refine draw_rule [] T_ok mixed equality_thin_pl18 (by decide +kernel) ?_; (conv => whnf)
      obtain ⟨v10, qv10, e⟩ := bnd e
      refine said_pure (P_types_Size qv10) rfl ⟨Keeps.refl _ _, ?_⟩; (conv => whnf)
      refine test.dec ?_; (conv => whnf)
      obtain rfl := sm e
      repeat' first | exact rfl | exact trivial | refine ⟨?_, ?_⟩
    · replace e := ifnb hb8 e; (conv => whnf)
      obtain rfl := sm e
      repeat' first | exact rfl | exact trivial | refine ⟨?_, ?_⟩
def M_equality_thin (a0 : Tm) (a1 : (List Ty)) (r : (Ty × Bool)) : Prop := Pure Try.prog 151 [(Tm.D a0), (.slice 3 (Ty.Ds a1))] (.tuple [(Ty.D r.1), (.bool r.2)])
theorem G_equality_thin : (∀ p r, equality_thin' p = some r → ∀ a0 a1, (a0, a1) = p → M_equality_thin a0 a1 r) := by
  refine equality_thin'.partial_correctness (fun (p : (Tm × (List Ty))) (r : (Ty × Bool)) => ∀ (a0 : Tm) (a1 : (List Ty)), (a0, a1) = p → M_equality_thin a0 a1 r) ?_
  · intro f_equality_thin ih_equality_thin p r e a0 a1 hp
    subst hp
    refine pure_of_awp (js := [15]) T_ok Try.func151 rfl (by decide +kernel) rfl ?_; (conv => whnf)
    refine ⟨⟨fun h1 => ?_, fun h1 => ?_⟩⟩
    · replace e := ifp h1 e; (conv => whnf)
      obtain ⟨v2, qv2, e⟩ := bnd e
      refine ⟨v2, (by have := sm qv2; first | exact this | simpa [Tm.Ds_all, Ty.Ds_all, Tm.D, Ty.D, listAll] using this), ?_⟩; (conv => whnf)
      obtain ⟨v3, qv3, e⟩ := bnd e
      refine ⟨v3, sm qv3, ?_⟩; (conv => whnf)
      obtain ⟨v4, qv4, e⟩ := bnd e
      obtain ⟨qv4k, qv4a, qv4b⟩ := geti_some qv4
      refine ⟨qv4k, _, qv4a, Ty.Ds_get qv4b, ?_⟩; (conv => whnf)
      refine ⟨Ty.Ds_fit _ rfl rfl, ?_⟩; (conv => whnf)
      refine draw_rule [] T_ok mixed equality_thin_pl18 (by decide +kernel) ?_; (conv => whnf)
      obtain ⟨v5, qv5, e⟩ := bnd e
      refine said_pure (P_types_Size qv5) rfl ⟨Keeps.refl _ _, ?_⟩; (conv => whnf)
      refine test.dec ?_; (conv => whnf)
      obtain rfl := sm e
      repeat' first | exact rfl | exact trivial | refine ⟨?_, ?_⟩
    · replace e := ifn h1 e; (conv => whnf)
      refine ⟨⟨fun h2 => ?_, fun h2 => ?_⟩⟩
      · replace e := ifp h2 e; (conv => whnf)
        obtain ⟨v3, qv3, e⟩ := bnd e
        obtain ⟨qv3k, qv3a, qv3b⟩ := geti_some qv3
        refine ⟨qv3k, _, qv3a, Tm.Ds_get qv3b, ?_⟩; (conv => whnf)
        refine ⟨Tm.Ds_fit _ rfl rfl, ?_⟩; (conv => whnf)
        obtain ⟨v4, qv4, e⟩ := bnd e
        refine said_pure (ih_equality_thin _ _ qv4 _ _ rfl) rfl ?_; (conv => whnf)
        refine brK.nsplit (fun hb5 => ?_) (fun hb5 => ?_)
        · replace e := ifpb hb5 e; (conv => whnf)
          obtain ⟨v6, qv6, e⟩ := bnd e
          obtain ⟨qv6k, qv6a, qv6b⟩ := geti_some qv6
          refine ⟨qv6k, _, qv6a, Tm.Ds_get qv6b, ?_⟩; (conv => whnf)
          refine ⟨Tm.Ds_fit _ rfl rfl, ?_⟩; (conv => whnf)
          obtain ⟨v7, qv7, e⟩ := bnd e
          refine said_pure (ih_equality_thin _ _ qv7 _ _ rfl) rfl ?_; (conv => whnf)
          refine brK.nsplit (fun hb8 => ?_) (fun hb8 => ?_)
          · replace e := ifpb hb8 e; (conv => whnf)
            obtain ⟨v9, qv9, e⟩ := bnd e
            refine said_pure (P_types_DestFun qv9) rfl ?_; (conv => whnf)
            refine draw_rule [] T_ok mixed equality_thin_pl18 (by decide +kernel) ?_; (conv => whnf)
            obtain ⟨v10, qv10, e⟩ := bnd e
            refine said_pure (P_types_Size qv10) rfl ⟨Keeps.refl _ _, ?_⟩; (conv => whnf)
            refine test.dec ?_; (conv => whnf)
            obtain rfl := sm e
            repeat' first | exact rfl | exact trivial | refine ⟨?_, ?_⟩
          · replace e := ifnb hb8 e; (conv => whnf)
            obtain rfl := sm e
            repeat' first | exact rfl | exact trivial | refine ⟨?_, ?_⟩
        · replace e := ifnb hb5 e; (conv => whnf)
          obtain rfl := sm e
          repeat' first | exact rfl | exact trivial | refine ⟨?_, ?_⟩
      · replace e := ifn h2 e; (conv => whnf)
        refine ⟨⟨fun h3 => ?_, fun h3 => ?_⟩⟩
        · replace e := ifp h3 e; (conv => whnf)
          refine draw_rule [] T_ok mixed equality_thin_pl14 (by decide +kernel) ?_; (conv => whnf)
          obtain ⟨v4, qv4, e⟩ := bnd e
          obtain ⟨qv4k, qv4a, qv4b⟩ := geti_some qv4
          refine ⟨qv4k, _, qv4a, Tm.Ds_get qv4b, ?_⟩; (conv => whnf)
          refine ⟨Tm.Ds_fit _ rfl rfl, ?_⟩; (conv => whnf)
          obtain ⟨v5, qv5, e⟩ := bnd e
          obtain ⟨qv5l, qv5h, qv5a, qv5b, qv5c, qv5d, qv5e⟩ := cut_some qv5
          refine ⟨qv5l, qv5h, (by show _ = _; omega), (by first | exact congrArg (fun z => AV.d (D.int .i64 z)) qv5b | exact congrArg (fun z => AV.d (D.int .i64 z)) (by simpa [Tm.Ds_all, Ty.Ds_all, Tm.D, Ty.D, listAll] using qv5b)), qv5c, (by first | exact qv5d | simpa [Tm.Ds_all, Ty.Ds_all, Tm.D, Ty.D, listAll] using qv5d), (congrArg (fun z => AV.d (D.int .i64 z)) qv5b), (congrArg (fun z => some (AV.d (D.int .i64 z))) qv5b), ?_⟩; rw [Ty.Ds_cut, ← qv5e]; (conv => whnf)
          refine ⟨⟨⟨rfl, rfl⟩, trivial⟩, ?_⟩; (conv => whnf)
          obtain ⟨v6, qv6, e⟩ := bnd e
          obtain ⟨v7, qv7, e⟩ := bnd e
          refine ⟨?_, ?_⟩
          · (conv => whnf)
            obtain ⟨qv6l, qv6e⟩ := app_some qv6
            refine ⟨(by first | exact qv6l | simpa [Tm.Ds_all, Ty.Ds_all, Tm.D, Ty.D, listAll] using qv6l), rfl, fun h => (by first | cases h | simp at h), fun _ => ?_⟩; (conv => whnf)
            refine ⟨?_, ?_⟩
            · (conv => whnf)
              first | (refine said_pure (ih_equality_thin _ _ qv7 _ _ rfl) rfl ⟨Keeps.refl _ _, ?_⟩) | (refine said_pure2 (ih_equality_thin _ _ qv7 _ _ rfl) rfl (by simp [Tm.Ds_all, Ty.Ds_all, Tm.D, Ty.D, listAll, qv6e] <;> (repeat' first | rfl | apply And.intro)) ⟨Keeps.refl _ _, ?_⟩)
              (conv => whnf)
              refine Runs.weak ((P_equality_thin_j0 e).1 v6) ?_
              repeat' first | exact wk.of_eq rfl | exact wk.pure rfl | exact wk.un _ | exact wk.hold _ _ _ | exact wk.holdG _ _ _ | exact rfl | exact trivial | refine ⟨?_, ?_⟩ | (refine wk.of_eq ?_; (conv => lhs; whnf); (simp [Tm.Ds_all, Ty.Ds_all, Tm.D, Ty.D, listAll, qv6e] <;> (repeat' first | rfl | apply And.intro)); done) | (refine wk.pure ?_; (conv => lhs; whnf); (simp [Tm.Ds_all, Ty.Ds_all, Tm.D, Ty.D, listAll, qv6e] <;> (repeat' first | rfl | apply And.intro)); done) | ((simp [Tm.Ds_all, Ty.Ds_all, Tm.D, Ty.D, listAll, qv6e] <;> (repeat' first | rfl | apply And.intro)); done) | (simp [Tm.Ds_all, Ty.Ds_all, Tm.D, Ty.D, listAll, qv6e]; omega)
            · (conv => whnf)
              first | (refine said_pure (ih_equality_thin _ _ qv7 _ _ rfl) rfl ⟨Keeps.refl _ _, ?_⟩) | (refine said_pure2 (ih_equality_thin _ _ qv7 _ _ rfl) rfl (by simp [Tm.Ds_all, Ty.Ds_all, Tm.D, Ty.D, listAll, qv6e] <;> (repeat' first | rfl | apply And.intro)) ⟨Keeps.refl _ _, ?_⟩)
              (conv => whnf)
              refine Runs.weak ((P_equality_thin_j0 e).1 v6) ?_
              repeat' first | exact wk.of_eq rfl | exact wk.pure rfl | exact wk.un _ | exact wk.hold _ _ _ | exact wk.holdG _ _ _ | exact rfl | exact trivial | refine ⟨?_, ?_⟩ | (refine wk.of_eq ?_; (conv => lhs; whnf); (simp [Tm.Ds_all, Ty.Ds_all, Tm.D, Ty.D, listAll, qv6e] <;> (repeat' first | rfl | apply And.intro)); done) | (refine wk.pure ?_; (conv => lhs; whnf); (simp [Tm.Ds_all, Ty.Ds_all, Tm.D, Ty.D, listAll, qv6e] <;> (repeat' first | rfl | apply And.intro)); done) | ((simp [Tm.Ds_all, Ty.Ds_all, Tm.D, Ty.D, listAll, qv6e] <;> (repeat' first | rfl | apply And.intro)); done) | (simp [Tm.Ds_all, Ty.Ds_all, Tm.D, Ty.D, listAll, qv6e]; omega)
          · (conv => whnf)
            obtain ⟨qv6l, qv6e⟩ := app_some qv6
            refine ⟨(by first | exact qv6l | simpa [Tm.Ds_all, Ty.Ds_all, Tm.D, Ty.D, listAll] using qv6l), rfl, fun h => (by first | cases h | simp at h), fun _ => ?_⟩; (conv => whnf)
            first | (refine said_pure (ih_equality_thin _ _ qv7 _ _ rfl) rfl ⟨Keeps.refl _ _, ?_⟩) | (refine said_pure2 (ih_equality_thin _ _ qv7 _ _ rfl) rfl (by simp [Tm.Ds_all, Ty.Ds_all, Tm.D, Ty.D, listAll, qv6e] <;> (repeat' first | rfl | apply And.intro)) ⟨Keeps.refl _ _, ?_⟩)
            (conv => whnf)
            refine Runs.weak (P_equality_thin_j0 e).2 ?_
            repeat' first | exact wk.of_eq rfl | exact wk.pure rfl | exact wk.un _ | exact wk.hold _ _ _ | exact wk.holdG _ _ _ | exact rfl | exact trivial | refine ⟨?_, ?_⟩
        · replace e := ifn h3 e; (conv => whnf)
          refine draw_rule [] T_ok mixed equality_thin_pl18 (by decide +kernel) ?_; (conv => whnf)
          obtain ⟨v4, qv4, e⟩ := bnd e
          refine said_pure (P_types_Size qv4) rfl ⟨Keeps.refl _ _, ?_⟩; (conv => whnf)
          refine test.dec ?_; (conv => whnf)
          obtain rfl := sm e
          repeat' first | exact rfl | exact trivial | refine ⟨?_, ?_⟩
theorem P_equality_thin {a0 : Tm} {a1 : (List Ty)} {r : (Ty × Bool)} (e : equality_thin a0 a1 = some r) : M_equality_thin a0 a1 r := G_equality_thin _ _ e _ _ rfl
theorem P_equality_fits {a0 : Tm} {r : Bool} (e : equality_fits a0 = some r) : Pure Try.prog 133 [(Tm.D a0)] (.bool r) := by
  unfold equality_fits at e
  refine pure_of_awp (js := []) T_ok Try.func133 rfl (by decide +kernel) rfl ?_; (conv => whnf)
  obtain ⟨v1, qv1, e⟩ := bnd e
  refine said_pure (P_terms_Size qv1) rfl ?_; (conv => whnf)
  refine ⟨⟨fun h2 => ?_, fun h2 => ?_⟩⟩
  · replace e := ifp h2 e; (conv => whnf)
    obtain rfl := sm e
    repeat' first | exact rfl | exact trivial | refine ⟨?_, ?_⟩
  · replace e := ifn h2 e; (conv => whnf)
    obtain ⟨v3, qv3, e⟩ := bnd e
    refine said_pure (P_equality_depth qv3) rfl ?_; (conv => whnf)
    refine ⟨⟨fun h4 => ?_, fun h4 => ?_⟩⟩
    · replace e := ifp h4 e; (conv => whnf)
      obtain rfl := sm e
      repeat' first | exact rfl | exact trivial | refine ⟨?_, ?_⟩
    · replace e := ifn h4 e; (conv => whnf)
      obtain ⟨v5, qv5, e⟩ := bnd e
      refine said_pure (P_equality_thin qv5) rfl ?_; (conv => whnf)
      obtain rfl := sm e
      repeat' first | exact rfl | exact trivial | refine ⟨?_, ?_⟩
theorem P_equality_CheckTerm {a0 : Tm} {r : Int} (e : equality_CheckTerm a0 = some r) : Pure Try.prog 91 [(Tm.D a0)] (.int .i64 r) := by
  unfold equality_CheckTerm at e
  refine pure_of_awp (js := []) T_ok Try.func91 rfl (by decide +kernel) rfl ?_; (conv => whnf)
  obtain ⟨v1, qv1, e⟩ := bnd e
  refine said_pure (P_terms_Check qv1) rfl ?_; (conv => whnf)
  refine ⟨⟨fun h2 => ?_, fun h2 => ?_⟩⟩
  · replace e := ifp h2 e; (conv => whnf)
    obtain rfl := sm e
    repeat' first | exact rfl | exact trivial | refine ⟨?_, ?_⟩
  · replace e := ifn h2 e; (conv => whnf)
    obtain ⟨v3, qv3, e⟩ := bnd e
    refine said_pure (P_equality_fits qv3) rfl ?_; (conv => whnf)
    refine brK.nsplit (fun hb4 => ?_) (fun hb4 => ?_)
    · replace e := ifpb hb4 e; (conv => whnf)
      obtain rfl := sm e
      repeat' first | exact rfl | exact trivial | refine ⟨?_, ?_⟩
    · replace e := ifnb hb4 e; (conv => whnf)
      obtain rfl := sm e
      repeat' first | exact rfl | exact trivial | refine ⟨?_, ?_⟩
def M_tactic_given__equality_CheckTerm (a0 : ATactic) (a1 : (Option (List (Int × TacticForm)))) (r : Int) : Prop := Pure Try.prog 90 [(ATactic.D a0), (mapO (D.int .u8) TacticForm.D a1), (.func (.func 91) [] [])] (.int .i64 r)
def M_tactic_given__equality_CheckTerm_j0 (a0 : ATactic) (a1 : (Option (List (Int × TacticForm)))) (r : Int) : Prop := JoinAt T Try.prog Try.f90 Fx0 [5] [1, 1, 0, 0] (EP T Try.f90 (.int .i64 r)) [(1, .d (mapO (D.int .u8) TacticForm.D a1)), (2, .d (.func (.func 91) [] [])), (3, .ptr 0 0 0)] [[.cells [.d (.int .u8 a0.kind), .d (.int .i64 a0.at_), .d (.int .i64 a0.to_), .d (.int .u8 a0.term.kind), .d (.str a0.term.name), .d (.bool a0.term.ty.v), .d (.str a0.term.ty.name), .d (.slice 3 (Ty.Ds a0.term.ty.args)), .d (.int .i64 a0.term.index), .d (.slice 7 (Tm.Ds a0.term.sub)), .d (.slice 11 (ATactic.Ds a0.kids))]]]
def M_tactic_given__equality_CheckTerm_l0 (rest0 : (List ATactic)) (a1 : (Option (List (Int × TacticForm)))) (r : Int) : Prop := ∀ (a0 : ATactic) (k0 : Nat) (hd0 : rest0 = a0.kids.drop k0), LoopAt T Try.prog Try.f90 Fx0 [5] [1, 1, 0, 1, 0] (EP T Try.f90 (.int .i64 r)) [(1, .d (mapO (D.int .u8) TacticForm.D a1)), (2, .d (.func (.func 91) [] [])), (24, .d (.slice 11 (ATactic.Ds a0.kids))), (25, .d (.int .i64 ((ATactic.Ds a0.kids).length : Int))), (26, .d (.int .i64 (k0 : Int)))] [[]]
theorem G_tactic_given__equality_CheckTerm : (∀ p r, tactic_given__equality_CheckTerm' p = some r → ∀ a0 a1, (a0, a1) = p → M_tactic_given__equality_CheckTerm a0 a1 r) ∧
    (∀ p r, tactic_given__equality_CheckTerm_j0' p = some r → ∀ a0 a1, (a0, a1) = p → M_tactic_given__equality_CheckTerm_j0 a0 a1 r) ∧
    (∀ p r, tactic_given__equality_CheckTerm_l0' p = some r → ∀ rest0 a1, (rest0, a1) = p → M_tactic_given__equality_CheckTerm_l0 rest0 a1 r) := by
  refine tactic_given__equality_CheckTerm'.mutual_partial_correctness (fun (p : (ATactic × (Option (List (Int × TacticForm))))) (r : Int) => ∀ (a0 : ATactic) (a1 : (Option (List (Int × TacticForm)))), (a0, a1) = p → M_tactic_given__equality_CheckTerm a0 a1 r) (fun (p : (ATactic × (Option (List (Int × TacticForm))))) (r : Int) => ∀ (a0 : ATactic) (a1 : (Option (List (Int × TacticForm)))), (a0, a1) = p → M_tactic_given__equality_CheckTerm_j0 a0 a1 r) (fun (p : ((List ATactic) × (Option (List (Int × TacticForm))))) (r : Int) => ∀ (rest0 : (List ATactic)) (a1 : (Option (List (Int × TacticForm)))), (rest0, a1) = p → M_tactic_given__equality_CheckTerm_l0 rest0 a1 r) ?_ ?_ ?_
  · intro f_tactic_given__equality_CheckTerm_j0 ih_tactic_given__equality_CheckTerm_j0 p r e a0 a1 hp
    subst hp
    refine pure_of_awp (js := [5]) T_ok Try.func90 rfl (by decide +kernel) rfl ?_; (conv => whnf)
    refine mlookO_of KF_5 (fun v1 hv1 => ?_) (fun hv1 => ?_)
    · (first | rw [hv1] at e | (dsimp only at e; rw [hv1] at e)); (conv => whnf)
      refine brK.split (fun hb2 => ?_) (fun hb2 => ?_)
      · replace e := ifpb hb2 e; (conv => whnf)
        obtain ⟨v3, qv3, e⟩ := bnd e
        refine said_pure (P_equality_CheckTerm qv3) rfl ?_; (conv => whnf)
        refine ⟨⟨fun h4 => ?_, fun h4 => ?_⟩⟩
        · replace e := ifp h4 e; (conv => whnf)
          obtain rfl := sm e
          repeat' first | exact rfl | exact trivial | refine ⟨?_, ?_⟩
        · replace e := ifn h4 e; (conv => whnf)
          refine Runs.weak (ih_tactic_given__equality_CheckTerm_j0 _ _ e _ _ rfl) ?_
          repeat' first | exact wk.of_eq rfl | exact wk.pure rfl | exact wk.un _ | exact wk.hold _ _ _ | exact wk.holdG _ _ _ | exact rfl | exact trivial | refine ⟨?_, ?_⟩
      · replace e := ifnb hb2 e; (conv => whnf)
        refine Runs.weak (ih_tactic_given__equality_CheckTerm_j0 _ _ e _ _ rfl) ?_
        repeat' first | exact wk.of_eq rfl | exact wk.pure rfl | exact wk.un _ | exact wk.hold _ _ _ | exact wk.holdG _ _ _ | exact rfl | exact trivial | refine ⟨?_, ?_⟩
    · (first | rw [hv1] at e | (dsimp only at e; rw [hv1] at e)); (conv => whnf)
      refine Runs.weak (ih_tactic_given__equality_CheckTerm_j0 _ _ e _ _ rfl) ?_
      repeat' first | exact wk.of_eq rfl | exact wk.pure rfl | exact wk.un _ | exact wk.hold _ _ _ | exact wk.holdG _ _ _ | exact rfl | exact trivial | refine ⟨?_, ?_⟩
  · intro f_tactic_given__equality_CheckTerm_l0 ih_tactic_given__equality_CheckTerm_l0 p r e a0 a1 hp
    subst hp
    refine Runs.enter T_ok ?_; (conv => whnf)
    refine RunsL.runs (RunsL.weak ((ih_tactic_given__equality_CheckTerm_l0 _ _ e _ _ rfl) a0 0 (by simp)) ?_)
    repeat' first | exact wk.of_eq rfl | exact wk.pure rfl | exact wk.un _ | exact wk.hold _ _ _ | exact wk.holdG _ _ _ | exact rfl | exact trivial | refine ⟨?_, ?_⟩ | (refine wk.of_eq ?_; (conv => lhs; whnf); (simp [ATactic.Ds_all, Tm.Ds_all, Ty.Ds_all, ATactic.D, Tm.D, Ty.D, listAll] <;> (repeat' first | rfl | apply And.intro)); done) | (refine wk.pure ?_; (conv => lhs; whnf); (simp [ATactic.Ds_all, Tm.Ds_all, Ty.Ds_all, ATactic.D, Tm.D, Ty.D, listAll] <;> (repeat' first | rfl | apply And.intro)); done) | ((simp [ATactic.Ds_all, Tm.Ds_all, Ty.Ds_all, ATactic.D, Tm.D, Ty.D, listAll] <;> (repeat' first | rfl | apply And.intro)); done) | (simp [ATactic.Ds_all, Tm.Ds_all, Ty.Ds_all, ATactic.D, Tm.D, Ty.D, listAll]; omega)
  · intro f_tactic_given__equality_CheckTerm f_tactic_given__equality_CheckTerm_l0 ih_tactic_given__equality_CheckTerm ih_tactic_given__equality_CheckTerm_l0 p r e rest0 a1 hp
    subst hp
    intro a0 k0 hd0
    refine RunsL.len_tmp 24 rfl fun hlenk0 => ?_
    refine RunsL.of_awp (js := [5]) T_ok ?_; (conv => whnf)
    have hls := ATactic.Ds_len a0.kids
    cases rest0 with
    | nil =>
      have hk := drop_nil hd0
      refine ⟨⟨fun h => absurd h (by omega), fun _ => ?_⟩⟩; (conv => whnf)
      obtain rfl := sm e
      repeat' first | exact rfl | exact trivial | refine ⟨?_, ?_⟩
    | cons v27 rest0 =>
      obtain ⟨hxv27, hd0, hltv27⟩ := drop_head hd0
      refine ⟨⟨fun _ => ?_, fun h => absurd (by omega) h⟩⟩; (conv => whnf)
      refine ⟨k0, _, rfl, ATactic.Ds_get hxv27, ?_⟩; (conv => whnf)
      refine ⟨ATactic.Ds_fit _ rfl rfl, ?_⟩; (conv => whnf)
      obtain ⟨v28, qv28, e⟩ := bnd e
      refine said_pure (ih_tactic_given__equality_CheckTerm _ _ qv28 _ _ rfl) rfl ?_; (conv => whnf)
      refine ⟨⟨fun h29 => ?_, fun h29 => ?_⟩⟩
      · replace e := ifp h29 e; (conv => whnf)
        obtain rfl := sm e
        repeat' first | exact rfl | exact trivial | refine ⟨?_, ?_⟩
      · replace e := ifn h29 e; (conv => whnf)
        refine ⟨((k0 + 1 : Nat) : Int), wrap64e (by omega) (by omega) (by omega), ?_⟩; (conv => whnf)
        refine (RunsL.weak ((ih_tactic_given__equality_CheckTerm_l0 _ _ e _ _ rfl) a0 (k0 + 1) hd0) ?_)
        repeat' first | exact wk.of_eq rfl | exact wk.pure rfl | exact wk.un _ | exact wk.hold _ _ _ | exact wk.holdG _ _ _ | exact rfl | exact trivial | refine ⟨?_, ?_⟩ | (refine wk.of_eq ?_; (conv => lhs; whnf); (simp [ATactic.Ds_all, Tm.Ds_all, Ty.Ds_all, ATactic.D, Tm.D, Ty.D, listAll] <;> (repeat' first | rfl | apply And.intro)); done) | (refine wk.pure ?_; (conv => lhs; whnf); (simp [ATactic.Ds_all, Tm.Ds_all, Ty.Ds_all, ATactic.D, Tm.D, Ty.D, listAll] <;> (repeat' first | rfl | apply And.intro)); done) | ((simp [ATactic.Ds_all, Tm.Ds_all, Ty.Ds_all, ATactic.D, Tm.D, Ty.D, listAll] <;> (repeat' first | rfl | apply And.intro)); done) | (simp [ATactic.Ds_all, Tm.Ds_all, Ty.Ds_all, ATactic.D, Tm.D, Ty.D, listAll]; omega)
theorem P_tactic_given__equality_CheckTerm {a0 : ATactic} {a1 : (Option (List (Int × TacticForm)))} {r : Int} (e : tactic_given__equality_CheckTerm a0 a1 = some r) : M_tactic_given__equality_CheckTerm a0 a1 r := G_tactic_given__equality_CheckTerm.1 _ _ e _ _ rfl
theorem P_tactic_Check {a0 : ATactic} {r : Int} (e : tactic_Check a0 = some r) : Pure Try.prog 41 [(ATactic.D a0)] (.int .i64 r) := by
  unfold tactic_Check at e
  refine pure_of_awp (js := []) T_ok Try.func41 rfl (by decide +kernel) rfl ?_; (conv => whnf)
  obtain ⟨v1, qv1, e⟩ := bnd e
  refine said_pure (P_tactic_forms qv1) rfl ?_; (conv => whnf)
  obtain ⟨v2, qv2, e⟩ := bnd e
  refine said_pure (P_tactic_formed qv2) rfl ?_; (conv => whnf)
  refine brK.nsplit (fun hb3 => ?_) (fun hb3 => ?_)
  · replace e := ifpb hb3 e; (conv => whnf)
    obtain ⟨v4, qv4, e⟩ := bnd e
    refine said_pure (P_tactic_given__equality_CheckTerm qv4) rfl ?_; (conv => whnf)
    obtain rfl := sm e
    repeat' first | exact rfl | exact trivial | refine ⟨?_, ?_⟩
  · replace e := ifnb hb3 e; (conv => whnf)
    obtain rfl := sm e
    repeat' first | exact rfl | exact trivial | refine ⟨?_, ?_⟩
def M_terms_Twin (a0 : Tm) (r : Tm) : Prop := Pure Try.prog 92 [(Tm.D a0)] (Tm.D r)
def M_terms_Twin_j0 (a0 : Tm) (v1 : Ty) (v3 : (List Tm)) (r : Tm) : Prop := ∀ (nv3 : Nat) (hlv3 : v3.length = nv3), JoinAt T Try.prog Try.f92 Fx0 [5] [1, 1, 1, 1, 0, 0] (EP T Try.f92 (Tm.D r)) [(1, .ptr 0 0 0), (2, .ptr 0 1 0), (3, .d (.slice 7 (Tm.Ds a0.sub)))] [[.cells [.d (.int .u8 a0.kind), .d (.str a0.name), .d (.bool v1.v), .d (.str v1.name), .d (.slice 3 (Ty.Ds v1.args)), .d (.int .i64 a0.index), .arr 0 2 0 nv3 7], .cells [.d (.int .u8 0), .d (.str ByteArray.empty), .d (.bool false), .d (.str ByteArray.empty), .nil 3, .d (.int .i64 0), .nil 7], .arr 7 (Tm.Ds v3)]]
def M_terms_Twin_l0 (t22_0 : Int) (a2_0 : (List Tm)) (a0 : Tm) (v1 : Ty) (r : Tm) : Prop := ∀ (nv3 : Nat) (hla2_0 : a2_0.length = nv3), LoopAt T Try.prog Try.f92 Fx0 [5] [1, 1, 1, 1, 0, 1, 0] (EP T Try.f92 (Tm.D r)) [(1, .ptr 0 0 0), (2, .ptr 0 1 0), (20, .d (.slice 7 (Tm.Ds a0.sub))), (21, .d (.int .i64 ((Tm.Ds a0.sub).length : Int))), (22, .d (.int .i64 t22_0))] [[.cells [.d (.int .u8 a0.kind), .d (.str a0.name), .d (.bool v1.v), .d (.str v1.name), .d (.slice 3 (Ty.Ds v1.args)), .d (.int .i64 a0.index), .arr 0 2 0 nv3 7], .cells [.d (.int .u8 0), .d (.str ByteArray.empty), .d (.bool false), .d (.str ByteArray.empty), .nil 3, .d (.int .i64 0), .nil 7], .arr 7 (Tm.Ds a2_0)]]
def M_terms_Twin_j0b (a0 : Tm) (v1 : Ty) (r : Tm) : Prop := JoinAt T Try.prog Try.f92 Fx0 [5] [1, 1, 1, 1, 0, 0] (EP T Try.f92 (Tm.D r)) [(1, .ptr 0 0 0), (2, .ptr 0 1 0), (3, .d (.slice 7 (Tm.Ds a0.sub)))] [[.cells [.d (.int .u8 a0.kind), .d (.str a0.name), .d (.bool v1.v), .d (.str v1.name), .d (.slice 3 (Ty.Ds v1.args)), .d (.int .i64 a0.index), .nil 7], .cells [.d (.int .u8 0), .d (.str ByteArray.empty), .d (.bool false), .d (.str ByteArray.empty), .nil 3, .d (.int .i64 0), .nil 7]]]
def M_terms_Twin_l0b (a0 : Tm) (v1 : Ty) (r : Tm) : Prop := LoopAt T Try.prog Try.f92 Fx0 [5] [1, 1, 1, 1, 0, 1, 0] (EP T Try.f92 (Tm.D r)) [(1, .ptr 0 0 0), (2, .ptr 0 1 0), (20, .d (.slice 7 (Tm.Ds a0.sub))), (21, .d (.int .i64 ((Tm.Ds a0.sub).length : Int))), (22, .d (.int .i64 0))] [[.cells [.d (.int .u8 a0.kind), .d (.str a0.name), .d (.bool v1.v), .d (.str v1.name), .d (.slice 3 (Ty.Ds v1.args)), .d (.int .i64 a0.index), .nil 7], .cells [.d (.int .u8 0), .d (.str ByteArray.empty), .d (.bool false), .d (.str ByteArray.empty), .nil 3, .d (.int .i64 0), .nil 7]]]
theorem G_terms_Twin : (∀ p r, terms_Twin' p = some r → ∀ a0, a0 = p → M_terms_Twin a0 r) ∧
    (∀ p r, terms_Twin_j0b' p = some r → ∀ a0 v1, (a0, v1) = p → M_terms_Twin_j0b a0 v1 r) ∧
    (∀ p r, terms_Twin_l0b' p = some r → ∀ a0 v1, (a0, v1) = p → M_terms_Twin_l0b a0 v1 r) ∧
    (∀ p r, terms_Twin_j0' p = some r → ∀ a0 v1 v3, (a0, v1, v3) = p → M_terms_Twin_j0 a0 v1 v3 r) ∧
    (∀ p r, terms_Twin_l0' p = some r → ∀ t22_0 a2_0 a0 v1, (t22_0, a2_0, a0, v1) = p → M_terms_Twin_l0 t22_0 a2_0 a0 v1 r) := by
  refine terms_Twin'.mutual_partial_correctness (fun (p : Tm) (r : Tm) => ∀ (a0 : Tm), a0 = p → M_terms_Twin a0 r) (fun (p : (Tm × Ty)) (r : Tm) => ∀ (a0 : Tm) (v1 : Ty), (a0, v1) = p → M_terms_Twin_j0b a0 v1 r) (fun (p : (Tm × Ty)) (r : Tm) => ∀ (a0 : Tm) (v1 : Ty), (a0, v1) = p → M_terms_Twin_l0b a0 v1 r) (fun (p : (Tm × Ty × (List Tm))) (r : Tm) => ∀ (a0 : Tm) (v1 : Ty) (v3 : (List Tm)), (a0, v1, v3) = p → M_terms_Twin_j0 a0 v1 v3 r) (fun (p : (Int × (List Tm) × Tm × Ty)) (r : Tm) => ∀ (t22_0 : Int) (a2_0 : (List Tm)) (a0 : Tm) (v1 : Ty), (t22_0, a2_0, a0, v1) = p → M_terms_Twin_l0 t22_0 a2_0 a0 v1 r) ?_ ?_ ?_ ?_ ?_
  · intro f_terms_Twin_j0b f_terms_Twin_j0 ih_terms_Twin_j0b ih_terms_Twin_j0 p r e a0 hp
    subst hp
    refine pure_of_awp (js := [5]) T_ok Try.func92 rfl (by decide +kernel) rfl ?_; (conv => whnf)
    obtain ⟨v1, qv1, e⟩ := bnd e
    refine said_pure (P_types_Twin qv1) rfl ?_; (conv => whnf)
    refine ⟨⟨fun h2 => ?_, fun h2 => ?_⟩⟩
    · replace e := ifp (by first | exact h2 | omega | simpa [Tm.Ds_all, Ty.Ds_all, Tm.D, Ty.D, listAll] using h2) e; (conv => whnf)
      obtain ⟨v3, qv3, e⟩ := bnd e
      obtain ⟨nv3, qv3a, qv3b, qv3c⟩ := mkn_some qv3
      have hlv3 : v3.length = nv3 := by rw [qv3c]; simp
      refine ⟨nv3, nv3, congrArg (fun z => AV.d (D.int .i64 z)) qv3a, congrArg (fun z => AV.d (D.int .i64 z)) qv3a, Nat.le_refl _, qv3b, .inr (.inl ⟨rfl, ?_⟩)⟩; (conv => whnf)
      refine Runs.weak ((ih_terms_Twin_j0 _ _ e _ _ _ rfl) nv3 hlv3) ?_
      repeat' first | exact wk.of_eq rfl | exact wk.pure rfl | exact wk.un _ | exact wk.hold _ _ _ | exact wk.holdG _ _ _ | exact rfl | exact trivial | refine ⟨?_, ?_⟩ | (refine wk.of_eq ?_; (conv => lhs; whnf); (simp [Tm.Ds_all, Ty.Ds_all, Tm.D, Ty.D, listAll, qv3c, hlv3] <;> (repeat' first | rfl | apply And.intro)); done) | (refine wk.pure ?_; (conv => lhs; whnf); (simp [Tm.Ds_all, Ty.Ds_all, Tm.D, Ty.D, listAll, qv3c, hlv3] <;> (repeat' first | rfl | apply And.intro)); done) | ((simp [Tm.Ds_all, Ty.Ds_all, Tm.D, Ty.D, listAll, qv3c, hlv3] <;> (repeat' first | rfl | apply And.intro)); done) | (simp [Tm.Ds_all, Ty.Ds_all, Tm.D, Ty.D, listAll, qv3c, hlv3]; omega)
    · replace e := ifn (by first | exact h2 | omega | simpa [Tm.Ds_all, Ty.Ds_all, Tm.D, Ty.D, listAll] using h2) e; (conv => whnf)
      refine Runs.weak (ih_terms_Twin_j0b _ _ e _ _ rfl) ?_
      repeat' first | exact wk.of_eq rfl | exact wk.pure rfl | exact wk.un _ | exact wk.hold _ _ _ | exact wk.holdG _ _ _ | exact rfl | exact trivial | refine ⟨?_, ?_⟩
  · intro f_terms_Twin_l0b ih_terms_Twin_l0b p r e a0 v1 hp
    subst hp
    refine Runs.enter T_ok ?_; (conv => whnf)
    refine RunsL.runs (RunsL.weak (ih_terms_Twin_l0b _ _ e _ _ rfl) ?_)
    repeat' first | exact wk.of_eq rfl | exact wk.pure rfl | exact wk.un _ | exact wk.hold _ _ _ | exact wk.holdG _ _ _ | exact rfl | exact trivial | refine ⟨?_, ?_⟩ | (refine wk.of_eq ?_; (conv => lhs; whnf); (simp [Tm.Ds_all, Ty.Ds_all, Tm.D, Ty.D, listAll] <;> (repeat' first | rfl | apply And.intro)); done) | (refine wk.pure ?_; (conv => lhs; whnf); (simp [Tm.Ds_all, Ty.Ds_all, Tm.D, Ty.D, listAll] <;> (repeat' first | rfl | apply And.intro)); done) | ((simp [Tm.Ds_all, Ty.Ds_all, Tm.D, Ty.D, listAll] <;> (repeat' first | rfl | apply And.intro)); done) | (simp [Tm.Ds_all, Ty.Ds_all, Tm.D, Ty.D, listAll]; omega)
  · intro f_terms_Twin ih_terms_Twin p r e a0 v1 hp
    subst hp
    refine RunsL.of_awp (js := [5]) T_ok ?_; (conv => whnf)
    refine ⟨⟨fun h23 => ?_, fun h23 => ?_⟩⟩
    · replace e := ifp (by first | exact h23 | omega | simpa [Tm.Ds_all, Ty.Ds_all, Tm.D, Ty.D, listAll] using h23) e; (conv => whnf)
      obtain ⟨v24, qv24, e⟩ := bnd e
      obtain ⟨qv24k, qv24a, qv24b⟩ := geti_some qv24
      refine ⟨qv24k, _, qv24a, Tm.Ds_get qv24b, ?_⟩; (conv => whnf)
      refine ⟨Tm.Ds_fit _ rfl rfl, ?_⟩; (conv => whnf)
      refine draw_rule [] T_ok mixed terms_Twin_pl8 (by decide +kernel) ?_; (conv => whnf)
      obtain ⟨v25, qv25, e⟩ := bnd e
      refine said_pure (ih_terms_Twin _ _ qv25 _ rfl) rfl ⟨Keeps.refl _ _, ?_⟩; (conv => whnf)
      cases e
    · replace e := ifn (by first | exact h23 | omega | simpa [Tm.Ds_all, Ty.Ds_all, Tm.D, Ty.D, listAll] using h23) e; (conv => whnf)
      obtain rfl := sm e
      repeat' first | exact rfl | exact trivial | refine ⟨?_, ?_⟩
  · intro f_terms_Twin_l0 ih_terms_Twin_l0 p r e a0 v1 v3 hp
    subst hp
    intro nv3 hlv3
    refine Runs.enter T_ok ?_; (conv => whnf)
    refine RunsL.runs (RunsL.weak ((ih_terms_Twin_l0 _ _ e _ _ _ _ rfl) nv3 hlv3) ?_)
    repeat' first | exact wk.of_eq rfl | exact wk.pure rfl | exact wk.un _ | exact wk.hold _ _ _ | exact wk.holdG _ _ _ | exact rfl | exact trivial | refine ⟨?_, ?_⟩ | (refine wk.of_eq ?_; (conv => lhs; whnf); (simp [Tm.Ds_all, Ty.Ds_all, Tm.D, Ty.D, listAll, hlv3] <;> (repeat' first | rfl | apply And.intro)); done) | (refine wk.pure ?_; (conv => lhs; whnf); (simp [Tm.Ds_all, Ty.Ds_all, Tm.D, Ty.D, listAll, hlv3] <;> (repeat' first | rfl | apply And.intro)); done) | ((simp [Tm.Ds_all, Ty.Ds_all, Tm.D, Ty.D, listAll, hlv3] <;> (repeat' first | rfl | apply And.intro)); done) | (simp [Tm.Ds_all, Ty.Ds_all, Tm.D, Ty.D, listAll, hlv3]; omega)
  · intro f_terms_Twin f_terms_Twin_l0 ih_terms_Twin ih_terms_Twin_l0 p r e t22_0 a2_0 a0 v1 hp
    subst hp
    intro nv3 hla2_0
    refine RunsL.of_awp (js := [5]) T_ok ?_; (conv => whnf)
    refine ⟨⟨fun h23 => ?_, fun h23 => ?_⟩⟩
    · replace e := ifp (by first | exact h23 | omega | simpa [Tm.Ds_all, Ty.Ds_all, Tm.D, Ty.D, listAll] using h23) e; (conv => whnf)
      obtain ⟨v24, qv24, e⟩ := bnd e
      obtain ⟨qv24k, qv24a, qv24b⟩ := geti_some qv24
      refine ⟨qv24k, _, qv24a, Tm.Ds_get qv24b, ?_⟩; (conv => whnf)
      refine ⟨Tm.Ds_fit _ rfl rfl, ?_⟩; (conv => whnf)
      refine draw_rule [] T_ok mixed terms_Twin_pl8 (by decide +kernel) ?_; (conv => whnf)
      obtain ⟨v25, qv25, e⟩ := bnd e
      refine said_pure (ih_terms_Twin _ _ qv25 _ rfl) rfl ⟨Keeps.refl _ _, ?_⟩; (conv => whnf)
      obtain ⟨g27, qg27, e⟩ := bnd e
      obtain ⟨k26, k26a⟩ : ∃ k26 : Nat, t22_0 = k26 := ⟨(t22_0).toNat, by have := wantb_some qg27; omega⟩
      refine ⟨k26, k26a, by have := wantb_some qg27; omega, ?_⟩; simp only [Nat.zero_add]; (conv => whnf)
      obtain ⟨v28, qv28, e⟩ := bnd e
      obtain ⟨qv28k, qv28a, qv28b, qv28c⟩ := seti_some qv28
      obtain rfl : k26 = qv28k := by omega
      have hlv28 : v28.length = nv3 := by rw [qv28c]; simp [hla2_0]
      refine .inl ⟨rfl, (by first | exact qv28b | simpa [Tm.Ds_all, Ty.Ds_all, Tm.D, Ty.D, listAll, hla2_0] using qv28b), Tm.Ds_fit _ rfl rfl, rfl, ?_⟩
      (conv => whnf)
      obtain ⟨v29, qv29, e⟩ := bnd e
      refine ⟨v29, sm qv29, ?_⟩; (conv => whnf)
      refine (RunsL.weak ((ih_terms_Twin_l0 _ _ e _ _ _ _ rfl) nv3 hlv28) ?_)
      repeat' first | exact wk.of_eq rfl | exact wk.pure rfl | exact wk.un _ | exact wk.hold _ _ _ | exact wk.holdG _ _ _ | exact rfl | exact trivial | refine ⟨?_, ?_⟩ | (refine wk.of_eq ?_; (conv => lhs; whnf); (simp [Tm.Ds_all, Ty.Ds_all, Tm.D, Ty.D, listAll, qv28c, hlv28] <;> (repeat' first | rfl | apply And.intro)); done) | (refine wk.pure ?_; (conv => lhs; whnf); (simp [Tm.Ds_all, Ty.Ds_all, Tm.D, Ty.D, listAll, qv28c, hlv28] <;> (repeat' first | rfl | apply And.intro)); done) | ((simp [Tm.Ds_all, Ty.Ds_all, Tm.D, Ty.D, listAll, qv28c, hlv28] <;> (repeat' first | rfl | apply And.intro)); done) | (simp [Tm.Ds_all, Ty.Ds_all, Tm.D, Ty.D, listAll, qv28c, hlv28]; omega)
    · replace e := ifn (by first | exact h23 | omega | simpa [Tm.Ds_all, Ty.Ds_all, Tm.D, Ty.D, listAll] using h23) e; (conv => whnf)
      obtain rfl := sm e
      repeat' first | exact rfl | exact trivial | exact ⟨_, rfl, (by first | exact rfl | (simp [Tm.Ds_all, Ty.Ds_all, Tm.D, Ty.D, listAll, hla2_0] <;> (repeat' first | rfl | apply And.intro))), (by first | exact rfl | (simp [Tm.Ds_all, Ty.Ds_all, Tm.D, Ty.D, listAll, hla2_0] <;> (repeat' first | rfl | apply And.intro)))⟩ | refine ⟨?_, ?_⟩ | (simp [Tm.Ds_all, Ty.Ds_all, Tm.D, Ty.D, listAll, hla2_0] <;> (repeat' first | rfl | apply And.intro))
theorem P_terms_Twin {a0 : Tm} {r : Tm} (e : terms_Twin a0 = some r) : M_terms_Twin a0 r := G_terms_Twin.1 _ _ e _ rfl
def M_terms_Twin_ar_l0 (t22_0 : Int) (a3_0 : (List Tm)) (a0 : Tm) (v1 : Ty) (r : (Int × ByteArray × Bool × ByteArray × (List Ty) × Int × (List Tm))) : Prop := ∀ (nv3 : Nat) (hla3_0 : a3_0.length = nv3), LoopAt TA Try.prog Try.f92 ⟨[], 0⟩ [5] [1, 1, 1, 1, 0, 1, 0] (ES TA Try.f92 0 (.agg [.d (.int .u8 r.1), .d (.str r.2.1), .d (.bool r.2.2.1), .d (.str r.2.2.2.1), .d (.slice 3 (Ty.Ds r.2.2.2.2.1)), .d (.int .i64 r.2.2.2.2.2.1), .arr 0 0 0 (Tm.Ds r.2.2.2.2.2.2).length 7]) ([.arr 7 (Tm.Ds r.2.2.2.2.2.2)])) [(1, .ptr 0 1 0), (2, .ptr 0 2 0), (20, .d (.slice 7 (Tm.Ds a0.sub))), (21, .d (.int .i64 ((Tm.Ds a0.sub).length : Int))), (22, .d (.int .i64 t22_0))] [[.arr 7 [], .cells [.d (.int .u8 a0.kind), .d (.str a0.name), .d (.bool v1.v), .d (.str v1.name), .d (.slice 3 (Ty.Ds v1.args)), .d (.int .i64 a0.index), .arr 0 3 0 nv3 7], .cells [.d (.int .u8 0), .d (.str ByteArray.empty), .d (.bool false), .d (.str ByteArray.empty), .nil 3, .d (.int .i64 0), .nil 7], .arr 7 (Tm.Ds a3_0)]]
theorem G_terms_Twin_ar_l0 : (∀ p r, terms_Twin_ar_l0' p = some r → ∀ t22_0 a3_0 a0 v1, (t22_0, a3_0, a0, v1) = p → M_terms_Twin_ar_l0 t22_0 a3_0 a0 v1 r) := by
  refine terms_Twin_ar_l0'.partial_correctness (fun (p : (Int × (List Tm) × Tm × Ty)) (r : (Int × ByteArray × Bool × ByteArray × (List Ty) × Int × (List Tm))) => ∀ (t22_0 : Int) (a3_0 : (List Tm)) (a0 : Tm) (v1 : Ty), (t22_0, a3_0, a0, v1) = p → M_terms_Twin_ar_l0 t22_0 a3_0 a0 v1 r) ?_
  · intro f_terms_Twin_ar_l0 ih_terms_Twin_ar_l0 p r e t22_0 a3_0 a0 v1 hp
    subst hp
    intro nv3 hla3_0
    refine RunsL.of_awp (js := [5]) TA_ok ?_; (conv => whnf)
    refine ⟨⟨fun h23 => ?_, fun h23 => ?_⟩⟩
    · replace e := ifp (by first | exact h23 | omega | simpa [Tm.Ds_all, Ty.Ds_all, Tm.D, Ty.D, listAll] using h23) e; (conv => whnf)
      obtain ⟨v24, qv24, e⟩ := bnd e
      obtain ⟨qv24k, qv24a, qv24b⟩ := geti_some qv24
      refine ⟨qv24k, _, qv24a, Tm.Ds_get qv24b, ?_⟩; (conv => whnf)
      refine ⟨Tm.Ds_fit _ rfl rfl, ?_⟩; (conv => whnf)
      refine draw_rule [] TA_ok mixed terms_Twin_ar_pl8 (by decide +kernel) ?_; (conv => whnf)
      obtain ⟨v25, qv25, e⟩ := bnd e
      refine said_pure (P_terms_Twin qv25) rfl ⟨Keeps.refl _ _, ?_⟩; (conv => whnf)
      obtain ⟨g27, qg27, e⟩ := bnd e
      obtain ⟨k26, k26a⟩ : ∃ k26 : Nat, t22_0 = k26 := ⟨(t22_0).toNat, by have := wantb_some qg27; omega⟩
      refine ⟨k26, k26a, by have := wantb_some qg27; omega, ?_⟩; simp only [Nat.zero_add]; (conv => whnf)
      obtain ⟨v28, qv28, e⟩ := bnd e
      obtain ⟨qv28k, qv28a, qv28b, qv28c⟩ := seti_some qv28
      obtain rfl : k26 = qv28k := by omega
      have hlv28 : v28.length = nv3 := by rw [qv28c]; simp [hla3_0]
      refine .inl ⟨rfl, (by first | exact qv28b | simpa [Tm.Ds_all, Ty.Ds_all, Tm.D, Ty.D, listAll, hla3_0] using qv28b), Tm.Ds_fit _ rfl rfl, rfl, ?_⟩
      (conv => whnf)
      obtain ⟨v29, qv29, e⟩ := bnd e
      refine ⟨v29, sm qv29, ?_⟩; (conv => whnf)
      refine (RunsL.weak ((ih_terms_Twin_ar_l0 _ _ e _ _ _ _ rfl) nv3 hlv28) ?_)
      repeat' first | exact wk.of_eq rfl | exact wk.pure rfl | exact wk.un _ | exact wk.hold _ _ _ | exact wk.holdG _ _ _ | exact rfl | exact trivial | refine ⟨?_, ?_⟩ | (refine wk.of_eq ?_; (conv => lhs; whnf); (simp [Tm.Ds_all, Ty.Ds_all, Tm.D, Ty.D, listAll, qv28c, hlv28] <;> (repeat' first | rfl | apply And.intro)); done) | (refine wk.pure ?_; (conv => lhs; whnf); (simp [Tm.Ds_all, Ty.Ds_all, Tm.D, Ty.D, listAll, qv28c, hlv28] <;> (repeat' first | rfl | apply And.intro)); done) | ((simp [Tm.Ds_all, Ty.Ds_all, Tm.D, Ty.D, listAll, qv28c, hlv28] <;> (repeat' first | rfl | apply And.intro)); done) | (simp [Tm.Ds_all, Ty.Ds_all, Tm.D, Ty.D, listAll, qv28c, hlv28]; omega)
    · replace e := ifn (by first | exact h23 | omega | simpa [Tm.Ds_all, Ty.Ds_all, Tm.D, Ty.D, listAll] using h23) e; (conv => whnf)
      obtain rfl := sm e
      refine ⟨[3], ⟨rfl, rfl, rfl⟩, ?_, ⟨⟨_, rfl, ?_⟩, trivial⟩⟩
      repeat' first | exact rfl | exact trivial | exact ⟨_, rfl, (by first | rfl | simp [Tm.Ds_all, Ty.Ds_all, Tm.D, Ty.D, listAll, hla3_0])⟩ | refine ⟨?_, ?_⟩ | (simp [Tm.Ds_all, Ty.Ds_all, Tm.D, Ty.D, listAll, hla3_0] <;> (repeat' first | rfl | apply And.intro); done)
theorem P_terms_Twin_ar_l0 {t22_0 : Int} {a3_0 : (List Tm)} {a0 : Tm} {v1 : Ty} {r : (Int × ByteArray × Bool × ByteArray × (List Ty) × Int × (List Tm))} (e : terms_Twin_ar_l0 t22_0 a3_0 a0 v1 = some r) : M_terms_Twin_ar_l0 t22_0 a3_0 a0 v1 r := G_terms_Twin_ar_l0 _ _ e _ _ _ _ rfl
theorem P_terms_Twin_ar_j0 {a0 : Tm} {v1 : Ty} {v3 : (List Tm)} {r : (Int × ByteArray × Bool × ByteArray × (List Ty) × Int × (List Tm))} (e : terms_Twin_ar_j0 a0 v1 v3 = some r) : ∀ (nv3 : Nat) (hlv3 : v3.length = nv3), JoinAt TA Try.prog Try.f92 ⟨[], 0⟩ [5] [1, 1, 1, 1, 0, 0] (ES TA Try.f92 0 (.agg [.d (.int .u8 r.1), .d (.str r.2.1), .d (.bool r.2.2.1), .d (.str r.2.2.2.1), .d (.slice 3 (Ty.Ds r.2.2.2.2.1)), .d (.int .i64 r.2.2.2.2.2.1), .arr 0 0 0 (Tm.Ds r.2.2.2.2.2.2).length 7]) ([.arr 7 (Tm.Ds r.2.2.2.2.2.2)])) [(1, .ptr 0 1 0), (2, .ptr 0 2 0), (3, .d (.slice 7 (Tm.Ds a0.sub)))] [[.arr 7 [], .cells [.d (.int .u8 a0.kind), .d (.str a0.name), .d (.bool v1.v), .d (.str v1.name), .d (.slice 3 (Ty.Ds v1.args)), .d (.int .i64 a0.index), .arr 0 3 0 nv3 7], .cells [.d (.int .u8 0), .d (.str ByteArray.empty), .d (.bool false), .d (.str ByteArray.empty), .nil 3, .d (.int .i64 0), .nil 7], .arr 7 (Tm.Ds v3)]] := by
  unfold terms_Twin_ar_j0 at e
  intro nv3 hlv3
  refine Runs.enter TA_ok ?_; (conv => whnf)
  refine RunsL.runs (RunsL.weak ((P_terms_Twin_ar_l0 e) nv3 hlv3) ?_)
  repeat' first | exact wk.of_eq rfl | exact wk.pure rfl | exact wk.un _ | exact wk.hold _ _ _ | exact wk.holdG _ _ _ | exact rfl | exact trivial | refine ⟨?_, ?_⟩ | (refine wk.of_eq ?_; (conv => lhs; whnf); (simp [Tm.Ds_all, Ty.Ds_all, Tm.D, Ty.D, listAll, hlv3] <;> (repeat' first | rfl | apply And.intro)); done) | (refine wk.pure ?_; (conv => lhs; whnf); (simp [Tm.Ds_all, Ty.Ds_all, Tm.D, Ty.D, listAll, hlv3] <;> (repeat' first | rfl | apply And.intro)); done) | ((simp [Tm.Ds_all, Ty.Ds_all, Tm.D, Ty.D, listAll, hlv3] <;> (repeat' first | rfl | apply And.intro)); done) | (simp [Tm.Ds_all, Ty.Ds_all, Tm.D, Ty.D, listAll, hlv3]; omega)
theorem P_terms_Twin_ar_l0b {a0 : Tm} {v1 : Ty} {r : (Int × ByteArray × Bool × ByteArray × (List Ty) × Int × (List Tm))} (e : terms_Twin_ar_l0b a0 v1 = some r) : LoopAt TA Try.prog Try.f92 ⟨[], 0⟩ [5] [1, 1, 1, 1, 0, 1, 0] (ES TA Try.f92 0 (.agg [.d (.int .u8 r.1), .d (.str r.2.1), .d (.bool r.2.2.1), .d (.str r.2.2.2.1), .d (.slice 3 (Ty.Ds r.2.2.2.2.1)), .d (.int .i64 r.2.2.2.2.2.1), .arr 0 0 0 (Tm.Ds r.2.2.2.2.2.2).length 7]) ([.arr 7 (Tm.Ds r.2.2.2.2.2.2)])) [(1, .ptr 0 1 0), (2, .ptr 0 2 0), (20, .d (.slice 7 (Tm.Ds a0.sub))), (21, .d (.int .i64 ((Tm.Ds a0.sub).length : Int))), (22, .d (.int .i64 0))] [[.arr 7 [], .cells [.d (.int .u8 a0.kind), .d (.str a0.name), .d (.bool v1.v), .d (.str v1.name), .d (.slice 3 (Ty.Ds v1.args)), .d (.int .i64 a0.index), .nil 7], .cells [.d (.int .u8 0), .d (.str ByteArray.empty), .d (.bool false), .d (.str ByteArray.empty), .nil 3, .d (.int .i64 0), .nil 7]]] := by
  unfold terms_Twin_ar_l0b at e
  refine RunsL.of_awp (js := [5]) TA_ok ?_; (conv => whnf)
  refine ⟨⟨fun h23 => ?_, fun h23 => ?_⟩⟩
  · replace e := ifp (by first | exact h23 | omega | simpa [Tm.Ds_all, Ty.Ds_all, Tm.D, Ty.D, listAll] using h23) e; (conv => whnf)
    obtain ⟨v24, qv24, e⟩ := bnd e
    obtain ⟨qv24k, qv24a, qv24b⟩ := geti_some qv24
    refine ⟨qv24k, _, qv24a, Tm.Ds_get qv24b, ?_⟩; (conv => whnf)
    refine ⟨Tm.Ds_fit _ rfl rfl, ?_⟩; (conv => whnf)
    refine draw_rule [] TA_ok mixed terms_Twin_ar_pl8 (by decide +kernel) ?_; (conv => whnf)
    obtain ⟨v25, qv25, e⟩ := bnd e
    refine said_pure (P_terms_Twin qv25) rfl ⟨Keeps.refl _ _, ?_⟩; (conv => whnf)
    cases e
  · replace e := ifn (by first | exact h23 | omega | simpa [Tm.Ds_all, Ty.Ds_all, Tm.D, Ty.D, listAll] using h23) e; (conv => whnf)
    obtain rfl := sm e
    refine ⟨[0], ⟨rfl, rfl, rfl⟩, ?_, ⟨⟨_, rfl, rfl⟩, trivial⟩⟩
    repeat' first | exact rfl | exact trivial | exact ⟨_, rfl, (by first | rfl | simp [Tm.Ds_all, Ty.Ds_all, Tm.D, Ty.D, listAll])⟩ | refine ⟨?_, ?_⟩ | (simp [Tm.Ds_all, Ty.Ds_all, Tm.D, Ty.D, listAll] <;> (repeat' first | rfl | apply And.intro); done)
theorem P_terms_Twin_ar_j0b {a0 : Tm} {v1 : Ty} {r : (Int × ByteArray × Bool × ByteArray × (List Ty) × Int × (List Tm))} (e : terms_Twin_ar_j0b a0 v1 = some r) : JoinAt TA Try.prog Try.f92 ⟨[], 0⟩ [5] [1, 1, 1, 1, 0, 0] (ES TA Try.f92 0 (.agg [.d (.int .u8 r.1), .d (.str r.2.1), .d (.bool r.2.2.1), .d (.str r.2.2.2.1), .d (.slice 3 (Ty.Ds r.2.2.2.2.1)), .d (.int .i64 r.2.2.2.2.2.1), .arr 0 0 0 (Tm.Ds r.2.2.2.2.2.2).length 7]) ([.arr 7 (Tm.Ds r.2.2.2.2.2.2)])) [(1, .ptr 0 1 0), (2, .ptr 0 2 0), (3, .d (.slice 7 (Tm.Ds a0.sub)))] [[.arr 7 [], .cells [.d (.int .u8 a0.kind), .d (.str a0.name), .d (.bool v1.v), .d (.str v1.name), .d (.slice 3 (Ty.Ds v1.args)), .d (.int .i64 a0.index), .nil 7], .cells [.d (.int .u8 0), .d (.str ByteArray.empty), .d (.bool false), .d (.str ByteArray.empty), .nil 3, .d (.int .i64 0), .nil 7]]] := by
  unfold terms_Twin_ar_j0b at e
  refine Runs.enter TA_ok ?_; (conv => whnf)
  refine RunsL.runs (RunsL.weak (P_terms_Twin_ar_l0b e) ?_)
  repeat' first | exact wk.of_eq rfl | exact wk.pure rfl | exact wk.un _ | exact wk.hold _ _ _ | exact wk.holdG _ _ _ | exact rfl | exact trivial | refine ⟨?_, ?_⟩ | (refine wk.of_eq ?_; (conv => lhs; whnf); (simp [Tm.Ds_all, Ty.Ds_all, Tm.D, Ty.D, listAll] <;> (repeat' first | rfl | apply And.intro)); done) | (refine wk.pure ?_; (conv => lhs; whnf); (simp [Tm.Ds_all, Ty.Ds_all, Tm.D, Ty.D, listAll] <;> (repeat' first | rfl | apply And.intro)); done) | ((simp [Tm.Ds_all, Ty.Ds_all, Tm.D, Ty.D, listAll] <;> (repeat' first | rfl | apply And.intro)); done) | (simp [Tm.Ds_all, Ty.Ds_all, Tm.D, Ty.D, listAll]; omega)
theorem P_terms_Twin_ar {a0 : Tm} {r : (Int × ByteArray × Bool × ByteArray × (List Ty) × Int × (List Tm))} (e : terms_Twin_ar a0 = some r) : IoR Try.prog 92 [.d (Tm.D a0)] [] (.agg [.d (.int .u8 r.1), .d (.str r.2.1), .d (.bool r.2.2.1), .d (.str r.2.2.2.1), .d (.slice 3 (Ty.Ds r.2.2.2.2.1)), .d (.int .i64 r.2.2.2.2.2.1), .arr 0 0 0 (Tm.Ds r.2.2.2.2.2.2).length 7]) ([.arr 7 (Tm.Ds r.2.2.2.2.2.2)]) := by
  unfold terms_Twin_ar at e
  refine io_of_awpG [7] (js := [5]) TA_ok Try.func92 rfl (by decide +kernel) rfl ?_; (conv => whnf)
  obtain ⟨v1, qv1, e⟩ := bnd e
  refine said_pure (P_types_Twin qv1) rfl ?_; (conv => whnf)
  refine ⟨⟨fun h2 => ?_, fun h2 => ?_⟩⟩
  · replace e := ifp (by first | exact h2 | omega | simpa [Tm.Ds_all, Ty.Ds_all, Tm.D, Ty.D, listAll] using h2) e; (conv => whnf)
    obtain ⟨v3, qv3, e⟩ := bnd e
    obtain ⟨nv3, qv3a, qv3b, qv3c⟩ := mkn_some qv3
    have hlv3 : v3.length = nv3 := by rw [qv3c]; simp
    refine ⟨nv3, nv3, congrArg (fun z => AV.d (D.int .i64 z)) qv3a, congrArg (fun z => AV.d (D.int .i64 z)) qv3a, Nat.le_refl _, qv3b, .inr (.inl ⟨rfl, ?_⟩)⟩; (conv => whnf)
    refine Runs.weak ((P_terms_Twin_ar_j0 e) nv3 hlv3) ?_
    repeat' first | exact wk.of_eq rfl | exact wk.pure rfl | exact wk.un _ | exact wk.hold _ _ _ | exact wk.holdG _ _ _ | exact rfl | exact trivial | refine ⟨?_, ?_⟩ | (refine wk.of_eq ?_; (conv => lhs; whnf); (simp [Tm.Ds_all, Ty.Ds_all, Tm.D, Ty.D, listAll, qv3c, hlv3] <;> (repeat' first | rfl | apply And.intro)); done) | (refine wk.pure ?_; (conv => lhs; whnf); (simp [Tm.Ds_all, Ty.Ds_all, Tm.D, Ty.D, listAll, qv3c, hlv3] <;> (repeat' first | rfl | apply And.intro)); done) | ((simp [Tm.Ds_all, Ty.Ds_all, Tm.D, Ty.D, listAll, qv3c, hlv3] <;> (repeat' first | rfl | apply And.intro)); done) | (simp [Tm.Ds_all, Ty.Ds_all, Tm.D, Ty.D, listAll, qv3c, hlv3]; omega)
  · replace e := ifn (by first | exact h2 | omega | simpa [Tm.Ds_all, Ty.Ds_all, Tm.D, Ty.D, listAll] using h2) e; (conv => whnf)
    refine Runs.weak (P_terms_Twin_ar_j0b e) ?_
    repeat' first | exact wk.of_eq rfl | exact wk.pure rfl | exact wk.un _ | exact wk.hold _ _ _ | exact wk.holdG _ _ _ | exact rfl | exact trivial | refine ⟨?_, ?_⟩
def M_tactic_Twin (a0 : ATactic) (r : ATactic) : Prop := Pure Try.prog 42 [(ATactic.D a0)] (ATactic.D r)
def M_tactic_Twin_l0 (rest0 : (List ATactic)) (c0_10_0 : (List ATactic)) (a0 : ATactic) (v1 : Tm) (r : ATactic) : Prop := ∀ (k0 : Nat) (hd0 : rest0 = a0.kids.drop k0), LoopAt T Try.prog Try.f42 Fx0 [] [1, 1, 1, 1, 0, 1, 0] (EP T Try.f42 (ATactic.D r)) [(1, .ptr 0 0 0), (2, .ptr 0 1 0), (13, .d (.slice 11 (ATactic.Ds a0.kids))), (14, .d (.int .i64 ((ATactic.Ds a0.kids).length : Int))), (15, .d (.int .i64 (k0 : Int)))] [[.cells [.d (.int .u8 a0.kind), .d (.int .i64 a0.at_), .d (.int .i64 a0.to_), .d (.int .u8 v1.kind), .d (.str v1.name), .d (.bool v1.ty.v), .d (.str v1.ty.name), .d (.slice 3 (Ty.Ds v1.ty.args)), .d (.int .i64 v1.index), .d (.slice 7 (Tm.Ds v1.sub)), .own 0 2 11 (ATactic.Ds c0_10_0)], .cells [.d (.int .u8 0), .d (.int .i64 0), .d (.int .i64 0), .d (.int .u8 0), .d (.str ByteArray.empty), .d (.bool false), .d (.str ByteArray.empty), .nil 3, .d (.int .i64 0), .nil 7, .nil 11], .grow 11 (ATactic.Ds c0_10_0).length]]
theorem G_tactic_Twin : (∀ p r, tactic_Twin' p = some r → ∀ a0, a0 = p → M_tactic_Twin a0 r) ∧
    (∀ p r, tactic_Twin_l0' p = some r → ∀ rest0 c0_10_0 a0 v1, (rest0, c0_10_0, a0, v1) = p → M_tactic_Twin_l0 rest0 c0_10_0 a0 v1 r) := by
  refine tactic_Twin'.mutual_partial_correctness (fun (p : ATactic) (r : ATactic) => ∀ (a0 : ATactic), a0 = p → M_tactic_Twin a0 r) (fun (p : ((List ATactic) × (List ATactic) × ATactic × Tm)) (r : ATactic) => ∀ (rest0 : (List ATactic)) (c0_10_0 : (List ATactic)) (a0 : ATactic) (v1 : Tm), (rest0, c0_10_0, a0, v1) = p → M_tactic_Twin_l0 rest0 c0_10_0 a0 v1 r) ?_ ?_
  · intro f_tactic_Twin_l0 ih_tactic_Twin_l0 p r e a0 hp
    subst hp
    refine pure_of_awp (js := []) T_ok Try.func42 rfl (by decide +kernel) rfl ?_; (conv => whnf)
    obtain ⟨v1, qv1, e⟩ := bnd e
    refine said_pure (P_terms_Twin qv1) rfl ?_; (conv => whnf)
    refine Runs.hold 11 ?_
    refine RunsL.runs (RunsL.weak ((ih_tactic_Twin_l0 _ _ e _ _ _ _ rfl) 0 (by simp)) ?_)
    repeat' first | exact wk.of_eq rfl | exact wk.pure rfl | exact wk.un _ | exact wk.hold _ _ _ | exact wk.holdG _ _ _ | exact rfl | exact trivial | refine ⟨?_, ?_⟩ | (refine wk.of_eq ?_; (conv => lhs; whnf); (simp [ATactic.Ds_all, Tm.Ds_all, Ty.Ds_all, ATactic.D, Tm.D, Ty.D, listAll] <;> (repeat' first | rfl | apply And.intro)); done) | (refine wk.pure ?_; (conv => lhs; whnf); (simp [ATactic.Ds_all, Tm.Ds_all, Ty.Ds_all, ATactic.D, Tm.D, Ty.D, listAll] <;> (repeat' first | rfl | apply And.intro)); done) | ((simp [ATactic.Ds_all, Tm.Ds_all, Ty.Ds_all, ATactic.D, Tm.D, Ty.D, listAll] <;> (repeat' first | rfl | apply And.intro)); done) | (simp [ATactic.Ds_all, Tm.Ds_all, Ty.Ds_all, ATactic.D, Tm.D, Ty.D, listAll]; omega)
  · intro f_tactic_Twin f_tactic_Twin_l0 ih_tactic_Twin ih_tactic_Twin_l0 p r e rest0 c0_10_0 a0 v1 hp
    subst hp
    intro k0 hd0
    refine RunsL.len_tmp 13 rfl fun hlenk0 => ?_
    refine RunsL.of_awp (js := []) T_ok ?_; (conv => whnf)
    have hls := ATactic.Ds_len a0.kids
    cases rest0 with
    | nil =>
      have hk := drop_nil hd0
      refine ⟨⟨fun h => absurd h (by omega), fun _ => ?_⟩⟩; (conv => whnf)
      obtain rfl := sm e
      repeat' first | exact rfl | exact trivial | exact ⟨_, rfl, (by first | exact rfl | (simp [ATactic.Ds_all, Tm.Ds_all, Ty.Ds_all, ATactic.D, Tm.D, Ty.D, listAll] <;> (repeat' first | rfl | apply And.intro))), (by first | exact rfl | (simp [ATactic.Ds_all, Tm.Ds_all, Ty.Ds_all, ATactic.D, Tm.D, Ty.D, listAll] <;> (repeat' first | rfl | apply And.intro)))⟩ | refine ⟨?_, ?_⟩ | (simp [ATactic.Ds_all, Tm.Ds_all, Ty.Ds_all, ATactic.D, Tm.D, Ty.D, listAll] <;> (repeat' first | rfl | apply And.intro))
    | cons v16 rest0 =>
      obtain ⟨hxv16, hd0, hltv16⟩ := drop_head hd0
      refine ⟨⟨fun _ => ?_, fun h => absurd (by omega) h⟩⟩; (conv => whnf)
      refine ⟨k0, _, rfl, ATactic.Ds_get hxv16, ?_⟩; (conv => whnf)
      refine ⟨ATactic.Ds_fit _ rfl rfl, ?_⟩; (conv => whnf)
      refine draw_rule [] T_ok mixed tactic_Twin_pl7 (by decide +kernel) ?_; (conv => whnf)
      obtain ⟨v17, qv17, e⟩ := bnd e
      refine said_pure (ih_tactic_Twin _ _ qv17 _ rfl) rfl ⟨Keeps.refl _ _, ?_⟩; (conv => whnf)
      refine ⟨⟨⟨rfl, rfl⟩, trivial⟩, ?_⟩; (conv => whnf)
      obtain ⟨v18, qv18, e⟩ := bnd e
      obtain ⟨qv18l, qv18e⟩ := app_some qv18
      refine ⟨(by first | exact qv18l | simpa [ATactic.Ds_all, Tm.Ds_all, Ty.Ds_all, ATactic.D, Tm.D, Ty.D, listAll] using qv18l), rfl, (by first | rfl | simp [ATactic.Ds_all, Tm.Ds_all, Ty.Ds_all, ATactic.D, Tm.D, Ty.D, listAll]), ?_⟩; (conv => whnf)
      refine ⟨((k0 + 1 : Nat) : Int), wrap64e (by omega) (by omega) (by omega), ?_⟩; (conv => whnf)
      refine (RunsL.weak ((ih_tactic_Twin_l0 _ _ e _ _ _ _ rfl) (k0 + 1) hd0) ?_)
      repeat' first | exact wk.of_eq rfl | exact wk.pure rfl | exact wk.un _ | exact wk.hold _ _ _ | exact wk.holdG _ _ _ | exact rfl | exact trivial | refine ⟨?_, ?_⟩ | (refine wk.of_eq ?_; (conv => lhs; whnf); (simp [ATactic.Ds_all, Tm.Ds_all, Ty.Ds_all, ATactic.D, Tm.D, Ty.D, listAll, qv18e] <;> (repeat' first | rfl | apply And.intro)); done) | (refine wk.pure ?_; (conv => lhs; whnf); (simp [ATactic.Ds_all, Tm.Ds_all, Ty.Ds_all, ATactic.D, Tm.D, Ty.D, listAll, qv18e] <;> (repeat' first | rfl | apply And.intro)); done) | ((simp [ATactic.Ds_all, Tm.Ds_all, Ty.Ds_all, ATactic.D, Tm.D, Ty.D, listAll, qv18e] <;> (repeat' first | rfl | apply And.intro)); done) | (simp [ATactic.Ds_all, Tm.Ds_all, Ty.Ds_all, ATactic.D, Tm.D, Ty.D, listAll, qv18e]; omega)
theorem P_tactic_Twin {a0 : ATactic} {r : ATactic} (e : tactic_Twin a0 = some r) : M_tactic_Twin a0 r := G_tactic_Twin.1 _ _ e _ rfl
def M_tactic_Twin_ar_l0 (rest0 : (List ATactic)) (c1_10_0 : (List ATactic)) (a0 : ATactic) (v1 : (Int × ByteArray × Bool × ByteArray × (List Ty) × Int × (List Tm))) (r : (Int × Int × Int × Int × ByteArray × Bool × ByteArray × (List Ty) × Int × (List Tm) × (List ATactic))) : Prop := ∀ (k0 : Nat) (hlx_v1_2_2_2_2_2_2 : v1.2.2.2.2.2.2.length = (Tm.Ds v1.2.2.2.2.2.2).length) (hd0 : rest0 = a0.kids.drop k0), LoopAt TA Try.prog Try.f42 ⟨[], 0⟩ [] [1, 1, 1, 1, 0, 1, 0] (ES TA Try.f42 0 (.agg [.d (.int .u8 r.1), .d (.int .i64 r.2.1), .d (.int .i64 r.2.2.1), .d (.int .u8 r.2.2.2.1), .d (.str r.2.2.2.2.1), .d (.bool r.2.2.2.2.2.1), .d (.str r.2.2.2.2.2.2.1), .d (.slice 3 (Ty.Ds r.2.2.2.2.2.2.2.1)), .d (.int .i64 r.2.2.2.2.2.2.2.2.1), .arr 0 0 0 (Tm.Ds r.2.2.2.2.2.2.2.2.2.1).length 7, .arr 0 1 0 (ATactic.Ds r.2.2.2.2.2.2.2.2.2.2).length 11]) ([.arr 7 (Tm.Ds r.2.2.2.2.2.2.2.2.2.1), .arr 11 (ATactic.Ds r.2.2.2.2.2.2.2.2.2.2)])) [(1, .ptr 0 1 0), (2, .ptr 0 2 0), (13, .d (.slice 11 (ATactic.Ds a0.kids))), (14, .d (.int .i64 ((ATactic.Ds a0.kids).length : Int))), (15, .d (.int .i64 (k0 : Int)))] [[.arr 11 [], .cells [.d (.int .u8 a0.kind), .d (.int .i64 a0.at_), .d (.int .i64 a0.to_), .d (.int .u8 v1.1), .d (.str v1.2.1), .d (.bool v1.2.2.1), .d (.str v1.2.2.2.1), .d (.slice 3 (Ty.Ds v1.2.2.2.2.1)), .d (.int .i64 v1.2.2.2.2.2.1), .arr 0 3 0 (Tm.Ds v1.2.2.2.2.2.2).length 7, .garr 0 4 (ATactic.Ds c1_10_0).length 11], .cells [.d (.int .u8 0), .d (.int .i64 0), .d (.int .i64 0), .d (.int .u8 0), .d (.str ByteArray.empty), .d (.bool false), .d (.str ByteArray.empty), .nil 3, .d (.int .i64 0), .nil 7, .nil 11], .arr 7 (Tm.Ds v1.2.2.2.2.2.2), .garr 11 (ATactic.Ds c1_10_0)]]
theorem G_tactic_Twin_ar_l0 : (∀ p r, tactic_Twin_ar_l0' p = some r → ∀ rest0 c1_10_0 a0 v1, (rest0, c1_10_0, a0, v1) = p → M_tactic_Twin_ar_l0 rest0 c1_10_0 a0 v1 r) := by
  refine tactic_Twin_ar_l0'.partial_correctness (fun (p : ((List ATactic) × (List ATactic) × ATactic × (Int × ByteArray × Bool × ByteArray × (List Ty) × Int × (List Tm)))) (r : (Int × Int × Int × Int × ByteArray × Bool × ByteArray × (List Ty) × Int × (List Tm) × (List ATactic))) => ∀ (rest0 : (List ATactic)) (c1_10_0 : (List ATactic)) (a0 : ATactic) (v1 : (Int × ByteArray × Bool × ByteArray × (List Ty) × Int × (List Tm))), (rest0, c1_10_0, a0, v1) = p → M_tactic_Twin_ar_l0 rest0 c1_10_0 a0 v1 r) ?_
  · intro f_tactic_Twin_ar_l0 ih_tactic_Twin_ar_l0 p r e rest0 c1_10_0 a0 v1 hp
    subst hp
    intro k0 hlx_v1_2_2_2_2_2_2 hd0
    refine RunsL.len_tmp 13 rfl fun hlenk0 => ?_
    refine RunsL.of_awp (js := []) TA_ok ?_; (conv => whnf)
    have hls := ATactic.Ds_len a0.kids
    cases rest0 with
    | nil =>
      have hk := drop_nil hd0
      refine ⟨⟨fun h => absurd h (by omega), fun _ => ?_⟩⟩; (conv => whnf)
      obtain rfl := sm e
      refine ⟨[3, 4], ⟨rfl, rfl, rfl⟩, ?_, ⟨⟨_, rfl, ?_⟩, ⟨_, rfl, ?_⟩, trivial⟩⟩
      repeat' first | exact rfl | exact trivial | exact ⟨_, rfl, (by first | rfl | simp [ATactic.Ds_all, Tm.Ds_all, Ty.Ds_all, ATactic.D, Tm.D, Ty.D, listAll, Tm.Ds_len])⟩ | refine ⟨?_, ?_⟩ | (simp [ATactic.Ds_all, Tm.Ds_all, Ty.Ds_all, ATactic.D, Tm.D, Ty.D, listAll, Tm.Ds_len] <;> (repeat' first | rfl | apply And.intro); done)
    | cons v16 rest0 =>
      obtain ⟨hxv16, hd0, hltv16⟩ := drop_head hd0
      refine ⟨⟨fun _ => ?_, fun h => absurd (by omega) h⟩⟩; (conv => whnf)
      refine ⟨k0, _, rfl, ATactic.Ds_get hxv16, ?_⟩; (conv => whnf)
      refine ⟨ATactic.Ds_fit _ rfl rfl, ?_⟩; (conv => whnf)
      refine draw_rule [] TA_ok mixed tactic_Twin_ar_pl7 (by decide +kernel) ?_; (conv => whnf)
      obtain ⟨v17, qv17, e⟩ := bnd e
      refine said_pure (P_tactic_Twin qv17) rfl ⟨Keeps.refl _ _, ?_⟩; (conv => whnf)
      refine ⟨⟨⟨rfl, rfl⟩, trivial⟩, ?_⟩; (conv => whnf)
      obtain ⟨v18, qv18, e⟩ := bnd e
      obtain ⟨qv18l, qv18e⟩ := app_some qv18
      refine ⟨(by first | exact qv18l | simpa [ATactic.Ds_all, Tm.Ds_all, Ty.Ds_all, ATactic.D, Tm.D, Ty.D, listAll] using qv18l), rfl, (by first | rfl | simp [ATactic.Ds_all, Tm.Ds_all, Ty.Ds_all, ATactic.D, Tm.D, Ty.D, listAll]), ?_⟩; (conv => whnf)
      refine ⟨((k0 + 1 : Nat) : Int), wrap64e (by omega) (by omega) (by omega), ?_⟩; (conv => whnf)
      refine (RunsL.weak ((ih_tactic_Twin_ar_l0 _ _ e _ _ _ _ rfl) (k0 + 1) hlx_v1_2_2_2_2_2_2 hd0) ?_)
      repeat' first | exact wk.of_eq rfl | exact wk.pure rfl | exact wk.un _ | exact wk.hold _ _ _ | exact wk.holdG _ _ _ | exact rfl | exact trivial | refine ⟨?_, ?_⟩ | (refine wk.of_eq ?_; (conv => lhs; whnf); (simp [ATactic.Ds_all, Tm.Ds_all, Ty.Ds_all, ATactic.D, Tm.D, Ty.D, listAll, qv18e, hlx_v1_2_2_2_2_2_2] <;> (repeat' first | rfl | apply And.intro)); done) | (refine wk.pure ?_; (conv => lhs; whnf); (simp [ATactic.Ds_all, Tm.Ds_all, Ty.Ds_all, ATactic.D, Tm.D, Ty.D, listAll, qv18e, hlx_v1_2_2_2_2_2_2] <;> (repeat' first | rfl | apply And.intro)); done) | ((simp [ATactic.Ds_all, Tm.Ds_all, Ty.Ds_all, ATactic.D, Tm.D, Ty.D, listAll, qv18e, hlx_v1_2_2_2_2_2_2] <;> (repeat' first | rfl | apply And.intro)); done) | (simp [ATactic.Ds_all, Tm.Ds_all, Ty.Ds_all, ATactic.D, Tm.D, Ty.D, listAll, qv18e, hlx_v1_2_2_2_2_2_2]; omega)
theorem P_tactic_Twin_ar_l0 {rest0 : (List ATactic)} {c1_10_0 : (List ATactic)} {a0 : ATactic} {v1 : (Int × ByteArray × Bool × ByteArray × (List Ty) × Int × (List Tm))} {r : (Int × Int × Int × Int × ByteArray × Bool × ByteArray × (List Ty) × Int × (List Tm) × (List ATactic))} (e : tactic_Twin_ar_l0 rest0 c1_10_0 a0 v1 = some r) : M_tactic_Twin_ar_l0 rest0 c1_10_0 a0 v1 r := G_tactic_Twin_ar_l0 _ _ e _ _ _ _ rfl
theorem P_tactic_Twin_ar {a0 : ATactic} {r : (Int × Int × Int × Int × ByteArray × Bool × ByteArray × (List Ty) × Int × (List Tm) × (List ATactic))} (e : tactic_Twin_ar a0 = some r) : IoR Try.prog 42 [.d (ATactic.D a0)] [] (.agg [.d (.int .u8 r.1), .d (.int .i64 r.2.1), .d (.int .i64 r.2.2.1), .d (.int .u8 r.2.2.2.1), .d (.str r.2.2.2.2.1), .d (.bool r.2.2.2.2.2.1), .d (.str r.2.2.2.2.2.2.1), .d (.slice 3 (Ty.Ds r.2.2.2.2.2.2.2.1)), .d (.int .i64 r.2.2.2.2.2.2.2.2.1), .arr 0 0 0 (Tm.Ds r.2.2.2.2.2.2.2.2.2.1).length 7, .arr 0 1 0 (ATactic.Ds r.2.2.2.2.2.2.2.2.2.2).length 11]) ([.arr 7 (Tm.Ds r.2.2.2.2.2.2.2.2.2.1), .arr 11 (ATactic.Ds r.2.2.2.2.2.2.2.2.2.2)]) := by
  unfold tactic_Twin_ar at e
  refine io_of_awpG [11] (js := []) TA_ok Try.func42 rfl (by decide +kernel) rfl ?_; (conv => whnf)
  obtain ⟨v1, qv1, e⟩ := bnd e
  have hlx_v1_2_2_2_2_2_2 : v1.2.2.2.2.2.2.length = (Tm.Ds v1.2.2.2.2.2.2).length := (Tm.Ds_len _).symm
  refine said_iorF (P_terms_Twin_ar qv1) [] [.d (Tm.D a0.term)] rfl ⟨wk.pure rfl, trivial⟩ rfl rfl ?_; (conv => whnf)
  refine Runs.holdG 11 ?_
  refine RunsL.runs (RunsL.weak ((P_tactic_Twin_ar_l0 e) 0 hlx_v1_2_2_2_2_2_2 (by simp)) ?_)
  repeat' first | exact wk.of_eq rfl | exact wk.pure rfl | exact wk.un _ | exact wk.hold _ _ _ | exact wk.holdG _ _ _ | exact rfl | exact trivial | refine ⟨?_, ?_⟩ | (refine wk.of_eq ?_; (conv => lhs; whnf); (simp [ATactic.Ds_all, Tm.Ds_all, Ty.Ds_all, ATactic.D, Tm.D, Ty.D, listAll, hlx_v1_2_2_2_2_2_2] <;> (repeat' first | rfl | apply And.intro)); done) | (refine wk.pure ?_; (conv => lhs; whnf); (simp [ATactic.Ds_all, Tm.Ds_all, Ty.Ds_all, ATactic.D, Tm.D, Ty.D, listAll, hlx_v1_2_2_2_2_2_2] <;> (repeat' first | rfl | apply And.intro)); done) | ((simp [ATactic.Ds_all, Tm.Ds_all, Ty.Ds_all, ATactic.D, Tm.D, Ty.D, listAll, hlx_v1_2_2_2_2_2_2] <;> (repeat' first | rfl | apply And.intro)); done) | (simp [ATactic.Ds_all, Tm.Ds_all, Ty.Ds_all, ATactic.D, Tm.D, Ty.D, listAll, hlx_v1_2_2_2_2_2_2]; omega)
def M_sequentref29_Size (a0 : ATactic) (r : Int) : Prop := Pure Try.prog 93 [(ATactic.D a0)] (.int .i64 r)
def M_sequentref29_Size_l0 (rest0 : (List ATactic)) (t3_0 : Int) (r : Int) : Prop := ∀ (a0 : ATactic) (k0 : Nat) (hd0 : rest0 = a0.kids.drop k0), LoopAt T Try.prog Try.f93 Fx0 [] [1, 1, 0, 1, 0] (EP T Try.f93 (.int .i64 r)) [(1, .ptr 0 0 0), (3, .d (.int .i64 t3_0)), (4, .d (.int .i64 (k0 : Int)))] [[.cells [.d (.int .u8 a0.kind), .d (.int .i64 a0.at_), .d (.int .i64 a0.to_), .d (.int .u8 a0.term.kind), .d (.str a0.term.name), .d (.bool a0.term.ty.v), .d (.str a0.term.ty.name), .d (.slice 3 (Ty.Ds a0.term.ty.args)), .d (.int .i64 a0.term.index), .d (.slice 7 (Tm.Ds a0.term.sub)), .d (.slice 11 (ATactic.Ds a0.kids))]]]
theorem G_sequentref29_Size : (∀ p r, sequentref29_Size' p = some r → ∀ a0, a0 = p → M_sequentref29_Size a0 r) ∧
    (∀ p r, sequentref29_Size_l0' p = some r → ∀ rest0 t3_0, (rest0, t3_0) = p → M_sequentref29_Size_l0 rest0 t3_0 r) := by
  refine sequentref29_Size'.mutual_partial_correctness (fun (p : ATactic) (r : Int) => ∀ (a0 : ATactic), a0 = p → M_sequentref29_Size a0 r) (fun (p : ((List ATactic) × Int)) (r : Int) => ∀ (rest0 : (List ATactic)) (t3_0 : Int), (rest0, t3_0) = p → M_sequentref29_Size_l0 rest0 t3_0 r) ?_ ?_
  · intro f_sequentref29_Size_l0 ih_sequentref29_Size_l0 p r e a0 hp
    subst hp
    refine pure_of_awp (js := []) T_ok Try.func93 rfl (by decide +kernel) rfl ?_; (conv => whnf)
    refine RunsL.runs (RunsL.weak ((ih_sequentref29_Size_l0 _ _ e _ _ rfl) a0 0 (by simp)) ?_)
    repeat' first | exact wk.of_eq rfl | exact wk.pure rfl | exact wk.un _ | exact wk.hold _ _ _ | exact wk.holdG _ _ _ | exact rfl | exact trivial | refine ⟨?_, ?_⟩
  · intro f_sequentref29_Size f_sequentref29_Size_l0 ih_sequentref29_Size ih_sequentref29_Size_l0 p r e rest0 t3_0 hp
    subst hp
    intro a0 k0 hd0
    refine RunsL.len_cell 0 10 rfl rfl rfl fun hlenk0 => ?_
    refine RunsL.of_awp (js := []) T_ok ?_; (conv => whnf)
    have hls := ATactic.Ds_len a0.kids
    cases rest0 with
    | nil =>
      have hk := drop_nil hd0
      refine ⟨⟨fun h => absurd h (by omega), fun _ => ?_⟩⟩; (conv => whnf)
      obtain rfl := sm e
      repeat' first | exact rfl | exact trivial | refine ⟨?_, ?_⟩
    | cons v5 rest0 =>
      obtain ⟨hxv5, hd0, hltv5⟩ := drop_head hd0
      refine ⟨⟨fun _ => ?_, fun h => absurd (by omega) h⟩⟩; (conv => whnf)
      refine ⟨k0, _, rfl, ATactic.Ds_get hxv5, ?_⟩; (conv => whnf)
      refine ⟨ATactic.Ds_fit _ rfl rfl, ?_⟩; (conv => whnf)
      obtain ⟨v6, qv6, e⟩ := bnd e
      refine said_pure (ih_sequentref29_Size _ _ qv6 _ rfl) rfl ?_; (conv => whnf)
      obtain ⟨v7, qv7, e⟩ := bnd e
      refine ⟨v7, sm qv7, ?_⟩; (conv => whnf)
      refine ⟨((k0 + 1 : Nat) : Int), wrap64e (by omega) (by omega) (by omega), ?_⟩; (conv => whnf)
      refine (RunsL.weak ((ih_sequentref29_Size_l0 _ _ e _ _ rfl) a0 (k0 + 1) hd0) ?_)
      repeat' first | exact wk.of_eq rfl | exact wk.pure rfl | exact wk.un _ | exact wk.hold _ _ _ | exact wk.holdG _ _ _ | exact rfl | exact trivial | refine ⟨?_, ?_⟩
theorem P_sequentref29_Size {a0 : ATactic} {r : Int} (e : sequentref29_Size a0 = some r) : M_sequentref29_Size a0 r := G_sequentref29_Size.1 _ _ e _ rfl
def M_sequentref29_Depth (a0 : ATactic) (r : Int) : Prop := Pure Try.prog 94 [(ATactic.D a0)] (.int .i64 r)
def M_sequentref29_Depth_l0 (rest0 : (List ATactic)) (t3_0 : Int) (r : Int) : Prop := ∀ (a0 : ATactic) (k0 : Nat) (hd0 : rest0 = a0.kids.drop k0), LoopAt T Try.prog Try.f94 Fx0 [] [1, 1, 0, 1, 0] (EP T Try.f94 (.int .i64 r)) [(1, .ptr 0 0 0), (3, .d (.int .i64 t3_0)), (4, .d (.int .i64 (k0 : Int)))] [[.cells [.d (.int .u8 a0.kind), .d (.int .i64 a0.at_), .d (.int .i64 a0.to_), .d (.int .u8 a0.term.kind), .d (.str a0.term.name), .d (.bool a0.term.ty.v), .d (.str a0.term.ty.name), .d (.slice 3 (Ty.Ds a0.term.ty.args)), .d (.int .i64 a0.term.index), .d (.slice 7 (Tm.Ds a0.term.sub)), .d (.slice 11 (ATactic.Ds a0.kids))]]]
theorem G_sequentref29_Depth : (∀ p r, sequentref29_Depth' p = some r → ∀ a0, a0 = p → M_sequentref29_Depth a0 r) ∧
    (∀ p r, sequentref29_Depth_l0' p = some r → ∀ rest0 t3_0, (rest0, t3_0) = p → M_sequentref29_Depth_l0 rest0 t3_0 r) := by
  refine sequentref29_Depth'.mutual_partial_correctness (fun (p : ATactic) (r : Int) => ∀ (a0 : ATactic), a0 = p → M_sequentref29_Depth a0 r) (fun (p : ((List ATactic) × Int)) (r : Int) => ∀ (rest0 : (List ATactic)) (t3_0 : Int), (rest0, t3_0) = p → M_sequentref29_Depth_l0 rest0 t3_0 r) ?_ ?_
  · intro f_sequentref29_Depth_l0 ih_sequentref29_Depth_l0 p r e a0 hp
    subst hp
    refine pure_of_awp (js := []) T_ok Try.func94 rfl (by decide +kernel) rfl ?_; (conv => whnf)
    refine RunsL.runs (RunsL.weak ((ih_sequentref29_Depth_l0 _ _ e _ _ rfl) a0 0 (by simp)) ?_)
    repeat' first | exact wk.of_eq rfl | exact wk.pure rfl | exact wk.un _ | exact wk.hold _ _ _ | exact wk.holdG _ _ _ | exact rfl | exact trivial | refine ⟨?_, ?_⟩
  · intro f_sequentref29_Depth f_sequentref29_Depth_l0 ih_sequentref29_Depth ih_sequentref29_Depth_l0 p r e rest0 t3_0 hp
    subst hp
    intro a0 k0 hd0
    refine RunsL.len_cell 0 10 rfl rfl rfl fun hlenk0 => ?_
    refine RunsL.of_awp (js := []) T_ok ?_; (conv => whnf)
    have hls := ATactic.Ds_len a0.kids
    cases rest0 with
    | nil =>
      have hk := drop_nil hd0
      refine ⟨⟨fun h => absurd h (by omega), fun _ => ?_⟩⟩; (conv => whnf)
      obtain ⟨v6, qv6, e⟩ := bnd e
      refine ⟨v6, sm qv6, ?_⟩; (conv => whnf)
      obtain rfl := sm e
      repeat' first | exact rfl | exact trivial | refine ⟨?_, ?_⟩
    | cons v5 rest0 =>
      obtain ⟨hxv5, hd0, hltv5⟩ := drop_head hd0
      refine ⟨⟨fun _ => ?_, fun h => absurd (by omega) h⟩⟩; (conv => whnf)
      refine ⟨k0, _, rfl, ATactic.Ds_get hxv5, ?_⟩; (conv => whnf)
      refine ⟨ATactic.Ds_fit _ rfl rfl, ?_⟩; (conv => whnf)
      obtain ⟨v6, qv6, e⟩ := bnd e
      refine said_pure (ih_sequentref29_Depth _ _ qv6 _ rfl) rfl ?_; (conv => whnf)
      refine ⟨((k0 + 1 : Nat) : Int), wrap64e (by omega) (by omega) (by omega), ?_⟩; (conv => whnf)
      refine (RunsL.weak ((ih_sequentref29_Depth_l0 _ _ e _ _ rfl) a0 (k0 + 1) hd0) ?_)
      repeat' first | exact wk.of_eq rfl | exact wk.pure rfl | exact wk.un _ | exact wk.hold _ _ _ | exact wk.holdG _ _ _ | exact rfl | exact trivial | refine ⟨?_, ?_⟩
theorem P_sequentref29_Depth {a0 : ATactic} {r : Int} (e : sequentref29_Depth a0 = some r) : M_sequentref29_Depth a0 r := G_sequentref29_Depth.1 _ _ e _ rfl
theorem P_sequentref29_kids {a0 : Int} {r : Int} (e : sequentref29_kids a0 = some r) : Pure Try.prog 134 [(.int .u8 a0)] (.int .i64 r) := by
  unfold sequentref29_kids at e
  refine pure_of_awp (js := []) T_ok Try.func134 rfl (by decide +kernel) rfl ?_; (conv => whnf)
  refine ⟨⟨fun h1 => ?_, fun h1 => ?_⟩⟩
  · replace e := ifp h1 e; (conv => whnf)
    refine ⟨⟨fun h2 => ?_, fun h2 => ?_⟩⟩
    · replace e := ifp h2 e; (conv => whnf)
      obtain rfl := sm e
      repeat' first | exact rfl | exact trivial | refine ⟨?_, ?_⟩
    · replace e := ifn h2 e; (conv => whnf)
      refine ⟨⟨fun h3 => ?_, fun h3 => ?_⟩⟩
      · replace e := ifp h3 e; (conv => whnf)
        obtain rfl := sm e
        repeat' first | exact rfl | exact trivial | refine ⟨?_, ?_⟩
      · replace e := ifn h3 e; (conv => whnf)
        refine ⟨⟨fun h4 => ?_, fun h4 => ?_⟩⟩
        · replace e := ifp h4 e; (conv => whnf)
          obtain rfl := sm e
          repeat' first | exact rfl | exact trivial | refine ⟨?_, ?_⟩
        · replace e := ifn h4 e; (conv => whnf)
          refine ⟨⟨fun h5 => ?_, fun h5 => ?_⟩⟩
          · replace e := ifp h5 e; (conv => whnf)
            obtain rfl := sm e
            repeat' first | exact rfl | exact trivial | refine ⟨?_, ?_⟩
          · replace e := ifn h5 e; (conv => whnf)
            refine ⟨⟨fun h6 => ?_, fun h6 => ?_⟩⟩
            · replace e := ifp h6 e; (conv => whnf)
              obtain rfl := sm e
              repeat' first | exact rfl | exact trivial | refine ⟨?_, ?_⟩
            · replace e := ifn h6 e; (conv => whnf)
              obtain rfl := sm e
              repeat' first | exact rfl | exact trivial | refine ⟨?_, ?_⟩
  · replace e := ifn h1 e; (conv => whnf)
    refine ⟨⟨fun h2 => ?_, fun h2 => ?_⟩⟩
    · replace e := ifp h2 e; (conv => whnf)
      obtain rfl := sm e
      repeat' first | exact rfl | exact trivial | refine ⟨?_, ?_⟩
    · replace e := ifn h2 e; (conv => whnf)
      refine ⟨⟨fun h3 => ?_, fun h3 => ?_⟩⟩
      · replace e := ifp h3 e; (conv => whnf)
        obtain rfl := sm e
        repeat' first | exact rfl | exact trivial | refine ⟨?_, ?_⟩
      · replace e := ifn h3 e; (conv => whnf)
        refine ⟨⟨fun h4 => ?_, fun h4 => ?_⟩⟩
        · replace e := ifp h4 e; (conv => whnf)
          obtain rfl := sm e
          repeat' first | exact rfl | exact trivial | refine ⟨?_, ?_⟩
        · replace e := ifn h4 e; (conv => whnf)
          refine ⟨⟨fun h5 => ?_, fun h5 => ?_⟩⟩
          · replace e := ifp h5 e; (conv => whnf)
            obtain rfl := sm e
            repeat' first | exact rfl | exact trivial | refine ⟨?_, ?_⟩
          · replace e := ifn h5 e; (conv => whnf)
            obtain rfl := sm e
            repeat' first | exact rfl | exact trivial | refine ⟨?_, ?_⟩
theorem P_sequentref29_usesAt {a0 : Int} {r : Bool} (e : sequentref29_usesAt a0 = some r) : Pure Try.prog 135 [(.int .u8 a0)] (.bool r) := by
  unfold sequentref29_usesAt at e
  refine pure_of_awp (js := []) T_ok Try.func135 rfl (by decide +kernel) rfl ?_; (conv => whnf)
  refine ⟨⟨fun h1 => ?_, fun h1 => ?_⟩⟩
  · replace e := ifp h1 e; (conv => whnf)
    obtain rfl := sm e
    repeat' first | exact rfl | exact trivial | refine ⟨?_, ?_⟩
  · replace e := ifn h1 e; (conv => whnf)
    refine ⟨⟨fun h2 => ?_, fun h2 => ?_⟩⟩
    · replace e := ifp h2 e; (conv => whnf)
      refine test.dec ?_; (conv => whnf)
      obtain rfl := sm e
      repeat' first | exact rfl | exact trivial | refine ⟨?_, ?_⟩
    · replace e := ifn h2 e; (conv => whnf)
      obtain rfl := sm e
      repeat' first | exact rfl | exact trivial | refine ⟨?_, ?_⟩
theorem P_sequentref29_usesTerm {a0 : Int} {r : Bool} (e : sequentref29_usesTerm a0 = some r) : Pure Try.prog 136 [(.int .u8 a0)] (.bool r) := by
  unfold sequentref29_usesTerm at e
  refine pure_of_awp (js := []) T_ok Try.func136 rfl (by decide +kernel) rfl ?_; (conv => whnf)
  refine ⟨⟨fun h1 => ?_, fun h1 => ?_⟩⟩
  · replace e := ifp h1 e; (conv => whnf)
    obtain rfl := sm e
    repeat' first | exact rfl | exact trivial | refine ⟨?_, ?_⟩
  · replace e := ifn h1 e; (conv => whnf)
    refine ⟨⟨fun h2 => ?_, fun h2 => ?_⟩⟩
    · replace e := ifp h2 e; (conv => whnf)
      obtain rfl := sm e
      repeat' first | exact rfl | exact trivial | refine ⟨?_, ?_⟩
    · replace e := ifn h2 e; (conv => whnf)
      refine test.dec ?_; (conv => whnf)
      obtain rfl := sm e
      repeat' first | exact rfl | exact trivial | refine ⟨?_, ?_⟩
theorem P_sequentref29_Blank {a0 : Tm} {r : Bool} (e : sequentref29_Blank a0 = some r) : Pure Try.prog 102 [(Tm.D a0)] (.bool r) := by
  unfold sequentref29_Blank at e
  refine pure_of_awp (js := []) T_ok Try.func102 rfl (by decide +kernel) rfl ?_; (conv => whnf)
  refine ⟨⟨fun h1 => ?_, fun h1 => ?_⟩⟩
  · replace e := ifp h1 e; (conv => whnf)
    refine ⟨⟨fun h2 => ?_, fun h2 => ?_⟩⟩
    · replace e := ifp h2 e; (conv => whnf)
      refine brK.nsplit (fun hb3 => ?_) (fun hb3 => ?_)
      · replace e := ifpb hb3 e; (conv => whnf)
        refine brK.ntt hb3 ?_; (conv => whnf)
        refine brK.ntt hb3 ?_; (conv => whnf)
        refine brK.ntt hb3 ?_; (conv => whnf)
        refine brK.ntt hb3 ?_; (conv => whnf)
        obtain rfl := sm e
        repeat' first | exact rfl | exact trivial | refine ⟨?_, ?_⟩
      · replace e := ifnb hb3 e; (conv => whnf)
        refine brK.nff hb3 ?_; (conv => whnf)
        refine brK.nff hb3 ?_; (conv => whnf)
        refine brK.nff hb3 ?_; (conv => whnf)
        refine ⟨⟨fun h4 => ?_, fun h4 => ?_⟩⟩
        · replace e := ifp h4 e; (conv => whnf)
          refine brK.nff hb3 ?_; (conv => whnf)
          refine ⟨⟨fun h5 => ?_, fun h5 => ?_⟩⟩
          · replace e := ifp (by first | exact h5 | omega | simpa [Tm.Ds_all, Ty.Ds_all, Tm.D, Ty.D, listAll] using h5) e; (conv => whnf)
            refine ⟨⟨fun h6 => ?_, fun h6 => ?_⟩⟩
            · replace e := ifp h6 e; (conv => whnf)
              refine test.dec ?_; (conv => whnf)
              obtain rfl := sm e
              repeat' first | exact rfl | exact trivial | refine ⟨?_, ?_⟩
            · replace e := ifn h6 e; (conv => whnf)
              obtain rfl := sm e
              repeat' first | exact rfl | exact trivial | refine ⟨?_, ?_⟩
          · replace e := ifn (by first | exact h5 | omega | simpa [Tm.Ds_all, Ty.Ds_all, Tm.D, Ty.D, listAll] using h5) e; (conv => whnf)
            obtain rfl := sm e
            repeat' first | exact rfl | exact trivial | refine ⟨?_, ?_⟩
        · replace e := ifn h4 e; (conv => whnf)
          refine brK.nff hb3 ?_; (conv => whnf)
          obtain rfl := sm e
          repeat' first | exact rfl | exact trivial | refine ⟨?_, ?_⟩
    · replace e := ifn h2 e; (conv => whnf)
      obtain rfl := sm e
      repeat' first | exact rfl | exact trivial | refine ⟨?_, ?_⟩
  · replace e := ifn h1 e; (conv => whnf)
    obtain rfl := sm e
    repeat' first | exact rfl | exact trivial | refine ⟨?_, ?_⟩
end Go.Proofs.Ytdjmibbgoajcaaa.Fw

