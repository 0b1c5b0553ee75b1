/- The code computes the functions. -/
import Derived.Test.YtdjmibbgoajcaaaGTab
set_option autoImplicit false
set_option linter.unusedVariables false
set_option linter.unusedSimpArgs false
namespace Go.Proofs.Ytdjmibbgoajcaaa.Fw
open Go Go.Proofs Go.RowKit
theorem P_cmpstr {a b : ByteArray} {r : Int} (e : cmpstr a b = some r) : Pure Try.prog 171 [.str a, .str b] (.int .i64 r) := by
  obtain rfl := sm e
  refine ⟨fun H w vs hm hn hr => .inr ⟨.int .i64 (bcmp a b), w, ?_, _, H, rfl, Imm.ext.refl _ _, hm, .int _ _, Below.refl _ _⟩⟩
  obtain ⟨v0, v1, rfl⟩ : ∃ v0 v1, vs = [v0, v1] := by
    match vs, hn with
    | [v0, v1], _ => exact ⟨v0, v1, rfl⟩
  have h0 := hr 0 (by simp)
  have h1 := hr 1 (by simp)
  simp only [List.getD_cons_zero, List.getElem_cons_zero, List.getD_cons_succ, List.getElem_cons_succ] at h0 h1
  cases h0
  cases h1
  rw [run_callFunc_extern Try.func171 (by decide +kernel) (by rfl) (by kernel_rfl) (e := Extern.BytealgCompare.compare) (by kernel_rfl)]
  change (Sem.run Try.prog (do pure (goInt (Extern.BytealgCompare.cmp (← Extern.Bytes.bytesOf (.string a)) (← Extern.Bytes.bytesOf (.string b))))) w).andThen _ = _
  simp [Extern.Bytes.bytesOf, goInt, cmp_bcmp]
def M_equality_depth (p : Tm) (r : Int) : Prop := ∀ (a0 : Tm), a0 = p → Pure Try.prog 150 [(Tm.D a0)] (.int .i64 r)
def M_equality_depth_l0 (p : ((List Tm) × Int)) (r : Int) : Prop := ∀ (rest0 : (List Tm)) (t3_0 : Int), (rest0, t3_0) = p → ∀ (a0 : Tm) (k0 : Nat) (hd0 : rest0 = a0.sub.drop k0), RunsL Try.prog Try.f150.ntmps [] (codeAt [1, 1, 0, 1, 0, 0] (bodyOf Try.f150)) (qAt T Try.prog Try.f150.ntmps [] [] [1, 1, 0, 1, 0] (bodyOf Try.f150) (EndPure T Try.f150.results.toList (.int .i64 r))) [(3, .d (.int .i64 t3_0)), (7, .d (.slice 7 (Tm.Ds a0.sub))), (8, .d (.int .i64 ((Tm.Ds a0.sub).length : Int))), (9, .d (.int .i64 (k0 : Int)))] [[]]
theorem G_equality_depth : (∀ p r, equality_depth' p = some r → M_equality_depth p r) ∧
    (∀ p r, equality_depth_l0' p = some r → M_equality_depth_l0 p r) := by
  refine equality_depth'.mutual_partial_correctness M_equality_depth M_equality_depth_l0 ?_ ?_
  · intro f_equality_depth_l0 ih_equality_depth_l0 p r e a0 hp
    subst hp
    refine pure_of_awp (js := []) T_ok Try.func150 rfl (by decide +kernel) rfl ?_; (conv => whnf)
    refine RunsL.runs (RunsL.weak ((ih_equality_depth_l0 _ _ e _ _ rfl) a0 0 (by simp)) ?_)
    repeat' first | exact wk.of_eq rfl | exact wk.pure rfl | exact wk.un _ | exact rfl | exact trivial | refine ⟨?_, ?_⟩ | (refine wk.of_eq ?_; (conv => lhs; whnf); (simp [Tm.Ds_all, Ty.Ds_all, Tm.D, Ty.D, listAll] <;> (repeat' first | rfl | apply And.intro)); done) | (refine wk.pure ?_; (conv => lhs; whnf); (simp [Tm.Ds_all, Ty.Ds_all, Tm.D, Ty.D, listAll] <;> (repeat' first | rfl | apply And.intro)); done) | ((simp [Tm.Ds_all, Ty.Ds_all, Tm.D, Ty.D, listAll] <;> (repeat' first | rfl | apply And.intro)); done)
  · intro f_equality_depth f_equality_depth_l0 ih_equality_depth ih_equality_depth_l0 p r e rest0 t3_0 hp
    subst hp
    intro a0 k0 hd0
    refine RunsL.len_tmp 7 rfl fun hlenk0 => ?_
    refine RunsL.of_awp (js := []) T_ok ?_; (conv => whnf)
    have hls := Tm.Ds_len a0.sub
    cases rest0 with
    | nil =>
      have hk := drop_nil hd0
      refine ⟨⟨fun h => absurd h (by omega), fun _ => ?_⟩⟩; (conv => whnf)
      obtain ⟨v3, qv3, e⟩ := bnd e
      refine ⟨v3, sm qv3, ?_⟩; (conv => whnf)
      obtain rfl := sm e
      repeat' first | exact rfl | exact trivial | refine ⟨?_, ?_⟩
    | cons v1 rest0 =>
      obtain ⟨hxv1, hd0, hltv1⟩ := drop_head hd0
      refine ⟨⟨fun _ => ?_, fun h => absurd (by omega) h⟩⟩; (conv => whnf)
      refine ⟨k0, _, rfl, Tm.Ds_get hxv1, ?_⟩; (conv => whnf)
      refine ⟨Tm.Ds_fit _ rfl rfl, ?_⟩; (conv => whnf)
      obtain ⟨v2, qv2, e⟩ := bnd e
      refine said_pure (ih_equality_depth _ _ qv2 _ rfl) rfl ?_; (conv => whnf)
      refine ⟨((k0 + 1 : Nat) : Int), wrap64e (by omega) (by omega) (by omega), ?_⟩; (conv => whnf)
      refine (RunsL.weak ((ih_equality_depth_l0 _ _ e _ _ rfl) a0 (k0 + 1) hd0) ?_)
      repeat' first | exact wk.of_eq rfl | exact wk.pure rfl | exact wk.un _ | exact rfl | exact trivial | refine ⟨?_, ?_⟩ | (refine wk.of_eq ?_; (conv => lhs; whnf); (simp [Tm.Ds_all, Ty.Ds_all, Tm.D, Ty.D, listAll] <;> (repeat' first | rfl | apply And.intro)); done) | (refine wk.pure ?_; (conv => lhs; whnf); (simp [Tm.Ds_all, Ty.Ds_all, Tm.D, Ty.D, listAll] <;> (repeat' first | rfl | apply And.intro)); done) | ((simp [Tm.Ds_all, Ty.Ds_all, Tm.D, Ty.D, listAll] <;> (repeat' first | rfl | apply And.intro)); done)
theorem P_equality_depth {a0 : Tm} {r : Int} (e : equality_depth a0 = some r) : Pure Try.prog 150 [(Tm.D a0)] (.int .i64 r) := G_equality_depth.1 _ _ e _ rfl
theorem P_equality_depth_l0 {rest0 : (List Tm)} {t3_0 : Int} {r : Int} (e : equality_depth_l0 rest0 t3_0 = some r) : ∀ (a0 : Tm) (k0 : Nat) (hd0 : rest0 = a0.sub.drop k0), RunsL Try.prog Try.f150.ntmps [] (codeAt [1, 1, 0, 1, 0, 0] (bodyOf Try.f150)) (qAt T Try.prog Try.f150.ntmps [] [] [1, 1, 0, 1, 0] (bodyOf Try.f150) (EndPure T Try.f150.results.toList (.int .i64 r))) [(3, .d (.int .i64 t3_0)), (7, .d (.slice 7 (Tm.Ds a0.sub))), (8, .d (.int .i64 ((Tm.Ds a0.sub).length : Int))), (9, .d (.int .i64 (k0 : Int)))] [[]] := G_equality_depth.2 _ _ e _ _ rfl

def M_types_Twin (p : Ty) (r : Ty) : Prop := ∀ (a0 : Ty), a0 = p → Pure Try.prog 123 [(Ty.D a0)] (Ty.D r)
def M_types_Twin_j0 (p : (Ty × (List Ty))) (r : Ty) : Prop := ∀ (a0 : Ty) (v2 : (List Ty)), (a0, v2) = p → ∀ (nv2 : Nat) (hlv2 : v2.length = nv2), Runs Try.prog Try.f123.ntmps [] (codeAt [1, 1, 1, 1, 0, 0] (bodyOf Try.f123)) (qAt T Try.prog Try.f123.ntmps [] [5] [1, 1, 1, 1, 0, 0] (bodyOf Try.f123) (EndPure T Try.f123.results.toList (Ty.D r))) [(1, .ptr 0 0 0), (2, .ptr 0 1 0), (3, .d (.slice 3 (Ty.Ds a0.args)))] [[.cells [.d (.bool a0.v), .d (.str a0.name), .arr 0 2 0 nv2 3], .cells [.d (.bool false), .d (.str ByteArray.empty), .nil 3], .arr 3 (Ty.Ds v2)]]
def M_types_Twin_l0 (p : ((List Ty) × Nat × (List Ty) × Ty)) (r : Ty) : Prop := ∀ (rest0 : (List Ty)) (k0 : Nat) (a2_0 : (List Ty)) (a0 : Ty), (rest0, k0, a2_0, a0) = p → ∀ (nv2 : Nat) (hla2_0 : a2_0.length = nv2) (hd0 : rest0 = a0.args.drop k0), RunsL Try.prog Try.f123.ntmps [] (codeAt [1, 1, 1, 1, 0, 1, 0, 0] (bodyOf Try.f123)) (qAt T Try.prog Try.f123.ntmps [] [5] [1, 1, 1, 1, 0, 1, 0] (bodyOf Try.f123) (EndPure T Try.f123.results.toList (Ty.D r))) [(1, .ptr 0 0 0), (2, .ptr 0 1 0), (16, .d (.slice 3 (Ty.Ds a0.args))), (17, .d (.int .i64 ((Ty.Ds a0.args).length : Int))), (18, .d (.int .i64 (k0 : Int)))] [[.cells [.d (.bool a0.v), .d (.str a0.name), .arr 0 2 0 nv2 3], .cells [.d (.bool false), .d (.str ByteArray.empty), .nil 3], .arr 3 (Ty.Ds a2_0)]]
def M_types_Twin_j0b (p : Ty) (r : Ty) : Prop := ∀ (a0 : Ty), a0 = p → Runs Try.prog Try.f123.ntmps [] (codeAt [1, 1, 1, 1, 0, 0] (bodyOf Try.f123)) (qAt T Try.prog Try.f123.ntmps [] [5] [1, 1, 1, 1, 0, 0] (bodyOf Try.f123) (EndPure T Try.f123.results.toList (Ty.D r))) [(1, .ptr 0 0 0), (2, .ptr 0 1 0), (3, .d (.slice 3 (Ty.Ds a0.args)))] [[.cells [.d (.bool a0.v), .d (.str a0.name), .nil 3], .cells [.d (.bool false), .d (.str ByteArray.empty), .nil 3]]]
def M_types_Twin_l0b (p : ((List Ty) × Ty)) (r : Ty) : Prop := ∀ (rest0 : (List Ty)) (a0 : Ty), (rest0, a0) = p → ∀ (k0 : Nat) (hd0 : rest0 = a0.args.drop k0), RunsL Try.prog Try.f123.ntmps [] (codeAt [1, 1, 1, 1, 0, 1, 0, 0] (bodyOf Try.f123)) (qAt T Try.prog Try.f123.ntmps [] [5] [1, 1, 1, 1, 0, 1, 0] (bodyOf Try.f123) (EndPure T Try.f123.results.toList (Ty.D r))) [(1, .ptr 0 0 0), (2, .ptr 0 1 0), (16, .d (.slice 3 (Ty.Ds a0.args))), (17, .d (.int .i64 ((Ty.Ds a0.args).length : Int))), (18, .d (.int .i64 (k0 : Int)))] [[.cells [.d (.bool a0.v), .d (.str a0.name), .nil 3], .cells [.d (.bool false), .d (.str ByteArray.empty), .nil 3]]]
theorem G_types_Twin : (∀ p r, types_Twin' p = some r → M_types_Twin p r) ∧
    (∀ p r, types_Twin_j0b' p = some r → M_types_Twin_j0b p r) ∧
    (∀ p r, types_Twin_l0b' p = some r → M_types_Twin_l0b p r) ∧
    (∀ p r, types_Twin_j0' p = some r → M_types_Twin_j0 p r) ∧
    (∀ p r, types_Twin_l0' p = some r → M_types_Twin_l0 p r) := by
  refine types_Twin'.mutual_partial_correctness M_types_Twin M_types_Twin_j0b M_types_Twin_l0b M_types_Twin_j0 M_types_Twin_l0 ?_ ?_ ?_ ?_ ?_
  · intro f_types_Twin_j0b f_types_Twin_j0 ih_types_Twin_j0b ih_types_Twin_j0 p r e a0 hp
    subst hp
    refine pure_of_awp (js := [5]) T_ok Try.func123 rfl (by decide +kernel) rfl ?_; (conv => whnf)
    refine ⟨⟨fun h1 => ?_, fun h1 => ?_⟩⟩
    · replace e := ifp (by first | exact h1 | simpa [Ty.Ds_all, Ty.D, listAll] using h1) e; (conv => whnf)
      obtain ⟨v2, qv2, e⟩ := bnd e
      obtain ⟨nv2, qv2a, qv2b, qv2c⟩ := mkn_some qv2
      have hlv2 : v2.length = nv2 := by rw [qv2c]; simp
      refine ⟨nv2, nv2, congrArg (fun z => AV.d (D.int .i64 z)) qv2a, congrArg (fun z => AV.d (D.int .i64 z)) qv2a, Nat.le_refl _, qv2b, .inr ⟨rfl, ?_⟩⟩; (conv => whnf)
      refine Runs.weak ((ih_types_Twin_j0 _ _ e _ _ rfl) nv2 hlv2) ?_
      repeat' first | exact wk.of_eq rfl | exact wk.pure rfl | exact wk.un _ | exact rfl | exact trivial | refine ⟨?_, ?_⟩ | (refine wk.of_eq ?_; (conv => lhs; whnf); (simp [Ty.Ds_all, Ty.D, listAll, qv2c, hlv2] <;> (repeat' first | rfl | apply And.intro)); done) | (refine wk.pure ?_; (conv => lhs; whnf); (simp [Ty.Ds_all, Ty.D, listAll, qv2c, hlv2] <;> (repeat' first | rfl | apply And.intro)); done) | ((simp [Ty.Ds_all, Ty.D, listAll, qv2c, hlv2] <;> (repeat' first | rfl | apply And.intro)); done)
    · replace e := ifn (by first | exact h1 | simpa [Ty.Ds_all, Ty.D, listAll] using h1) e; (conv => whnf)
      refine Runs.weak (ih_types_Twin_j0b _ _ e _ rfl) ?_
      repeat' first | exact wk.of_eq rfl | exact wk.pure rfl | exact wk.un _ | exact rfl | exact trivial | refine ⟨?_, ?_⟩ | (refine wk.of_eq ?_; (conv => lhs; whnf); (simp [Ty.Ds_all, Ty.D, listAll] <;> (repeat' first | rfl | apply And.intro)); done) | (refine wk.pure ?_; (conv => lhs; whnf); (simp [Ty.Ds_all, Ty.D, listAll] <;> (repeat' first | rfl | apply And.intro)); done) | ((simp [Ty.Ds_all, Ty.D, listAll] <;> (repeat' first | rfl | apply And.intro)); done)
  · intro f_types_Twin_l0b ih_types_Twin_l0b p r e a0 hp
    subst hp
    refine Runs.enter T_ok ?_; (conv => whnf)
    refine RunsL.runs (RunsL.weak ((ih_types_Twin_l0b _ _ e _ _ rfl) 0 (by simp)) ?_)
    repeat' first | exact wk.of_eq rfl | exact wk.pure rfl | exact wk.un _ | exact rfl | exact trivial | refine ⟨?_, ?_⟩ | (refine wk.of_eq ?_; (conv => lhs; whnf); (simp [Ty.Ds_all, Ty.D, listAll] <;> (repeat' first | rfl | apply And.intro)); done) | (refine wk.pure ?_; (conv => lhs; whnf); (simp [Ty.Ds_all, Ty.D, listAll] <;> (repeat' first | rfl | apply And.intro)); done) | ((simp [Ty.Ds_all, Ty.D, listAll] <;> (repeat' first | rfl | apply And.intro)); done)
  · intro f_types_Twin ih_types_Twin p r e rest0 a0 hp
    subst hp
    intro k0 hd0
    refine RunsL.len_tmp 16 rfl fun hlenk0 => ?_
    refine RunsL.of_awp (js := [5]) T_ok ?_; (conv => whnf)
    have hls := Ty.Ds_len a0.args
    cases rest0 with
    | nil =>
      have hk := drop_nil hd0
      refine ⟨⟨fun h => absurd h (by omega), fun _ => ?_⟩⟩; (conv => whnf)
      obtain rfl := sm e
      repeat' first | exact rfl | exact trivial | refine ⟨?_, ?_⟩
    | cons v8 rest0 =>
      obtain ⟨hxv8, hd0, hltv8⟩ := drop_head hd0
      refine ⟨⟨fun _ => ?_, fun h => absurd (by omega) h⟩⟩; (conv => whnf)
      refine ⟨k0, _, rfl, Ty.Ds_get hxv8, ?_⟩; (conv => whnf)
      refine ⟨Ty.Ds_fit _ rfl rfl, ?_⟩; (conv => whnf)
      refine draw_rule T_ok mixed types_Twin_pl8 (by decide +kernel) ?_; (conv => whnf)
      obtain ⟨v9, qv9, e⟩ := bnd e
      refine said_pure (ih_types_Twin _ _ qv9 _ rfl) rfl ⟨rfl, ?_⟩; (conv => whnf)
      cases e
  · intro f_types_Twin_l0 ih_types_Twin_l0 p r e a0 v2 hp
    subst hp
    intro nv2 hlv2
    refine Runs.enter T_ok ?_; (conv => whnf)
    refine RunsL.runs (RunsL.weak ((ih_types_Twin_l0 _ _ e _ _ _ _ rfl) nv2 hlv2 (by simp)) ?_)
    repeat' first | exact wk.of_eq rfl | exact wk.pure rfl | exact wk.un _ | exact rfl | exact trivial | refine ⟨?_, ?_⟩ | (refine wk.of_eq ?_; (conv => lhs; whnf); (simp [Ty.Ds_all, Ty.D, listAll, hlv2] <;> (repeat' first | rfl | apply And.intro)); done) | (refine wk.pure ?_; (conv => lhs; whnf); (simp [Ty.Ds_all, Ty.D, listAll, hlv2] <;> (repeat' first | rfl | apply And.intro)); done) | ((simp [Ty.Ds_all, Ty.D, listAll, hlv2] <;> (repeat' first | rfl | apply And.intro)); done)
  · intro f_types_Twin f_types_Twin_l0 ih_types_Twin ih_types_Twin_l0 p r e rest0 k0 a2_0 a0 hp
    subst hp
    intro nv2 hla2_0 hd0
    refine RunsL.len_tmp 16 rfl fun hlenk0 => ?_
    refine RunsL.of_awp (js := [5]) T_ok ?_; (conv => whnf)
    have hls := Ty.Ds_len a0.args
    cases rest0 with
    | nil =>
      have hk := drop_nil hd0
      refine ⟨⟨fun h => absurd h (by omega), fun _ => ?_⟩⟩; (conv => whnf)
      obtain rfl := sm e
      repeat' first | exact rfl | exact trivial | exact ⟨_, rfl, (by first | exact rfl | (simp [Ty.Ds_all, Ty.D, listAll, hla2_0] <;> (repeat' first | rfl | apply And.intro))), (by first | exact rfl | (simp [Ty.Ds_all, Ty.D, listAll, hla2_0] <;> (repeat' first | rfl | apply And.intro)))⟩ | refine ⟨?_, ?_⟩ | (simp [Ty.Ds_all, Ty.D, listAll, hla2_0] <;> (repeat' first | rfl | apply And.intro))
    | cons v3 rest0 =>
      obtain ⟨hxv3, hd0, hltv3⟩ := drop_head hd0
      refine ⟨⟨fun _ => ?_, fun h => absurd (by omega) h⟩⟩; (conv => whnf)
      refine ⟨k0, _, rfl, Ty.Ds_get hxv3, ?_⟩; (conv => whnf)
      refine ⟨Ty.Ds_fit _ rfl rfl, ?_⟩; (conv => whnf)
      refine draw_rule T_ok mixed types_Twin_pl8 (by decide +kernel) ?_; (conv => whnf)
      obtain ⟨v4, qv4, e⟩ := bnd e
      refine said_pure (ih_types_Twin _ _ qv4 _ rfl) rfl ⟨rfl, ?_⟩; (conv => whnf)
      obtain ⟨g6, qg6, e⟩ := bnd e
      obtain ⟨k5, k5a⟩ : ∃ k5 : Nat, (k0 : Int) = k5 := ⟨((k0 : Int)).toNat, by have := wantb_some qg6; omega⟩
      refine ⟨k5, k5a, by have := wantb_some qg6; omega, ?_⟩; simp only [Nat.zero_add]; (conv => whnf)
      obtain ⟨v7, qv7, e⟩ := bnd e
      obtain ⟨qv7k, qv7a, qv7b, qv7c⟩ := seti_some qv7
      obtain rfl : k5 = qv7k := by omega
      have hlv7 : v7.length = nv2 := by rw [qv7c]; simp [hla2_0]
      refine ⟨(by first | exact qv7b | simpa [Ty.Ds_all, Ty.D, listAll] using qv7b), Ty.Ds_fit _ rfl rfl, rfl, ?_⟩
      (conv => whnf)
      refine ⟨((k0 + 1 : Nat) : Int), wrap64e (by omega) (by omega) (by omega), ?_⟩; (conv => whnf)
      refine (RunsL.weak ((ih_types_Twin_l0 _ _ e _ _ _ _ rfl) nv2 hlv7 hd0) ?_)
      repeat' first | exact wk.of_eq rfl | exact wk.pure rfl | exact wk.un _ | exact rfl | exact trivial | refine ⟨?_, ?_⟩ | (refine wk.of_eq ?_; (conv => lhs; whnf); (simp [Ty.Ds_all, Ty.D, listAll, qv7c, hlv7] <;> (repeat' first | rfl | apply And.intro)); done) | (refine wk.pure ?_; (conv => lhs; whnf); (simp [Ty.Ds_all, Ty.D, listAll, qv7c, hlv7] <;> (repeat' first | rfl | apply And.intro)); done) | ((simp [Ty.Ds_all, Ty.D, listAll, qv7c, hlv7] <;> (repeat' first | rfl | apply And.intro)); done)
theorem P_types_Twin {a0 : Ty} {r : Ty} (e : types_Twin a0 = some r) : Pure Try.prog 123 [(Ty.D a0)] (Ty.D r) := G_types_Twin.1 _ _ e _ rfl
theorem P_types_Twin_j0b {a0 : Ty} {r : Ty} (e : types_Twin_j0b a0 = some r) : Runs Try.prog Try.f123.ntmps [] (codeAt [1, 1, 1, 1, 0, 0] (bodyOf Try.f123)) (qAt T Try.prog Try.f123.ntmps [] [5] [1, 1, 1, 1, 0, 0] (bodyOf Try.f123) (EndPure T Try.f123.results.toList (Ty.D r))) [(1, .ptr 0 0 0), (2, .ptr 0 1 0), (3, .d (.slice 3 (Ty.Ds a0.args)))] [[.cells [.d (.bool a0.v), .d (.str a0.name), .nil 3], .cells [.d (.bool false), .d (.str ByteArray.empty), .nil 3]]] := G_types_Twin.2.1 _ _ e _ rfl
theorem P_types_Twin_l0b {rest0 : (List Ty)} {a0 : Ty} {r : Ty} (e : types_Twin_l0b rest0 a0 = some r) : ∀ (k0 : Nat) (hd0 : rest0 = a0.args.drop k0), RunsL Try.prog Try.f123.ntmps [] (codeAt [1, 1, 1, 1, 0, 1, 0, 0] (bodyOf Try.f123)) (qAt T Try.prog Try.f123.ntmps [] [5] [1, 1, 1, 1, 0, 1, 0] (bodyOf Try.f123) (EndPure T Try.f123.results.toList (Ty.D r))) [(1, .ptr 0 0 0), (2, .ptr 0 1 0), (16, .d (.slice 3 (Ty.Ds a0.args))), (17, .d (.int .i64 ((Ty.Ds a0.args).length : Int))), (18, .d (.int .i64 (k0 : Int)))] [[.cells [.d (.bool a0.v), .d (.str a0.name), .nil 3], .cells [.d (.bool false), .d (.str ByteArray.empty), .nil 3]]] := G_types_Twin.2.2.1 _ _ e _ _ rfl
theorem P_types_Twin_j0 {a0 : Ty} {v2 : (List Ty)} {r : Ty} (e : types_Twin_j0 a0 v2 = some r) : ∀ (nv2 : Nat) (hlv2 : v2.length = nv2), Runs Try.prog Try.f123.ntmps [] (codeAt [1, 1, 1, 1, 0, 0] (bodyOf Try.f123)) (qAt T Try.prog Try.f123.ntmps [] [5] [1, 1, 1, 1, 0, 0] (bodyOf Try.f123) (EndPure T Try.f123.results.toList (Ty.D r))) [(1, .ptr 0 0 0), (2, .ptr 0 1 0), (3, .d (.slice 3 (Ty.Ds a0.args)))] [[.cells [.d (.bool a0.v), .d (.str a0.name), .arr 0 2 0 nv2 3], .cells [.d (.bool false), .d (.str ByteArray.empty), .nil 3], .arr 3 (Ty.Ds v2)]] := G_types_Twin.2.2.2.1 _ _ e _ _ rfl
theorem P_types_Twin_l0 {rest0 : (List Ty)} {k0 : Nat} {a2_0 : (List Ty)} {a0 : Ty} {r : Ty} (e : types_Twin_l0 rest0 k0 a2_0 a0 = some r) : ∀ (nv2 : Nat) (hla2_0 : a2_0.length = nv2) (hd0 : rest0 = a0.args.drop k0), RunsL Try.prog Try.f123.ntmps [] (codeAt [1, 1, 1, 1, 0, 1, 0, 0] (bodyOf Try.f123)) (qAt T Try.prog Try.f123.ntmps [] [5] [1, 1, 1, 1, 0, 1, 0] (bodyOf Try.f123) (EndPure T Try.f123.results.toList (Ty.D r))) [(1, .ptr 0 0 0), (2, .ptr 0 1 0), (16, .d (.slice 3 (Ty.Ds a0.args))), (17, .d (.int .i64 ((Ty.Ds a0.args).length : Int))), (18, .d (.int .i64 (k0 : Int)))] [[.cells [.d (.bool a0.v), .d (.str a0.name), .arr 0 2 0 nv2 3], .cells [.d (.bool false), .d (.str ByteArray.empty), .nil 3], .arr 3 (Ty.Ds a2_0)]] := G_types_Twin.2.2.2.2 _ _ e _ _ _ _ rfl

theorem P_types_Fun {a0 : Ty} {a1 : Ty} {r : Ty} (e : types_Fun a0 a1 = some r) : Pure Try.prog 71 [(Ty.D a0), (Ty.D a1)] (Ty.D r) := by
  unfold types_Fun at e
  refine pure_of_awp (js := []) T_ok Try.func71 rfl (by decide +kernel) rfl ?_; (conv => whnf)
  refine draw_rule T_ok mixed types_Fun_pl1 (by decide +kernel) ?_; (conv => whnf)
  obtain ⟨v1, qv1, e⟩ := bnd e
  refine said_pure (P_types_Twin qv1) rfl ⟨rfl, ?_⟩; (conv => whnf)
  obtain ⟨v2, qv2, e⟩ := bnd e
  refine said_pure (P_types_Twin qv2) rfl ⟨rfl, ?_⟩; (conv => whnf)
  refine ⟨⟨⟨rfl, rfl⟩, ⟨⟨rfl, rfl⟩, trivial⟩⟩, ?_⟩; (conv => whnf)
  obtain rfl := sm e
  repeat' first | exact rfl | exact trivial | exact ⟨_, rfl, (by first | exact rfl | (simp [Ty.Ds_all, Ty.D, listAll] <;> (repeat' first | rfl | apply And.intro))), (by first | exact rfl | (simp [Ty.Ds_all, Ty.D, listAll] <;> (repeat' first | rfl | apply And.intro)))⟩ | refine ⟨?_, ?_⟩ | (simp [Ty.Ds_all, Ty.D, listAll] <;> (repeat' first | rfl | apply And.intro))

def M_types_Size (p : Ty) (r : Int) : Prop := ∀ (a0 : Ty), a0 = p → Pure Try.prog 166 [(Ty.D a0)] (.int .i64 r)
def M_types_Size_l0 (p : ((List Ty) × Int)) (r : Int) : Prop := ∀ (rest0 : (List Ty)) (t3_0 : Int), (rest0, t3_0) = p → ∀ (a0 : Ty) (k0 : Nat) (hd0 : rest0 = a0.args.drop k0), RunsL Try.prog Try.f166.ntmps [] (codeAt [1, 1, 0, 1, 0, 0] (bodyOf Try.f166)) (qAt T Try.prog Try.f166.ntmps [] [] [1, 1, 0, 1, 0] (bodyOf Try.f166) (EndPure T Try.f166.results.toList (.int .i64 r))) [(3, .d (.int .i64 t3_0)), (7, .d (.slice 3 (Ty.Ds a0.args))), (8, .d (.int .i64 ((Ty.Ds a0.args).length : Int))), (9, .d (.int .i64 (k0 : Int)))] [[]]
theorem G_types_Size : (∀ p r, types_Size' p = some r → M_types_Size p r) ∧
    (∀ p r, types_Size_l0' p = some r → M_types_Size_l0 p r) := by
  refine types_Size'.mutual_partial_correctness M_types_Size M_types_Size_l0 ?_ ?_
  · intro f_types_Size_l0 ih_types_Size_l0 p r e a0 hp
    subst hp
    refine pure_of_awp (js := []) T_ok Try.func166 rfl (by decide +kernel) rfl ?_; (conv => whnf)
    refine RunsL.runs (RunsL.weak ((ih_types_Size_l0 _ _ e _ _ rfl) a0 0 (by simp)) ?_)
    repeat' first | exact wk.of_eq rfl | exact wk.pure rfl | exact wk.un _ | exact rfl | exact trivial | refine ⟨?_, ?_⟩ | (refine wk.of_eq ?_; (conv => lhs; whnf); (simp [Ty.Ds_all, Ty.D, listAll] <;> (repeat' first | rfl | apply And.intro)); done) | (refine wk.pure ?_; (conv => lhs; whnf); (simp [Ty.Ds_all, Ty.D, listAll] <;> (repeat' first | rfl | apply And.intro)); done) | ((simp [Ty.Ds_all, Ty.D, listAll] <;> (repeat' first | rfl | apply And.intro)); done)
  · intro f_types_Size f_types_Size_l0 ih_types_Size ih_types_Size_l0 p r e rest0 t3_0 hp
    subst hp
    intro a0 k0 hd0
    refine RunsL.len_tmp 7 rfl fun hlenk0 => ?_
    refine RunsL.of_awp (js := []) T_ok ?_; (conv => whnf)
    have hls := Ty.Ds_len a0.args
    cases rest0 with
    | nil =>
      have hk := drop_nil hd0
      refine ⟨⟨fun h => absurd h (by omega), fun _ => ?_⟩⟩; (conv => whnf)
      obtain rfl := sm e
      repeat' first | exact rfl | exact trivial | refine ⟨?_, ?_⟩
    | cons v1 rest0 =>
      obtain ⟨hxv1, hd0, hltv1⟩ := drop_head hd0
      refine ⟨⟨fun _ => ?_, fun h => absurd (by omega) h⟩⟩; (conv => whnf)
      refine ⟨k0, _, rfl, Ty.Ds_get hxv1, ?_⟩; (conv => whnf)
      refine ⟨Ty.Ds_fit _ rfl rfl, ?_⟩; (conv => whnf)
      obtain ⟨v2, qv2, e⟩ := bnd e
      refine said_pure (ih_types_Size _ _ qv2 _ rfl) rfl ?_; (conv => whnf)
      obtain ⟨v3, qv3, e⟩ := bnd e
      refine ⟨v3, sm qv3, ?_⟩; (conv => whnf)
      refine ⟨((k0 + 1 : Nat) : Int), wrap64e (by omega) (by omega) (by omega), ?_⟩; (conv => whnf)
      refine (RunsL.weak ((ih_types_Size_l0 _ _ e _ _ rfl) a0 (k0 + 1) hd0) ?_)
      repeat' first | exact wk.of_eq rfl | exact wk.pure rfl | exact wk.un _ | exact rfl | exact trivial | refine ⟨?_, ?_⟩ | (refine wk.of_eq ?_; (conv => lhs; whnf); (simp [Ty.Ds_all, Ty.D, listAll] <;> (repeat' first | rfl | apply And.intro)); done) | (refine wk.pure ?_; (conv => lhs; whnf); (simp [Ty.Ds_all, Ty.D, listAll] <;> (repeat' first | rfl | apply And.intro)); done) | ((simp [Ty.Ds_all, Ty.D, listAll] <;> (repeat' first | rfl | apply And.intro)); done)
theorem P_types_Size {a0 : Ty} {r : Int} (e : types_Size a0 = some r) : Pure Try.prog 166 [(Ty.D a0)] (.int .i64 r) := G_types_Size.1 _ _ e _ rfl
theorem P_types_Size_l0 {rest0 : (List Ty)} {t3_0 : Int} {r : Int} (e : types_Size_l0 rest0 t3_0 = some r) : ∀ (a0 : Ty) (k0 : Nat) (hd0 : rest0 = a0.args.drop k0), RunsL Try.prog Try.f166.ntmps [] (codeAt [1, 1, 0, 1, 0, 0] (bodyOf Try.f166)) (qAt T Try.prog Try.f166.ntmps [] [] [1, 1, 0, 1, 0] (bodyOf Try.f166) (EndPure T Try.f166.results.toList (.int .i64 r))) [(3, .d (.int .i64 t3_0)), (7, .d (.slice 3 (Ty.Ds a0.args))), (8, .d (.int .i64 ((Ty.Ds a0.args).length : Int))), (9, .d (.int .i64 (k0 : Int)))] [[]] := G_types_Size.2 _ _ e _ _ rfl

theorem P_equality_thin_j0 {a0 : Tm} {v19 : (Ty × Bool)} {r : (Ty × Bool)} (e : equality_thin_j0 a0 v19 = some r) : (∀ (gn3 : Nat), Runs Try.prog Try.f151.ntmps [] (codeAt [1, 1, 0, 1, 0, 1, 1, 1, 1, 1, 0, 1, 0, 0] (bodyOf Try.f151)) (qAt T Try.prog Try.f151.ntmps [] [15] [1, 1, 0, 1, 0, 1, 1, 1, 1, 1, 0, 1, 0, 0] (bodyOf Try.f151) (EndPure T Try.f151.results.toList (.tuple [(Ty.D r.1), (.bool r.2)]))) [(2, .ptr 0 0 0), (4, .ptr 0 1 0), (6, .ptr 0 2 0), (11, .ptr 0 4 0), (12, .d (.bool v19.2))] [[.cells [.d (.int .u8 a0.kind), .d (.str a0.name), .d (.bool a0.ty.v), .d (.str a0.ty.name), .d (.slice 3 (Ty.Ds a0.ty.args)), .d (.int .i64 a0.index), .d (.slice 7 (Tm.Ds a0.sub))], .cells [.d (.bool false), .d (.str ByteArray.empty), .nil 3], .cells [.d (.bool a0.ty.v), .d (.str a0.ty.name), .d (.slice 3 (Ty.Ds a0.ty.args))], .grow 3 gn3, .cells [.d (.bool v19.1.v), .d (.str v19.1.name), .d (.slice 3 (Ty.Ds v19.1.args))]]]) ∧ (Runs Try.prog Try.f151.ntmps [] (codeAt [1, 1, 0, 1, 0, 1, 1, 1, 1, 1, 0, 1, 0, 0] (bodyOf Try.f151)) (qAt T Try.prog Try.f151.ntmps [] [15] [1, 1, 0, 1, 0, 1, 1, 1, 1, 1, 0, 1, 0, 0] (bodyOf Try.f151) (EndPure T Try.f151.results.toList (.tuple [(Ty.D r.1), (.bool r.2)]))) [(2, .ptr 0 0 0), (4, .ptr 0 1 0), (6, .ptr 0 2 0), (11, .ptr 0 3 0), (12, .d (.bool v19.2))] [[.cells [.d (.int .u8 a0.kind), .d (.str a0.name), .d (.bool a0.ty.v), .d (.str a0.ty.name), .d (.slice 3 (Ty.Ds a0.ty.args)), .d (.int .i64 a0.index), .d (.slice 7 (Tm.Ds a0.sub))], .cells [.d (.bool false), .d (.str ByteArray.empty), .nil 3], .cells [.d (.bool a0.ty.v), .d (.str a0.ty.name), .d (.slice 3 (Ty.Ds a0.ty.args))], .cells [.d (.bool v19.1.v), .d (.str v19.1.name), .d (.slice 3 (Ty.Ds v19.1.args))]]]) := by
  unfold equality_thin_j0 at e
  refine ⟨?_, ?_⟩
  · intro gn3
    refine Runs.enter T_ok ?_; (conv => whnf)
    refine brK.nsplit (fun hb20 => ?_) (fun hb20 => ?_)
    · replace e := ifpb hb20 e; (conv => whnf)
      obtain ⟨v21, qv21, e⟩ := bnd e
      refine said_pure (P_types_Fun qv21) rfl ?_; (conv => whnf)
      refine draw_rule T_ok mixed equality_thin_pl18 (by decide +kernel) ?_; (conv => whnf)
      obtain ⟨v22, qv22, e⟩ := bnd e
      refine said_pure (P_types_Size qv22) rfl ⟨rfl, ?_⟩; (conv => whnf)
      refine test.dec ?_; (conv => whnf)
      obtain rfl := sm e
      repeat' first | exact rfl | exact trivial | refine ⟨?_, ?_⟩
    · replace e := ifnb hb20 e; (conv => whnf)
      obtain rfl := sm e
      repeat' first | exact rfl | exact trivial | refine ⟨?_, ?_⟩
  · refine Runs.enter T_ok ?_; (conv => whnf)
    refine brK.nsplit (fun hb23 => ?_) (fun hb23 => ?_)
    · replace e := ifpb hb23 e; (conv => whnf)
      obtain ⟨v24, qv24, e⟩ := bnd e
      refine said_pure (P_types_Fun qv24) rfl ?_; (conv => whnf)
      refine draw_rule T_ok mixed equality_thin_pl18 (by decide +kernel) ?_; (conv => whnf)
      obtain ⟨v25, qv25, e⟩ := bnd e
      refine said_pure (P_types_Size qv25) rfl ⟨rfl, ?_⟩; (conv => whnf)
      refine test.dec ?_; (conv => whnf)
      obtain rfl := sm e
      repeat' first | exact rfl | exact trivial | refine ⟨?_, ?_⟩
    · replace e := ifnb hb23 e; (conv => whnf)
      obtain rfl := sm e
      repeat' first | exact rfl | exact trivial | refine ⟨?_, ?_⟩

theorem P_types_DestFun {a0 : Ty} {r : (Ty × Ty × Bool)} (e : types_DestFun a0 = some r) : Pure Try.prog 165 [(Ty.D a0)] (.tuple [(Ty.D r.1), (Ty.D r.2.1), (.bool r.2.2)]) := by
  unfold types_DestFun at e
  refine pure_of_awp (js := []) T_ok Try.func165 rfl (by decide +kernel) rfl ?_; (conv => whnf)
  refine brK.split (fun hb1 => ?_) (fun hb1 => ?_)
  · replace e := ifpb hb1 e; (conv => whnf)
    refine brK.tt hb1 ?_; (conv => whnf)
    refine brK.tt hb1 ?_; (conv => whnf)
    refine brK.tt hb1 ?_; (conv => whnf)
    refine draw_rule T_ok mixed types_DestFun_pl2 (by decide +kernel) ?_; (conv => whnf)
    obtain rfl := sm e
    repeat' first | exact rfl | exact trivial | refine ⟨?_, ?_⟩
  · replace e := ifnb hb1 e; (conv => whnf)
    refine brK.ff hb1 ?_; (conv => whnf)
    refine brK.ff hb1 ?_; (conv => whnf)
    refine ⟨⟨fun h2 => ?_, fun h2 => ?_⟩⟩
    · replace e := ifp h2 e; (conv => whnf)
      refine brK.ff hb1 ?_; (conv => whnf)
      refine draw_rule T_ok mixed types_DestFun_pl2 (by decide +kernel) ?_; (conv => whnf)
      obtain rfl := sm e
      repeat' first | exact rfl | exact trivial | refine ⟨?_, ?_⟩
    · replace e := ifn h2 e; (conv => whnf)
      refine brK.ff hb1 ?_; (conv => whnf)
      refine ⟨⟨fun h3 => ?_, fun h3 => ?_⟩⟩
      · replace e := ifp (by first | exact h3 | simpa [Ty.Ds_all, Ty.D, listAll] using h3) e; (conv => whnf)
        refine draw_rule T_ok mixed types_DestFun_pl2 (by decide +kernel) ?_; (conv => whnf)
        obtain rfl := sm e
        repeat' first | exact rfl | exact trivial | refine ⟨?_, ?_⟩
      · replace e := ifn (by first | exact h3 | simpa [Ty.Ds_all, Ty.D, listAll] using h3) e; (conv => whnf)
        refine draw_rule T_ok mixed types_DestFun_pl3 (by decide +kernel) ?_; (conv => whnf)
        obtain ⟨v4, qv4, e⟩ := bnd e
        obtain ⟨qv4k, qv4a, qv4b⟩ := geti_some qv4
        refine ⟨qv4k, _, qv4a, Ty.Ds_get qv4b, ?_⟩; (conv => whnf)
        refine ⟨Ty.Ds_fit _ rfl rfl, ?_⟩; (conv => whnf)
        obtain ⟨v5, qv5, e⟩ := bnd e
        obtain ⟨qv5k, qv5a, qv5b⟩ := geti_some qv5
        refine ⟨qv5k, _, qv5a, Ty.Ds_get qv5b, ?_⟩; (conv => whnf)
        refine ⟨Ty.Ds_fit _ rfl rfl, ?_⟩; (conv => whnf)
        obtain ⟨v6, qv6, e⟩ := bnd e
        refine said_pure (P_types_Twin qv6) rfl ⟨rfl, ?_⟩; (conv => whnf)
        obtain ⟨v7, qv7, e⟩ := bnd e
        refine said_pure (P_types_Twin qv7) rfl ⟨rfl, ?_⟩; (conv => whnf)
        obtain rfl := sm e
        repeat' first | exact rfl | exact trivial | refine ⟨?_, ?_⟩

def M_equality_thin (p : (Tm × (List Ty))) (r : (Ty × Bool)) : Prop := ∀ (a0 : Tm) (a1 : (List Ty)), (a0, a1) = p → Pure Try.prog 151 [(Tm.D a0), (.slice 3 (Ty.Ds a1))] (.tuple [(Ty.D r.1), (.bool r.2)])
theorem G_equality_thin : (∀ p r, equality_thin' p = some r → M_equality_thin p r) := by
  refine equality_thin'.partial_correctness M_equality_thin ?_
  · intro f_equality_thin ih_equality_thin p r e a0 a1 hp
    subst hp
    refine pure_of_awp (js := [15]) T_ok Try.func151 rfl (by decide +kernel) rfl ?_; (conv => whnf)
    refine ⟨⟨fun h1 => ?_, fun h1 => ?_⟩⟩
    · replace e := ifp h1 e; (conv => whnf)
      obtain ⟨v2, qv2, e⟩ := bnd e
      refine ⟨v2, (by have := sm qv2; first | exact this | simpa [Tm.Ds_all, Ty.Ds_all, Tm.D, Ty.D, listAll] using this), ?_⟩; (conv => whnf)
      obtain ⟨v3, qv3, e⟩ := bnd e
      refine ⟨v3, sm qv3, ?_⟩; (conv => whnf)
      obtain ⟨v4, qv4, e⟩ := bnd e
      obtain ⟨qv4k, qv4a, qv4b⟩ := geti_some qv4
      refine ⟨qv4k, _, qv4a, Ty.Ds_get qv4b, ?_⟩; (conv => whnf)
      refine ⟨Ty.Ds_fit _ rfl rfl, ?_⟩; (conv => whnf)
      refine draw_rule T_ok mixed equality_thin_pl18 (by decide +kernel) ?_; (conv => whnf)
      obtain ⟨v5, qv5, e⟩ := bnd e
      refine said_pure (P_types_Size qv5) rfl ⟨rfl, ?_⟩; (conv => whnf)
      refine test.dec ?_; (conv => whnf)
      obtain rfl := sm e
      repeat' first | exact rfl | exact trivial | refine ⟨?_, ?_⟩
    · replace e := ifn h1 e; (conv => whnf)
      refine ⟨⟨fun h6 => ?_, fun h6 => ?_⟩⟩
      · replace e := ifp h6 e; (conv => whnf)
        obtain ⟨v7, qv7, e⟩ := bnd e
        obtain ⟨qv7k, qv7a, qv7b⟩ := geti_some qv7
        refine ⟨qv7k, _, qv7a, Tm.Ds_get qv7b, ?_⟩; (conv => whnf)
        refine ⟨Tm.Ds_fit _ rfl rfl, ?_⟩; (conv => whnf)
        obtain ⟨v8, qv8, e⟩ := bnd e
        refine said_pure (ih_equality_thin _ _ qv8 _ _ rfl) rfl ?_; (conv => whnf)
        refine brK.nsplit (fun hb9 => ?_) (fun hb9 => ?_)
        · replace e := ifpb hb9 e; (conv => whnf)
          obtain ⟨v10, qv10, e⟩ := bnd e
          obtain ⟨qv10k, qv10a, qv10b⟩ := geti_some qv10
          refine ⟨qv10k, _, qv10a, Tm.Ds_get qv10b, ?_⟩; (conv => whnf)
          refine ⟨Tm.Ds_fit _ rfl rfl, ?_⟩; (conv => whnf)
          obtain ⟨v11, qv11, e⟩ := bnd e
          refine said_pure (ih_equality_thin _ _ qv11 _ _ rfl) rfl ?_; (conv => whnf)
          refine brK.nsplit (fun hb12 => ?_) (fun hb12 => ?_)
          · replace e := ifpb hb12 e; (conv => whnf)
            obtain ⟨v13, qv13, e⟩ := bnd e
            refine said_pure (P_types_DestFun qv13) rfl ?_; (conv => whnf)
            refine draw_rule T_ok mixed equality_thin_pl18 (by decide +kernel) ?_; (conv => whnf)
            obtain ⟨v14, qv14, e⟩ := bnd e
            refine said_pure (P_types_Size qv14) rfl ⟨rfl, ?_⟩; (conv => whnf)
            refine test.dec ?_; (conv => whnf)
            obtain rfl := sm e
            repeat' first | exact rfl | exact trivial | refine ⟨?_, ?_⟩
          · replace e := ifnb hb12 e; (conv => whnf)
            obtain rfl := sm e
            repeat' first | exact rfl | exact trivial | refine ⟨?_, ?_⟩
        · replace e := ifnb hb9 e; (conv => whnf)
          obtain rfl := sm e
          repeat' first | exact rfl | exact trivial | refine ⟨?_, ?_⟩
      · replace e := ifn h6 e; (conv => whnf)
        refine ⟨⟨fun h15 => ?_, fun h15 => ?_⟩⟩
        · replace e := ifp h15 e; (conv => whnf)
          refine draw_rule T_ok mixed equality_thin_pl14 (by decide +kernel) ?_; (conv => whnf)
          obtain ⟨v16, qv16, e⟩ := bnd e
          obtain ⟨qv16k, qv16a, qv16b⟩ := geti_some qv16
          refine ⟨qv16k, _, qv16a, Tm.Ds_get qv16b, ?_⟩; (conv => whnf)
          refine ⟨Tm.Ds_fit _ rfl rfl, ?_⟩; (conv => whnf)
          obtain ⟨v17, qv17, e⟩ := bnd e
          obtain ⟨qv17l, qv17h, qv17a, qv17b, qv17c, qv17d, qv17e⟩ := cut_some qv17
          refine ⟨qv17l, qv17h, (by show _ = _; omega), (by first | exact congrArg (fun z => AV.d (D.int .i64 z)) qv17b | exact congrArg (fun z => AV.d (D.int .i64 z)) (by simpa [Tm.Ds_all, Ty.Ds_all, Tm.D, Ty.D, listAll] using qv17b)), qv17c, (by first | exact qv17d | simpa [Tm.Ds_all, Ty.Ds_all, Tm.D, Ty.D, listAll] using qv17d), (congrArg (fun z => AV.d (D.int .i64 z)) qv17b), (congrArg (fun z => some (AV.d (D.int .i64 z))) qv17b), ?_⟩; rw [Ty.Ds_cut, ← qv17e]; (conv => whnf)
          refine ⟨⟨⟨rfl, rfl⟩, trivial⟩, ?_⟩; (conv => whnf)
          obtain ⟨v18, qv18, e⟩ := bnd e
          obtain ⟨v19, qv19, e⟩ := bnd e
          refine ⟨?_, ?_⟩
          · (conv => whnf)
            obtain ⟨qv18l, qv18e⟩ := app_some qv18
            refine ⟨(by first | exact qv18l | simpa [Tm.Ds_all, Ty.Ds_all, Tm.D, Ty.D, listAll] using qv18l), rfl, fun h => (by first | cases h | simp at h), fun _ => ?_⟩; (conv => whnf)
            refine ⟨?_, ?_⟩
            · (conv => whnf)
              first | (refine said_pure (ih_equality_thin _ _ qv19 _ _ rfl) rfl ⟨rfl, ?_⟩) | (refine said_pure2 (ih_equality_thin _ _ qv19 _ _ rfl) rfl (by simp [Tm.Ds_all, Ty.Ds_all, Tm.D, Ty.D, listAll, qv18e] <;> (repeat' first | rfl | apply And.intro)) ⟨rfl, ?_⟩)
              (conv => whnf)
              refine Runs.weak ((P_equality_thin_j0 e).1 ?_) ?_
              repeat' first | exact wk.of_eq rfl | exact wk.pure rfl | exact wk.un _ | exact rfl | exact trivial | refine ⟨?_, ?_⟩ | (refine wk.of_eq ?_; (conv => lhs; whnf); (simp [Tm.Ds_all, Ty.Ds_all, Tm.D, Ty.D, listAll, qv18e] <;> (repeat' first | rfl | apply And.intro)); done) | (refine wk.pure ?_; (conv => lhs; whnf); (simp [Tm.Ds_all, Ty.Ds_all, Tm.D, Ty.D, listAll, qv18e] <;> (repeat' first | rfl | apply And.intro)); done) | ((simp [Tm.Ds_all, Ty.Ds_all, Tm.D, Ty.D, listAll, qv18e] <;> (repeat' first | rfl | apply And.intro)); done)
            · (conv => whnf)
              first | (refine said_pure (ih_equality_thin _ _ qv19 _ _ rfl) rfl ⟨rfl, ?_⟩) | (refine said_pure2 (ih_equality_thin _ _ qv19 _ _ rfl) rfl (by simp [Tm.Ds_all, Ty.Ds_all, Tm.D, Ty.D, listAll, qv18e] <;> (repeat' first | rfl | apply And.intro)) ⟨rfl, ?_⟩)
              (conv => whnf)
              refine Runs.weak ((P_equality_thin_j0 e).1 ?_) ?_
              repeat' first | exact wk.of_eq rfl | exact wk.pure rfl | exact wk.un _ | exact rfl | exact trivial | refine ⟨?_, ?_⟩ | (refine wk.of_eq ?_; (conv => lhs; whnf); (simp [Tm.Ds_all, Ty.Ds_all, Tm.D, Ty.D, listAll, qv18e] <;> (repeat' first | rfl | apply And.intro)); done) | (refine wk.pure ?_; (conv => lhs; whnf); (simp [Tm.Ds_all, Ty.Ds_all, Tm.D, Ty.D, listAll, qv18e] <;> (repeat' first | rfl | apply And.intro)); done) | ((simp [Tm.Ds_all, Ty.Ds_all, Tm.D, Ty.D, listAll, qv18e] <;> (repeat' first | rfl | apply And.intro)); done)
          · (conv => whnf)
            obtain ⟨qv18l, qv18e⟩ := app_some qv18
            refine ⟨(by first | exact qv18l | simpa [Tm.Ds_all, Ty.Ds_all, Tm.D, Ty.D, listAll] using qv18l), rfl, fun h => (by first | cases h | simp at h), fun _ => ?_⟩; (conv => whnf)
            first | (refine said_pure (ih_equality_thin _ _ qv19 _ _ rfl) rfl ⟨rfl, ?_⟩) | (refine said_pure2 (ih_equality_thin _ _ qv19 _ _ rfl) rfl (by simp [Tm.Ds_all, Ty.Ds_all, Tm.D, Ty.D, listAll, qv18e] <;> (repeat' first | rfl | apply And.intro)) ⟨rfl, ?_⟩)
            (conv => whnf)
            refine Runs.weak (P_equality_thin_j0 e).2 ?_
            repeat' first | exact wk.of_eq rfl | exact wk.pure rfl | exact wk.un _ | exact rfl | exact trivial | refine ⟨?_, ?_⟩ | (refine wk.of_eq ?_; (conv => lhs; whnf); (simp [Tm.Ds_all, Ty.Ds_all, Tm.D, Ty.D, listAll, qv18e] <;> (repeat' first | rfl | apply And.intro)); done) | (refine wk.pure ?_; (conv => lhs; whnf); (simp [Tm.Ds_all, Ty.Ds_all, Tm.D, Ty.D, listAll, qv18e] <;> (repeat' first | rfl | apply And.intro)); done) | ((simp [Tm.Ds_all, Ty.Ds_all, Tm.D, Ty.D, listAll, qv18e] <;> (repeat' first | rfl | apply And.intro)); done)
        · replace e := ifn h15 e; (conv => whnf)
          refine draw_rule T_ok mixed equality_thin_pl18 (by decide +kernel) ?_; (conv => whnf)
          obtain ⟨v26, qv26, e⟩ := bnd e
          refine said_pure (P_types_Size qv26) rfl ⟨rfl, ?_⟩; (conv => whnf)
          refine test.dec ?_; (conv => whnf)
          obtain rfl := sm e
          repeat' first | exact rfl | exact trivial | refine ⟨?_, ?_⟩
theorem P_equality_thin {a0 : Tm} {a1 : (List Ty)} {r : (Ty × Bool)} (e : equality_thin a0 a1 = some r) : Pure Try.prog 151 [(Tm.D a0), (.slice 3 (Ty.Ds a1))] (.tuple [(Ty.D r.1), (.bool r.2)]) := G_equality_thin _ _ e _ _ rfl

def M_terms_Size (p : Tm) (r : Int) : Prop := ∀ (a0 : Tm), a0 = p → Pure Try.prog 149 [(Tm.D a0)] (.int .i64 r)
def M_terms_Size_l0 (p : ((List Tm) × Int)) (r : Int) : Prop := ∀ (rest0 : (List Tm)) (t3_0 : Int), (rest0, t3_0) = p → ∀ (a0 : Tm) (k0 : Nat) (hd0 : rest0 = a0.sub.drop k0), RunsL Try.prog Try.f149.ntmps [] (codeAt [1, 1, 0, 1, 0, 0] (bodyOf Try.f149)) (qAt T Try.prog Try.f149.ntmps [] [] [1, 1, 0, 1, 0] (bodyOf Try.f149) (EndPure T Try.f149.results.toList (.int .i64 r))) [(3, .d (.int .i64 t3_0)), (7, .d (.slice 7 (Tm.Ds a0.sub))), (8, .d (.int .i64 ((Tm.Ds a0.sub).length : Int))), (9, .d (.int .i64 (k0 : Int)))] [[]]
theorem G_terms_Size : (∀ p r, terms_Size' p = some r → M_terms_Size p r) ∧
    (∀ p r, terms_Size_l0' p = some r → M_terms_Size_l0 p r) := by
  refine terms_Size'.mutual_partial_correctness M_terms_Size M_terms_Size_l0 ?_ ?_
  · intro f_terms_Size_l0 ih_terms_Size_l0 p r e a0 hp
    subst hp
    refine pure_of_awp (js := []) T_ok Try.func149 rfl (by decide +kernel) rfl ?_; (conv => whnf)
    refine RunsL.runs (RunsL.weak ((ih_terms_Size_l0 _ _ e _ _ rfl) a0 0 (by simp)) ?_)
    repeat' first | exact wk.of_eq rfl | exact wk.pure rfl | exact wk.un _ | exact rfl | exact trivial | refine ⟨?_, ?_⟩ | (refine wk.of_eq ?_; (conv => lhs; whnf); (simp [Tm.Ds_all, Ty.Ds_all, Tm.D, Ty.D, listAll] <;> (repeat' first | rfl | apply And.intro)); done) | (refine wk.pure ?_; (conv => lhs; whnf); (simp [Tm.Ds_all, Ty.Ds_all, Tm.D, Ty.D, listAll] <;> (repeat' first | rfl | apply And.intro)); done) | ((simp [Tm.Ds_all, Ty.Ds_all, Tm.D, Ty.D, listAll] <;> (repeat' first | rfl | apply And.intro)); done)
  · intro f_terms_Size f_terms_Size_l0 ih_terms_Size ih_terms_Size_l0 p r e rest0 t3_0 hp
    subst hp
    intro a0 k0 hd0
    refine RunsL.len_tmp 7 rfl fun hlenk0 => ?_
    refine RunsL.of_awp (js := []) T_ok ?_; (conv => whnf)
    have hls := Tm.Ds_len a0.sub
    cases rest0 with
    | nil =>
      have hk := drop_nil hd0
      refine ⟨⟨fun h => absurd h (by omega), fun _ => ?_⟩⟩; (conv => whnf)
      obtain rfl := sm e
      repeat' first | exact rfl | exact trivial | refine ⟨?_, ?_⟩
    | cons v1 rest0 =>
      obtain ⟨hxv1, hd0, hltv1⟩ := drop_head hd0
      refine ⟨⟨fun _ => ?_, fun h => absurd (by omega) h⟩⟩; (conv => whnf)
      refine ⟨k0, _, rfl, Tm.Ds_get hxv1, ?_⟩; (conv => whnf)
      refine ⟨Tm.Ds_fit _ rfl rfl, ?_⟩; (conv => whnf)
      obtain ⟨v2, qv2, e⟩ := bnd e
      refine said_pure (ih_terms_Size _ _ qv2 _ rfl) rfl ?_; (conv => whnf)
      obtain ⟨v3, qv3, e⟩ := bnd e
      refine ⟨v3, sm qv3, ?_⟩; (conv => whnf)
      refine ⟨((k0 + 1 : Nat) : Int), wrap64e (by omega) (by omega) (by omega), ?_⟩; (conv => whnf)
      refine (RunsL.weak ((ih_terms_Size_l0 _ _ e _ _ rfl) a0 (k0 + 1) hd0) ?_)
      repeat' first | exact wk.of_eq rfl | exact wk.pure rfl | exact wk.un _ | exact rfl | exact trivial | refine ⟨?_, ?_⟩ | (refine wk.of_eq ?_; (conv => lhs; whnf); (simp [Tm.Ds_all, Ty.Ds_all, Tm.D, Ty.D, listAll] <;> (repeat' first | rfl | apply And.intro)); done) | (refine wk.pure ?_; (conv => lhs; whnf); (simp [Tm.Ds_all, Ty.Ds_all, Tm.D, Ty.D, listAll] <;> (repeat' first | rfl | apply And.intro)); done) | ((simp [Tm.Ds_all, Ty.Ds_all, Tm.D, Ty.D, listAll] <;> (repeat' first | rfl | apply And.intro)); done)
theorem P_terms_Size {a0 : Tm} {r : Int} (e : terms_Size a0 = some r) : Pure Try.prog 149 [(Tm.D a0)] (.int .i64 r) := G_terms_Size.1 _ _ e _ rfl
theorem P_terms_Size_l0 {rest0 : (List Tm)} {t3_0 : Int} {r : Int} (e : terms_Size_l0 rest0 t3_0 = some r) : ∀ (a0 : Tm) (k0 : Nat) (hd0 : rest0 = a0.sub.drop k0), RunsL Try.prog Try.f149.ntmps [] (codeAt [1, 1, 0, 1, 0, 0] (bodyOf Try.f149)) (qAt T Try.prog Try.f149.ntmps [] [] [1, 1, 0, 1, 0] (bodyOf Try.f149) (EndPure T Try.f149.results.toList (.int .i64 r))) [(3, .d (.int .i64 t3_0)), (7, .d (.slice 7 (Tm.Ds a0.sub))), (8, .d (.int .i64 ((Tm.Ds a0.sub).length : Int))), (9, .d (.int .i64 (k0 : Int)))] [[]] := G_terms_Size.2 _ _ e _ _ rfl

theorem P_equality_fits {a0 : Tm} {r : Bool} (e : equality_fits a0 = some r) : Pure Try.prog 133 [(Tm.D a0)] (.bool r) := by
  unfold equality_fits at e
  refine pure_of_awp (js := []) T_ok Try.func133 rfl (by decide +kernel) rfl ?_; (conv => whnf)
  obtain ⟨v1, qv1, e⟩ := bnd e
  refine said_pure (P_terms_Size qv1) rfl ?_; (conv => whnf)
  refine ⟨⟨fun h2 => ?_, fun h2 => ?_⟩⟩
  · replace e := ifp h2 e; (conv => whnf)
    obtain rfl := sm e
    repeat' first | exact rfl | exact trivial | refine ⟨?_, ?_⟩
  · replace e := ifn h2 e; (conv => whnf)
    obtain ⟨v3, qv3, e⟩ := bnd e
    refine said_pure (P_equality_depth qv3) rfl ?_; (conv => whnf)
    refine ⟨⟨fun h4 => ?_, fun h4 => ?_⟩⟩
    · replace e := ifp h4 e; (conv => whnf)
      obtain rfl := sm e
      repeat' first | exact rfl | exact trivial | refine ⟨?_, ?_⟩
    · replace e := ifn h4 e; (conv => whnf)
      obtain ⟨v5, qv5, e⟩ := bnd e
      refine said_pure (P_equality_thin qv5) rfl ?_; (conv => whnf)
      obtain rfl := sm e
      repeat' first | exact rfl | exact trivial | refine ⟨?_, ?_⟩

def M_types_name_l0 (p : (Int × ByteArray)) (r : Bool) : Prop := ∀ (t7_0 : Int) (a0 : ByteArray), (t7_0, a0) = p → RunsL Try.prog Try.f175.ntmps [] (codeAt [1, 0, 1, 0, 0] (bodyOf Try.f175)) (qAt T Try.prog Try.f175.ntmps [] [] [1, 0, 1, 0] (bodyOf Try.f175) (EndPure T Try.f175.results.toList (.bool r))) [(0, .d (.str a0)), (6, .d (.int .i64 (a0.size : Int))), (7, .d (.int .i64 t7_0))] [[]]
theorem G_types_name_l0 : (∀ p r, types_name_l0' p = some r → M_types_name_l0 p r) := by
  refine types_name_l0'.partial_correctness M_types_name_l0 ?_
  · intro f_types_name_l0 ih_types_name_l0 p r e t7_0 a0 hp
    subst hp
    refine RunsL.of_awp (js := []) T_ok ?_; (conv => whnf)
    refine ⟨⟨fun h1 => ?_, fun h1 => ?_⟩⟩
    · replace e := ifp h1 e; (conv => whnf)
      obtain ⟨v2, qv2, e⟩ := bnd e
      obtain ⟨qv2k, qv2q, qv2a, qv2b, qv2c⟩ := getb_some qv2
      refine ⟨qv2k, qv2q, qv2a, qv2b, ?_⟩; rw [qv2c]; (conv => whnf)
      refine ⟨⟨fun h3 => ?_, fun h3 => ?_⟩⟩
      · replace e := ifp h3 e; (conv => whnf)
        obtain rfl := sm e
        repeat' first | exact rfl | exact trivial | refine ⟨?_, ?_⟩
      · replace e := ifn h3 e; (conv => whnf)
        refine ⟨⟨fun h4 => ?_, fun h4 => ?_⟩⟩
        · replace e := ifp h4 e; (conv => whnf)
          obtain rfl := sm e
          repeat' first | exact rfl | exact trivial | refine ⟨?_, ?_⟩
        · replace e := ifn h4 e; (conv => whnf)
          refine ⟨⟨fun h5 => ?_, fun h5 => ?_⟩⟩
          · replace e := ifp h5 e; (conv => whnf)
            obtain rfl := sm e
            repeat' first | exact rfl | exact trivial | refine ⟨?_, ?_⟩
          · replace e := ifn h5 e; (conv => whnf)
            refine ⟨⟨fun h6 => ?_, fun h6 => ?_⟩⟩
            · replace e := ifp h6 e; (conv => whnf)
              obtain rfl := sm e
              repeat' first | exact rfl | exact trivial | refine ⟨?_, ?_⟩
            · replace e := ifn h6 e; (conv => whnf)
              refine ⟨⟨fun h7 => ?_, fun h7 => ?_⟩⟩
              · replace e := ifp h7 e; (conv => whnf)
                obtain rfl := sm e
                repeat' first | exact rfl | exact trivial | refine ⟨?_, ?_⟩
              · replace e := ifn h7 e; (conv => whnf)
                refine ⟨⟨fun h8 => ?_, fun h8 => ?_⟩⟩
                · replace e := ifp h8 e; (conv => whnf)
                  obtain rfl := sm e
                  repeat' first | exact rfl | exact trivial | refine ⟨?_, ?_⟩
                · replace e := ifn h8 e; (conv => whnf)
                  refine ⟨⟨fun h9 => ?_, fun h9 => ?_⟩⟩
                  · replace e := ifp h9 e; (conv => whnf)
                    obtain rfl := sm e
                    repeat' first | exact rfl | exact trivial | refine ⟨?_, ?_⟩
                  · replace e := ifn h9 e; (conv => whnf)
                    refine ⟨⟨fun h10 => ?_, fun h10 => ?_⟩⟩
                    · replace e := ifp h10 e; (conv => whnf)
                      obtain rfl := sm e
                      repeat' first | exact rfl | exact trivial | refine ⟨?_, ?_⟩
                    · replace e := ifn h10 e; (conv => whnf)
                      refine ⟨⟨fun h11 => ?_, fun h11 => ?_⟩⟩
                      · replace e := ifp h11 e; (conv => whnf)
                        obtain rfl := sm e
                        repeat' first | exact rfl | exact trivial | refine ⟨?_, ?_⟩
                      · replace e := ifn h11 e; (conv => whnf)
                        obtain ⟨v12, qv12, e⟩ := bnd e
                        refine ⟨v12, sm qv12, ?_⟩; (conv => whnf)
                        refine (RunsL.weak (ih_types_name_l0 _ _ e _ _ rfl) ?_)
                        repeat' first | exact wk.of_eq rfl | exact wk.pure rfl | exact wk.un _ | exact rfl | exact trivial | refine ⟨?_, ?_⟩ | (refine wk.of_eq ?_; (conv => lhs; whnf); (simp [listAll] <;> (repeat' first | rfl | apply And.intro)); done) | (refine wk.pure ?_; (conv => lhs; whnf); (simp [listAll] <;> (repeat' first | rfl | apply And.intro)); done) | ((simp [listAll] <;> (repeat' first | rfl | apply And.intro)); done)
    · replace e := ifn h1 e; (conv => whnf)
      refine ⟨⟨fun h13 => ?_, fun h13 => ?_⟩⟩
      · replace e := ifp h13 e; (conv => whnf)
        refine test.dec ?_; (conv => whnf)
        obtain rfl := sm e
        repeat' first | exact rfl | exact trivial | refine ⟨?_, ?_⟩
      · replace e := ifn h13 e; (conv => whnf)
        obtain rfl := sm e
        repeat' first | exact rfl | exact trivial | refine ⟨?_, ?_⟩
theorem P_types_name_l0 {t7_0 : Int} {a0 : ByteArray} {r : Bool} (e : types_name_l0 t7_0 a0 = some r) : RunsL Try.prog Try.f175.ntmps [] (codeAt [1, 0, 1, 0, 0] (bodyOf Try.f175)) (qAt T Try.prog Try.f175.ntmps [] [] [1, 0, 1, 0] (bodyOf Try.f175) (EndPure T Try.f175.results.toList (.bool r))) [(0, .d (.str a0)), (6, .d (.int .i64 (a0.size : Int))), (7, .d (.int .i64 t7_0))] [[]] := G_types_name_l0 _ _ e _ _ rfl

theorem P_types_name {a0 : ByteArray} {r : Bool} (e : types_name a0 = some r) : Pure Try.prog 175 [(.str a0)] (.bool r) := by
  unfold types_name at e
  refine pure_of_awp (js := []) T_ok Try.func175 rfl (by decide +kernel) rfl ?_; (conv => whnf)
  refine RunsL.runs (RunsL.weak (P_types_name_l0 e) ?_)
  repeat' first | exact wk.of_eq rfl | exact wk.pure rfl | exact wk.un _ | exact rfl | exact trivial | refine ⟨?_, ?_⟩ | (refine wk.of_eq ?_; (conv => lhs; whnf); (simp [listAll] <;> (repeat' first | rfl | apply And.intro)); done) | (refine wk.pure ?_; (conv => lhs; whnf); (simp [listAll] <;> (repeat' first | rfl | apply And.intro)); done) | ((simp [listAll] <;> (repeat' first | rfl | apply And.intro)); done)

theorem P_types_variable {a0 : ByteArray} {r : Bool} (e : types_variable a0 = some r) : Pure Try.prog 174 [(.str a0)] (.bool r) := by
  unfold types_variable at e
  refine pure_of_awp (js := []) T_ok Try.func174 rfl (by decide +kernel) rfl ?_; (conv => whnf)
  obtain ⟨v1, qv1, e⟩ := bnd e
  refine said_pure (P_types_name qv1) rfl ?_; (conv => whnf)
  refine brK.split (fun hb2 => ?_) (fun hb2 => ?_)
  · replace e := ifpb hb2 e; (conv => whnf)
    refine brK.tt hb2 ?_; (conv => whnf)
    obtain ⟨v3, qv3, e⟩ := bnd e
    obtain ⟨qv3k, qv3q, qv3a, qv3b, qv3c⟩ := getb_some qv3
    refine ⟨qv3k, qv3q, qv3a, qv3b, ?_⟩; rw [qv3c]; (conv => whnf)
    refine brK.tt hb2 ?_; (conv => whnf)
    refine test.dec ?_; (conv => whnf)
    refine brK.tt hb2 ?_; (conv => whnf)
    obtain rfl := sm e
    repeat' first | exact rfl | exact trivial | refine ⟨?_, ?_⟩
  · replace e := ifnb hb2 e; (conv => whnf)
    refine brK.ff hb2 ?_; (conv => whnf)
    refine brK.ff hb2 ?_; (conv => whnf)
    refine brK.ff hb2 ?_; (conv => whnf)
    obtain rfl := sm e
    repeat' first | exact rfl | exact trivial | refine ⟨?_, ?_⟩

def M_types_measure (p : Ty) (r : (Int × Int × Bool)) : Prop := ∀ (a0 : Ty), a0 = p → Pure Try.prog 172 [(Ty.D a0)] (.tuple [(.int .i64 r.1), (.int .i64 r.2.1), (.bool r.2.2)])
def M_types_measure_j0 (p : (Bool × Ty)) (r : (Int × Int × Bool)) : Prop := ∀ (t4_1 : Bool) (a0 : Ty), (t4_1, a0) = p → Runs Try.prog Try.f172.ntmps [] (codeAt [1, 1, 1, 0, 0] (bodyOf Try.f172)) (qAt T Try.prog Try.f172.ntmps [] [5] [1, 1, 1, 0, 0] (bodyOf Try.f172) (EndPure T Try.f172.results.toList (.tuple [(.int .i64 r.1), (.int .i64 r.2.1), (.bool r.2.2)]))) [(1, .ptr 0 0 0), (2, .d (.int .i64 1)), (3, .d (.int .i64 0)), (4, .d (.bool t4_1))] [[.cells [.d (.bool a0.v), .d (.str a0.name), .d (.slice 3 (Ty.Ds a0.args))]]]
def M_types_measure_l0 (p : ((List Ty) × Int × Int × Bool)) (r : (Int × Int × Bool)) : Prop := ∀ (rest0 : (List Ty)) (t2_0 : Int) (t3_0 : Int) (t4_0 : Bool), (rest0, t2_0, t3_0, t4_0) = p → ∀ (a0 : Ty) (k0 : Nat) (hd0 : rest0 = a0.args.drop k0), RunsL Try.prog Try.f172.ntmps [] (codeAt [1, 1, 1, 0, 1, 0, 0] (bodyOf Try.f172)) (qAt T Try.prog Try.f172.ntmps [] [5] [1, 1, 1, 0, 1, 0] (bodyOf Try.f172) (EndPure T Try.f172.results.toList (.tuple [(.int .i64 r.1), (.int .i64 r.2.1), (.bool r.2.2)]))) [(2, .d (.int .i64 t2_0)), (3, .d (.int .i64 t3_0)), (4, .d (.bool t4_0)), (37, .d (.slice 3 (Ty.Ds a0.args))), (38, .d (.int .i64 ((Ty.Ds a0.args).length : Int))), (39, .d (.int .i64 (k0 : Int)))] [[]]
theorem G_types_measure : (∀ p r, types_measure' p = some r → M_types_measure p r) ∧
    (∀ p r, types_measure_j0' p = some r → M_types_measure_j0 p r) ∧
    (∀ p r, types_measure_l0' p = some r → M_types_measure_l0 p r) := by
  refine types_measure'.mutual_partial_correctness M_types_measure M_types_measure_j0 M_types_measure_l0 ?_ ?_ ?_
  · intro f_types_measure_j0 ih_types_measure_j0 p r e a0 hp
    subst hp
    refine pure_of_awp (js := [5]) T_ok Try.func172 rfl (by decide +kernel) rfl ?_; (conv => whnf)
    refine brK.split (fun hb1 => ?_) (fun hb1 => ?_)
    · replace e := ifpb hb1 e; (conv => whnf)
      obtain ⟨v2, qv2, e⟩ := bnd e
      refine said_pure (P_types_variable qv2) rfl ?_; (conv => whnf)
      refine brK.split (fun hb3 => ?_) (fun hb3 => ?_)
      · replace e := ifpb hb3 e; (conv => whnf)
        refine brK.tt hb3 ?_; (conv => whnf)
        refine brK.tt hb3 ?_; (conv => whnf)
        refine brK.tt hb3 ?_; (conv => whnf)
        refine ⟨⟨fun h4 => ?_, fun h4 => ?_⟩⟩
        · replace e := ifp (by first | exact h4 | simpa [Ty.Ds_all, Ty.D, listAll] using h4) e; (conv => whnf)
          refine brK.tt hb3 ?_; (conv => whnf)
          refine Runs.weak (ih_types_measure_j0 _ _ e _ _ rfl) ?_
          repeat' first | exact wk.of_eq rfl | exact wk.pure rfl | exact wk.un _ | exact rfl | exact trivial | refine ⟨?_, ?_⟩ | (refine wk.of_eq ?_; (conv => lhs; whnf); (simp [Ty.Ds_all, Ty.D, listAll] <;> (repeat' first | rfl | apply And.intro)); done) | (refine wk.pure ?_; (conv => lhs; whnf); (simp [Ty.Ds_all, Ty.D, listAll] <;> (repeat' first | rfl | apply And.intro)); done) | ((simp [Ty.Ds_all, Ty.D, listAll] <;> (repeat' first | rfl | apply And.intro)); done)
        · replace e := ifn (by first | exact h4 | simpa [Ty.Ds_all, Ty.D, listAll] using h4) e; (conv => whnf)
          refine brK.tt hb3 ?_; (conv => whnf)
          refine Runs.weak (ih_types_measure_j0 _ _ e _ _ rfl) ?_
          repeat' first | exact wk.of_eq rfl | exact wk.pure rfl | exact wk.un _ | exact rfl | exact trivial | refine ⟨?_, ?_⟩ | (refine wk.of_eq ?_; (conv => lhs; whnf); (simp [Ty.Ds_all, Ty.D, listAll] <;> (repeat' first | rfl | apply And.intro)); done) | (refine wk.pure ?_; (conv => lhs; whnf); (simp [Ty.Ds_all, Ty.D, listAll] <;> (repeat' first | rfl | apply And.intro)); done) | ((simp [Ty.Ds_all, Ty.D, listAll] <;> (repeat' first | rfl | apply And.intro)); done)
      · replace e := ifnb hb3 e; (conv => whnf)
        refine brK.ff hb3 ?_; (conv => whnf)
        refine brK.ff hb3 ?_; (conv => whnf)
        refine brK.ff hb3 ?_; (conv => whnf)
        refine brK.ff hb3 ?_; (conv => whnf)
        refine Runs.weak (ih_types_measure_j0 _ _ e _ _ rfl) ?_
        repeat' first | exact wk.of_eq rfl | exact wk.pure rfl | exact wk.un _ | exact rfl | exact trivial | refine ⟨?_, ?_⟩ | (refine wk.of_eq ?_; (conv => lhs; whnf); (simp [Ty.Ds_all, Ty.D, listAll] <;> (repeat' first | rfl | apply And.intro)); done) | (refine wk.pure ?_; (conv => lhs; whnf); (simp [Ty.Ds_all, Ty.D, listAll] <;> (repeat' first | rfl | apply And.intro)); done) | ((simp [Ty.Ds_all, Ty.D, listAll] <;> (repeat' first | rfl | apply And.intro)); done)
    · replace e := ifnb hb1 e; (conv => whnf)
      obtain ⟨v10, qv10, e⟩ := bnd e
      refine said_pure (P_types_name qv10) rfl ?_; (conv => whnf)
      refine brK.split (fun hb11 => ?_) (fun hb11 => ?_)
      · replace e := ifpb hb11 e; (conv => whnf)
        refine brK.tt hb11 ?_; (conv => whnf)
        refine brK.tt hb11 ?_; (conv => whnf)
        obtain ⟨v12, qv12, e⟩ := bnd e
        obtain ⟨qv12k, qv12q, qv12a, qv12b, qv12c⟩ := getb_some qv12
        refine ⟨qv12k, qv12q, qv12a, qv12b, ?_⟩; rw [qv12c]; (conv => whnf)
        refine brK.tt hb11 ?_; (conv => whnf)
        refine ⟨⟨fun h13 => ?_, fun h13 => ?_⟩⟩
        · replace e := ifp h13 e; (conv => whnf)
          refine brK.tt hb11 ?_; (conv => whnf)
          refine ⟨⟨fun h14 => ?_, fun h14 => ?_⟩⟩
          · replace e := ifp (by first | exact h14 | simpa [Ty.Ds_all, Ty.D, listAll] using h14) e; (conv => whnf)
            refine Runs.weak (ih_types_measure_j0 _ _ e _ _ rfl) ?_
            repeat' first | exact wk.of_eq rfl | exact wk.pure rfl | exact wk.un _ | exact rfl | exact trivial | refine ⟨?_, ?_⟩ | (refine wk.of_eq ?_; (conv => lhs; whnf); (simp [Ty.Ds_all, Ty.D, listAll] <;> (repeat' first | rfl | apply And.intro)); done) | (refine wk.pure ?_; (conv => lhs; whnf); (simp [Ty.Ds_all, Ty.D, listAll] <;> (repeat' first | rfl | apply And.intro)); done) | ((simp [Ty.Ds_all, Ty.D, listAll] <;> (repeat' first | rfl | apply And.intro)); done)
          · replace e := ifn (by first | exact h14 | simpa [Ty.Ds_all, Ty.D, listAll] using h14) e; (conv => whnf)
            refine Runs.weak (ih_types_measure_j0 _ _ e _ _ rfl) ?_
            repeat' first | exact wk.of_eq rfl | exact wk.pure rfl | exact wk.un _ | exact rfl | exact trivial | refine ⟨?_, ?_⟩ | (refine wk.of_eq ?_; (conv => lhs; whnf); (simp [Ty.Ds_all, Ty.D, listAll] <;> (repeat' first | rfl | apply And.intro)); done) | (refine wk.pure ?_; (conv => lhs; whnf); (simp [Ty.Ds_all, Ty.D, listAll] <;> (repeat' first | rfl | apply And.intro)); done) | ((simp [Ty.Ds_all, Ty.D, listAll] <;> (repeat' first | rfl | apply And.intro)); done)
        · replace e := ifn h13 e; (conv => whnf)
          refine brK.tt hb11 ?_; (conv => whnf)
          refine Runs.weak (ih_types_measure_j0 _ _ e _ _ rfl) ?_
          repeat' first | exact wk.of_eq rfl | exact wk.pure rfl | exact wk.un _ | exact rfl | exact trivial | refine ⟨?_, ?_⟩ | (refine wk.of_eq ?_; (conv => lhs; whnf); (simp [Ty.Ds_all, Ty.D, listAll] <;> (repeat' first | rfl | apply And.intro)); done) | (refine wk.pure ?_; (conv => lhs; whnf); (simp [Ty.Ds_all, Ty.D, listAll] <;> (repeat' first | rfl | apply And.intro)); done) | ((simp [Ty.Ds_all, Ty.D, listAll] <;> (repeat' first | rfl | apply And.intro)); done)
      · replace e := ifnb hb11 e; (conv => whnf)
        refine brK.ff hb11 ?_; (conv => whnf)
        refine brK.ff hb11 ?_; (conv => whnf)
        refine brK.ff hb11 ?_; (conv => whnf)
        refine brK.ff hb11 ?_; (conv => whnf)
        refine Runs.weak (ih_types_measure_j0 _ _ e _ _ rfl) ?_
        repeat' first | exact wk.of_eq rfl | exact wk.pure rfl | exact wk.un _ | exact rfl | exact trivial | refine ⟨?_, ?_⟩ | (refine wk.of_eq ?_; (conv => lhs; whnf); (simp [Ty.Ds_all, Ty.D, listAll] <;> (repeat' first | rfl | apply And.intro)); done) | (refine wk.pure ?_; (conv => lhs; whnf); (simp [Ty.Ds_all, Ty.D, listAll] <;> (repeat' first | rfl | apply And.intro)); done) | ((simp [Ty.Ds_all, Ty.D, listAll] <;> (repeat' first | rfl | apply And.intro)); done)
  · intro f_types_measure_l0 ih_types_measure_l0 p r e t4_1 a0 hp
    subst hp
    refine Runs.enter T_ok ?_; (conv => whnf)
    refine RunsL.runs (RunsL.weak ((ih_types_measure_l0 _ _ e _ _ _ _ rfl) a0 0 (by simp)) ?_)
    repeat' first | exact wk.of_eq rfl | exact wk.pure rfl | exact wk.un _ | exact rfl | exact trivial | refine ⟨?_, ?_⟩ | (refine wk.of_eq ?_; (conv => lhs; whnf); (simp [Ty.Ds_all, Ty.D, listAll] <;> (repeat' first | rfl | apply And.intro)); done) | (refine wk.pure ?_; (conv => lhs; whnf); (simp [Ty.Ds_all, Ty.D, listAll] <;> (repeat' first | rfl | apply And.intro)); done) | ((simp [Ty.Ds_all, Ty.D, listAll] <;> (repeat' first | rfl | apply And.intro)); done)
  · intro f_types_measure f_types_measure_l0 ih_types_measure ih_types_measure_l0 p r e rest0 t2_0 t3_0 t4_0 hp
    subst hp
    intro a0 k0 hd0
    refine RunsL.len_tmp 37 rfl fun hlenk0 => ?_
    refine RunsL.of_awp (js := [5]) T_ok ?_; (conv => whnf)
    have hls := Ty.Ds_len a0.args
    cases rest0 with
    | nil =>
      have hk := drop_nil hd0
      refine ⟨⟨fun h => absurd h (by omega), fun _ => ?_⟩⟩; (conv => whnf)
      obtain ⟨v9, qv9, e⟩ := bnd e
      refine ⟨v9, sm qv9, ?_⟩; (conv => whnf)
      obtain rfl := sm e
      repeat' first | exact rfl | exact trivial | refine ⟨?_, ?_⟩
    | cons v5 rest0 =>
      obtain ⟨hxv5, hd0, hltv5⟩ := drop_head hd0
      refine ⟨⟨fun _ => ?_, fun h => absurd (by omega) h⟩⟩; (conv => whnf)
      refine ⟨k0, _, rfl, Ty.Ds_get hxv5, ?_⟩; (conv => whnf)
      refine ⟨Ty.Ds_fit _ rfl rfl, ?_⟩; (conv => whnf)
      obtain ⟨v6, qv6, e⟩ := bnd e
      refine said_pure (ih_types_measure _ _ qv6 _ rfl) rfl ?_; (conv => whnf)
      obtain ⟨v7, qv7, e⟩ := bnd e
      refine ⟨v7, sm qv7, ?_⟩; (conv => whnf)
      refine brK.split (fun hb8 => ?_) (fun hb8 => ?_)
      · replace e := ifpb hb8 e; (conv => whnf)
        refine brK.tt hb8 ?_; (conv => whnf)
        refine ⟨((k0 + 1 : Nat) : Int), wrap64e (by omega) (by omega) (by omega), ?_⟩; (conv => whnf)
        refine (RunsL.weak ((ih_types_measure_l0 _ _ e _ _ _ _ rfl) a0 (k0 + 1) hd0) ?_)
        repeat' first | exact wk.of_eq rfl | exact wk.pure rfl | exact wk.un _ | exact rfl | exact trivial | refine ⟨?_, ?_⟩ | (refine wk.of_eq ?_; (conv => lhs; whnf); (simp [Ty.Ds_all, Ty.D, listAll] <;> (repeat' first | rfl | apply And.intro)); done) | (refine wk.pure ?_; (conv => lhs; whnf); (simp [Ty.Ds_all, Ty.D, listAll] <;> (repeat' first | rfl | apply And.intro)); done) | ((simp [Ty.Ds_all, Ty.D, listAll] <;> (repeat' first | rfl | apply And.intro)); done)
      · replace e := ifnb hb8 e; (conv => whnf)
        refine brK.ff hb8 ?_; (conv => whnf)
        refine ⟨((k0 + 1 : Nat) : Int), wrap64e (by omega) (by omega) (by omega), ?_⟩; (conv => whnf)
        refine (RunsL.weak ((ih_types_measure_l0 _ _ e _ _ _ _ rfl) a0 (k0 + 1) hd0) ?_)
        repeat' first | exact wk.of_eq rfl | exact wk.pure rfl | exact wk.un _ | exact rfl | exact trivial | refine ⟨?_, ?_⟩ | (refine wk.of_eq ?_; (conv => lhs; whnf); (simp [Ty.Ds_all, Ty.D, listAll] <;> (repeat' first | rfl | apply And.intro)); done) | (refine wk.pure ?_; (conv => lhs; whnf); (simp [Ty.Ds_all, Ty.D, listAll] <;> (repeat' first | rfl | apply And.intro)); done) | ((simp [Ty.Ds_all, Ty.D, listAll] <;> (repeat' first | rfl | apply And.intro)); done)
theorem P_types_measure {a0 : Ty} {r : (Int × Int × Bool)} (e : types_measure a0 = some r) : Pure Try.prog 172 [(Ty.D a0)] (.tuple [(.int .i64 r.1), (.int .i64 r.2.1), (.bool r.2.2)]) := G_types_measure.1 _ _ e _ rfl
theorem P_types_measure_j0 {t4_1 : Bool} {a0 : Ty} {r : (Int × Int × Bool)} (e : types_measure_j0 t4_1 a0 = some r) : Runs Try.prog Try.f172.ntmps [] (codeAt [1, 1, 1, 0, 0] (bodyOf Try.f172)) (qAt T Try.prog Try.f172.ntmps [] [5] [1, 1, 1, 0, 0] (bodyOf Try.f172) (EndPure T Try.f172.results.toList (.tuple [(.int .i64 r.1), (.int .i64 r.2.1), (.bool r.2.2)]))) [(1, .ptr 0 0 0), (2, .d (.int .i64 1)), (3, .d (.int .i64 0)), (4, .d (.bool t4_1))] [[.cells [.d (.bool a0.v), .d (.str a0.name), .d (.slice 3 (Ty.Ds a0.args))]]] := G_types_measure.2.1 _ _ e _ _ rfl
theorem P_types_measure_l0 {rest0 : (List Ty)} {t2_0 : Int} {t3_0 : Int} {t4_0 : Bool} {r : (Int × Int × Bool)} (e : types_measure_l0 rest0 t2_0 t3_0 t4_0 = some r) : ∀ (a0 : Ty) (k0 : Nat) (hd0 : rest0 = a0.args.drop k0), RunsL Try.prog Try.f172.ntmps [] (codeAt [1, 1, 1, 0, 1, 0, 0] (bodyOf Try.f172)) (qAt T Try.prog Try.f172.ntmps [] [5] [1, 1, 1, 0, 1, 0] (bodyOf Try.f172) (EndPure T Try.f172.results.toList (.tuple [(.int .i64 r.1), (.int .i64 r.2.1), (.bool r.2.2)]))) [(2, .d (.int .i64 t2_0)), (3, .d (.int .i64 t3_0)), (4, .d (.bool t4_0)), (37, .d (.slice 3 (Ty.Ds a0.args))), (38, .d (.int .i64 ((Ty.Ds a0.args).length : Int))), (39, .d (.int .i64 (k0 : Int)))] [[]] := G_types_measure.2.2 _ _ e _ _ _ _ rfl

theorem P_types_Check {a0 : Ty} {r : Int} (e : types_Check a0 = some r) : Pure Try.prog 164 [(Ty.D a0)] (.int .i64 r) := by
  unfold types_Check at e
  refine pure_of_awp (js := []) T_ok Try.func164 rfl (by decide +kernel) rfl ?_; (conv => whnf)
  obtain ⟨v1, qv1, e⟩ := bnd e
  refine said_pure (P_types_measure qv1) rfl ?_; (conv => whnf)
  refine brK.nsplit (fun hb2 => ?_) (fun hb2 => ?_)
  · replace e := ifpb hb2 e; (conv => whnf)
    refine brK.ntt hb2 ?_; (conv => whnf)
    refine ⟨⟨fun h3 => ?_, fun h3 => ?_⟩⟩
    · replace e := ifp h3 e; (conv => whnf)
      refine brK.ntt hb2 ?_; (conv => whnf)
      obtain rfl := sm e
      repeat' first | exact rfl | exact trivial | refine ⟨?_, ?_⟩
    · replace e := ifn h3 e; (conv => whnf)
      refine brK.ntt hb2 ?_; (conv => whnf)
      refine ⟨⟨fun h4 => ?_, fun h4 => ?_⟩⟩
      · replace e := ifp h4 e; (conv => whnf)
        obtain rfl := sm e
        repeat' first | exact rfl | exact trivial | refine ⟨?_, ?_⟩
      · replace e := ifn h4 e; (conv => whnf)
        obtain rfl := sm e
        repeat' first | exact rfl | exact trivial | refine ⟨?_, ?_⟩
  · replace e := ifnb hb2 e; (conv => whnf)
    refine brK.nff hb2 ?_; (conv => whnf)
    refine brK.nff hb2 ?_; (conv => whnf)
    obtain rfl := sm e
    repeat' first | exact rfl | exact trivial | refine ⟨?_, ?_⟩

theorem P_terms_formed_j0 {a0 : Tm} {v52 : (Ty × Bool)} {r : (Ty × Bool)} (e : terms_formed_j0 a0 v52 = some r) : (∀ (gn2 : Nat), Runs Try.prog Try.f147.ntmps [] (codeAt [1, 0, 1, 0, 1, 1, 1, 1, 1, 1, 1, 0, 1, 1, 0, 0] (bodyOf Try.f147)) (qAt T Try.prog Try.f147.ntmps [] [21] [1, 0, 1, 0, 1, 1, 1, 1, 1, 1, 1, 0, 1, 1, 0, 0] (bodyOf Try.f147) (EndPure T Try.f147.results.toList (.tuple [(Ty.D r.1), (.bool r.2)]))) [(2, .ptr 0 0 0), (4, .ptr 0 1 0), (10, .ptr 0 3 0), (11, .d (.bool v52.2))] [[.cells [.d (.int .u8 a0.kind), .d (.str a0.name), .d (.bool a0.ty.v), .d (.str a0.ty.name), .d (.slice 3 (Ty.Ds a0.ty.args)), .d (.int .i64 a0.index), .d (.slice 7 (Tm.Ds a0.sub))], .cells [.d (.bool false), .d (.str ByteArray.empty), .nil 3], .grow 3 gn2, .cells [.d (.bool v52.1.v), .d (.str v52.1.name), .d (.slice 3 (Ty.Ds v52.1.args))]]]) ∧ (Runs Try.prog Try.f147.ntmps [] (codeAt [1, 0, 1, 0, 1, 1, 1, 1, 1, 1, 1, 0, 1, 1, 0, 0] (bodyOf Try.f147)) (qAt T Try.prog Try.f147.ntmps [] [21] [1, 0, 1, 0, 1, 1, 1, 1, 1, 1, 1, 0, 1, 1, 0, 0] (bodyOf Try.f147) (EndPure T Try.f147.results.toList (.tuple [(Ty.D r.1), (.bool r.2)]))) [(2, .ptr 0 0 0), (4, .ptr 0 1 0), (10, .ptr 0 2 0), (11, .d (.bool v52.2))] [[.cells [.d (.int .u8 a0.kind), .d (.str a0.name), .d (.bool a0.ty.v), .d (.str a0.ty.name), .d (.slice 3 (Ty.Ds a0.ty.args)), .d (.int .i64 a0.index), .d (.slice 7 (Tm.Ds a0.sub))], .cells [.d (.bool false), .d (.str ByteArray.empty), .nil 3], .cells [.d (.bool v52.1.v), .d (.str v52.1.name), .d (.slice 3 (Ty.Ds v52.1.args))]]]) := by
  unfold terms_formed_j0 at e
  refine ⟨?_, ?_⟩
  · intro gn2
    refine Runs.enter T_ok ?_; (conv => whnf)
    refine brK.nsplit (fun hb53 => ?_) (fun hb53 => ?_)
    · replace e := ifpb hb53 e; (conv => whnf)
      refine ⟨⟨⟨rfl, rfl⟩, ⟨⟨rfl, rfl⟩, trivial⟩⟩, ?_⟩; (conv => whnf)
      refine draw_rule T_ok mixed terms_formed_pl24 (by decide +kernel) ?_; (conv => whnf)
      obtain ⟨v54, qv54, e⟩ := bnd e
      first | (refine said_pure (P_types_Check qv54) rfl ⟨rfl, ?_⟩) | (refine said_pure2 (P_types_Check qv54) rfl (by simp [Tm.Ds_all, Ty.Ds_all, Tm.D, Ty.D, listAll] <;> (repeat' first | rfl | apply And.intro)) ⟨rfl, ?_⟩)
      (conv => whnf)
      refine test.dec ?_; (conv => whnf)
      obtain rfl := sm e
      repeat' first | exact rfl | exact trivial | exact ⟨_, rfl, (by first | exact rfl | (simp [Tm.Ds_all, Ty.Ds_all, Tm.D, Ty.D, listAll] <;> (repeat' first | rfl | apply And.intro))), (by first | exact rfl | (simp [Tm.Ds_all, Ty.Ds_all, Tm.D, Ty.D, listAll] <;> (repeat' first | rfl | apply And.intro)))⟩ | refine ⟨?_, ?_⟩ | (simp [Tm.Ds_all, Ty.Ds_all, Tm.D, Ty.D, listAll] <;> (repeat' first | rfl | apply And.intro))
    · replace e := ifnb hb53 e; (conv => whnf)
      obtain rfl := sm e
      repeat' first | exact rfl | exact trivial | refine ⟨?_, ?_⟩
  · refine Runs.enter T_ok ?_; (conv => whnf)
    refine brK.nsplit (fun hb55 => ?_) (fun hb55 => ?_)
    · replace e := ifpb hb55 e; (conv => whnf)
      refine ⟨⟨⟨rfl, rfl⟩, ⟨⟨rfl, rfl⟩, trivial⟩⟩, ?_⟩; (conv => whnf)
      refine draw_rule T_ok mixed terms_formed_pl24 (by decide +kernel) ?_; (conv => whnf)
      obtain ⟨v56, qv56, e⟩ := bnd e
      first | (refine said_pure (P_types_Check qv56) rfl ⟨rfl, ?_⟩) | (refine said_pure2 (P_types_Check qv56) rfl (by simp [Tm.Ds_all, Ty.Ds_all, Tm.D, Ty.D, listAll] <;> (repeat' first | rfl | apply And.intro)) ⟨rfl, ?_⟩)
      (conv => whnf)
      refine test.dec ?_; (conv => whnf)
      obtain rfl := sm e
      repeat' first | exact rfl | exact trivial | exact ⟨_, rfl, (by first | exact rfl | (simp [Tm.Ds_all, Ty.Ds_all, Tm.D, Ty.D, listAll] <;> (repeat' first | rfl | apply And.intro))), (by first | exact rfl | (simp [Tm.Ds_all, Ty.Ds_all, Tm.D, Ty.D, listAll] <;> (repeat' first | rfl | apply And.intro)))⟩ | refine ⟨?_, ?_⟩ | (simp [Tm.Ds_all, Ty.Ds_all, Tm.D, Ty.D, listAll] <;> (repeat' first | rfl | apply And.intro))
    · replace e := ifnb hb55 e; (conv => whnf)
      obtain rfl := sm e
      repeat' first | exact rfl | exact trivial | refine ⟨?_, ?_⟩

theorem P_terms_named {a0 : ByteArray} {r : Bool} (e : terms_named a0 = some r) : Pure Try.prog 163 [(.str a0)] (.bool r) := by
  unfold terms_named at e
  refine pure_of_awp (js := []) T_ok Try.func163 rfl (by decide +kernel) rfl ?_; (conv => whnf)
  obtain ⟨v1, qv1, e⟩ := bnd e
  refine said_pure (P_types_Check qv1) rfl ?_; (conv => whnf)
  refine test.dec ?_; (conv => whnf)
  obtain rfl := sm e
  repeat' first | exact rfl | exact trivial | refine ⟨?_, ?_⟩

theorem P_terms_plain {a0 : Tm} {a1 : Bool} {a2 : Bool} {a3 : Bool} {r : Bool} (e : terms_plain a0 a1 a2 a3 = some r) : Pure Try.prog 162 [(Tm.D a0), (.bool a1), (.bool a2), (.bool a3)] (.bool r) := by
  unfold terms_plain at e
  refine pure_of_awp (js := []) T_ok Try.func162 rfl (by decide +kernel) rfl ?_; (conv => whnf)
  refine brK.split (fun hb1 => ?_) (fun hb1 => ?_)
  · replace e := ifpb hb1 e; (conv => whnf)
    refine brK.tt hb1 ?_; (conv => whnf)
    refine brK.tt hb1 ?_; (conv => whnf)
    refine brK.tt hb1 ?_; (conv => whnf)
    refine brK.split (fun hb2 => ?_) (fun hb2 => ?_)
    · replace e := ifpb hb2 e; (conv => whnf)
      refine brK.tt hb2 ?_; (conv => whnf)
      refine brK.tt hb2 ?_; (conv => whnf)
      refine brK.tt hb2 ?_; (conv => whnf)
      refine brK.tt hb2 ?_; (conv => whnf)
      refine brK.tt hb2 ?_; (conv => whnf)
      refine brK.tt hb2 ?_; (conv => whnf)
      refine brK.tt hb2 ?_; (conv => whnf)
      refine brK.tt hb2 ?_; (conv => whnf)
      refine brK.split (fun hb3 => ?_) (fun hb3 => ?_)
      · replace e := ifpb hb3 e; (conv => whnf)
        refine brK.tt hb3 ?_; (conv => whnf)
        refine brK.tt hb3 ?_; (conv => whnf)
        refine brK.tt hb3 ?_; (conv => whnf)
        obtain rfl := sm e
        repeat' first | exact rfl | exact trivial | refine ⟨?_, ?_⟩
      · replace e := ifnb hb3 e; (conv => whnf)
        refine brK.ff hb3 ?_; (conv => whnf)
        refine brK.ff hb3 ?_; (conv => whnf)
        refine test.dec ?_; (conv => whnf)
        refine brK.ff hb3 ?_; (conv => whnf)
        obtain rfl := sm e
        repeat' first | exact rfl | exact trivial | refine ⟨?_, ?_⟩
    · replace e := ifnb hb2 e; (conv => whnf)
      refine brK.ff hb2 ?_; (conv => whnf)
      refine brK.ff hb2 ?_; (conv => whnf)
      refine brK.ff hb2 ?_; (conv => whnf)
      refine brK.ff hb2 ?_; (conv => whnf)
      refine brK.nsplit (fun hb4 => ?_) (fun hb4 => ?_)
      · replace e := ifpb hb4 e; (conv => whnf)
        refine brK.ntt hb4 ?_; (conv => whnf)
        refine brK.ntt hb4 ?_; (conv => whnf)
        refine brK.ntt hb4 ?_; (conv => whnf)
        refine brK.ff hb2 ?_; (conv => whnf)
        refine brK.ntt hb4 ?_; (conv => whnf)
        refine brK.ff hb2 ?_; (conv => whnf)
        refine brK.ff hb2 ?_; (conv => whnf)
        refine brK.ff hb2 ?_; (conv => whnf)
        obtain rfl := sm e
        repeat' first | exact rfl | exact trivial | refine ⟨?_, ?_⟩
      · replace e := ifnb hb4 e; (conv => whnf)
        refine brK.nff hb4 ?_; (conv => whnf)
        refine brK.nff hb4 ?_; (conv => whnf)
        refine brK.nff hb4 ?_; (conv => whnf)
        refine ⟨⟨fun h5 => ?_, fun h5 => ?_⟩⟩
        · replace e := ifp h5 e; (conv => whnf)
          refine brK.ff hb2 ?_; (conv => whnf)
          refine brK.nff hb4 ?_; (conv => whnf)
          refine brK.ff hb2 ?_; (conv => whnf)
          refine ⟨⟨fun h6 => ?_, fun h6 => ?_⟩⟩
          · replace e := ifp (by first | exact h6 | simpa [Tm.Ds_all, Ty.Ds_all, Tm.D, Ty.D, listAll] using h6) e; (conv => whnf)
            refine brK.ff hb2 ?_; (conv => whnf)
            refine brK.ff hb2 ?_; (conv => whnf)
            refine brK.split (fun hb7 => ?_) (fun hb7 => ?_)
            · replace e := ifpb hb7 e; (conv => whnf)
              refine brK.tt hb7 ?_; (conv => whnf)
              refine brK.tt hb7 ?_; (conv => whnf)
              refine brK.tt hb7 ?_; (conv => whnf)
              obtain rfl := sm e
              repeat' first | exact rfl | exact trivial | refine ⟨?_, ?_⟩
            · replace e := ifnb hb7 e; (conv => whnf)
              refine brK.ff hb7 ?_; (conv => whnf)
              refine brK.ff hb7 ?_; (conv => whnf)
              refine test.dec ?_; (conv => whnf)
              refine brK.ff hb7 ?_; (conv => whnf)
              obtain rfl := sm e
              repeat' first | exact rfl | exact trivial | refine ⟨?_, ?_⟩
          · replace e := ifn (by first | exact h6 | simpa [Tm.Ds_all, Ty.Ds_all, Tm.D, Ty.D, listAll] using h6) e; (conv => whnf)
            refine brK.ff hb2 ?_; (conv => whnf)
            refine brK.ff hb2 ?_; (conv => whnf)
            obtain rfl := sm e
            repeat' first | exact rfl | exact trivial | refine ⟨?_, ?_⟩
        · replace e := ifn h5 e; (conv => whnf)
          refine brK.ff hb2 ?_; (conv => whnf)
          refine brK.nff hb4 ?_; (conv => whnf)
          refine brK.ff hb2 ?_; (conv => whnf)
          refine brK.ff hb2 ?_; (conv => whnf)
          refine brK.ff hb2 ?_; (conv => whnf)
          obtain rfl := sm e
          repeat' first | exact rfl | exact trivial | refine ⟨?_, ?_⟩
  · replace e := ifnb hb1 e; (conv => whnf)
    refine brK.ff hb1 ?_; (conv => whnf)
    refine brK.ff hb1 ?_; (conv => whnf)
    refine ⟨⟨fun h8 => ?_, fun h8 => ?_⟩⟩
    · replace e := ifp h8 e; (conv => whnf)
      refine brK.ff hb1 ?_; (conv => whnf)
      refine brK.split (fun hb9 => ?_) (fun hb9 => ?_)
      · replace e := ifpb hb9 e; (conv => whnf)
        refine brK.tt hb9 ?_; (conv => whnf)
        refine brK.tt hb9 ?_; (conv => whnf)
        refine brK.tt hb9 ?_; (conv => whnf)
        refine brK.tt hb9 ?_; (conv => whnf)
        refine brK.tt hb9 ?_; (conv => whnf)
        refine brK.tt hb9 ?_; (conv => whnf)
        refine brK.tt hb9 ?_; (conv => whnf)
        refine brK.tt hb9 ?_; (conv => whnf)
        refine brK.split (fun hb10 => ?_) (fun hb10 => ?_)
        · replace e := ifpb hb10 e; (conv => whnf)
          refine brK.tt hb10 ?_; (conv => whnf)
          refine brK.tt hb10 ?_; (conv => whnf)
          refine brK.tt hb10 ?_; (conv => whnf)
          obtain rfl := sm e
          repeat' first | exact rfl | exact trivial | refine ⟨?_, ?_⟩
        · replace e := ifnb hb10 e; (conv => whnf)
          refine brK.ff hb10 ?_; (conv => whnf)
          refine brK.ff hb10 ?_; (conv => whnf)
          refine test.dec ?_; (conv => whnf)
          refine brK.ff hb10 ?_; (conv => whnf)
          obtain rfl := sm e
          repeat' first | exact rfl | exact trivial | refine ⟨?_, ?_⟩
      · replace e := ifnb hb9 e; (conv => whnf)
        refine brK.ff hb9 ?_; (conv => whnf)
        refine brK.ff hb9 ?_; (conv => whnf)
        refine brK.ff hb9 ?_; (conv => whnf)
        refine brK.ff hb9 ?_; (conv => whnf)
        refine brK.nsplit (fun hb11 => ?_) (fun hb11 => ?_)
        · replace e := ifpb hb11 e; (conv => whnf)
          refine brK.ntt hb11 ?_; (conv => whnf)
          refine brK.ntt hb11 ?_; (conv => whnf)
          refine brK.ntt hb11 ?_; (conv => whnf)
          refine brK.ff hb9 ?_; (conv => whnf)
          refine brK.ntt hb11 ?_; (conv => whnf)
          refine brK.ff hb9 ?_; (conv => whnf)
          refine brK.ff hb9 ?_; (conv => whnf)
          refine brK.ff hb9 ?_; (conv => whnf)
          obtain rfl := sm e
          repeat' first | exact rfl | exact trivial | refine ⟨?_, ?_⟩
        · replace e := ifnb hb11 e; (conv => whnf)
          refine brK.nff hb11 ?_; (conv => whnf)
          refine brK.nff hb11 ?_; (conv => whnf)
          refine brK.nff hb11 ?_; (conv => whnf)
          refine ⟨⟨fun h12 => ?_, fun h12 => ?_⟩⟩
          · replace e := ifp h12 e; (conv => whnf)
            refine brK.ff hb9 ?_; (conv => whnf)
            refine brK.nff hb11 ?_; (conv => whnf)
            refine brK.ff hb9 ?_; (conv => whnf)
            refine ⟨⟨fun h13 => ?_, fun h13 => ?_⟩⟩
            · replace e := ifp (by first | exact h13 | simpa [Tm.Ds_all, Ty.Ds_all, Tm.D, Ty.D, listAll] using h13) e; (conv => whnf)
              refine brK.ff hb9 ?_; (conv => whnf)
              refine brK.ff hb9 ?_; (conv => whnf)
              refine brK.split (fun hb14 => ?_) (fun hb14 => ?_)
              · replace e := ifpb hb14 e; (conv => whnf)
                refine brK.tt hb14 ?_; (conv => whnf)
                refine brK.tt hb14 ?_; (conv => whnf)
                refine brK.tt hb14 ?_; (conv => whnf)
                obtain rfl := sm e
                repeat' first | exact rfl | exact trivial | refine ⟨?_, ?_⟩
              · replace e := ifnb hb14 e; (conv => whnf)
                refine brK.ff hb14 ?_; (conv => whnf)
                refine brK.ff hb14 ?_; (conv => whnf)
                refine test.dec ?_; (conv => whnf)
                refine brK.ff hb14 ?_; (conv => whnf)
                obtain rfl := sm e
                repeat' first | exact rfl | exact trivial | refine ⟨?_, ?_⟩
            · replace e := ifn (by first | exact h13 | simpa [Tm.Ds_all, Ty.Ds_all, Tm.D, Ty.D, listAll] using h13) e; (conv => whnf)
              refine brK.ff hb9 ?_; (conv => whnf)
              refine brK.ff hb9 ?_; (conv => whnf)
              obtain rfl := sm e
              repeat' first | exact rfl | exact trivial | refine ⟨?_, ?_⟩
          · replace e := ifn h12 e; (conv => whnf)
            refine brK.ff hb9 ?_; (conv => whnf)
            refine brK.nff hb11 ?_; (conv => whnf)
            refine brK.ff hb9 ?_; (conv => whnf)
            refine brK.ff hb9 ?_; (conv => whnf)
            refine brK.ff hb9 ?_; (conv => whnf)
            obtain rfl := sm e
            repeat' first | exact rfl | exact trivial | refine ⟨?_, ?_⟩
    · replace e := ifn h8 e; (conv => whnf)
      refine brK.ff hb1 ?_; (conv => whnf)
      obtain rfl := sm e
      repeat' first | exact rfl | exact trivial | refine ⟨?_, ?_⟩

theorem P_cmp_isNaN_int {a0 : Int} {r : Bool} (e : cmp_isNaN_int a0 = some r) : Pure Try.prog 160 [(.int .i64 a0)] (.bool r) := by
  unfold cmp_isNaN_int at e
  refine pure_of_awp (js := []) T_ok Try.func160 rfl (by decide +kernel) rfl ?_; (conv => whnf)
  refine test.dec ?_; (conv => whnf)
  obtain rfl := sm e
  repeat' first | exact rfl | exact trivial | refine ⟨?_, ?_⟩

theorem P_cmp_Compare_int {a0 : Int} {a1 : Int} {r : Int} (e : cmp_Compare_int a0 a1 = some r) : Pure Try.prog 144 [(.int .i64 a0), (.int .i64 a1)] (.int .i64 r) := by
  unfold cmp_Compare_int at e
  refine pure_of_awp (js := []) T_ok Try.func144 rfl (by decide +kernel) rfl ?_; (conv => whnf)
  obtain ⟨v1, qv1, e⟩ := bnd e
  refine said_pure (P_cmp_isNaN_int qv1) rfl ?_; (conv => whnf)
  obtain ⟨v2, qv2, e⟩ := bnd e
  refine said_pure (P_cmp_isNaN_int qv2) rfl ?_; (conv => whnf)
  refine brK.split (fun hb3 => ?_) (fun hb3 => ?_)
  · replace e := ifpb hb3 e; (conv => whnf)
    refine brK.split (fun hb4 => ?_) (fun hb4 => ?_)
    · replace e := ifpb hb4 e; (conv => whnf)
      obtain rfl := sm e
      repeat' first | exact rfl | exact trivial | refine ⟨?_, ?_⟩
    · replace e := ifnb hb4 e; (conv => whnf)
      obtain rfl := sm e
      repeat' first | exact rfl | exact trivial | refine ⟨?_, ?_⟩
  · replace e := ifnb hb3 e; (conv => whnf)
    refine brK.split (fun hb5 => ?_) (fun hb5 => ?_)
    · replace e := ifpb hb5 e; (conv => whnf)
      obtain rfl := sm e
      repeat' first | exact rfl | exact trivial | refine ⟨?_, ?_⟩
    · replace e := ifnb hb5 e; (conv => whnf)
      refine ⟨⟨fun h6 => ?_, fun h6 => ?_⟩⟩
      · replace e := ifp h6 e; (conv => whnf)
        obtain rfl := sm e
        repeat' first | exact rfl | exact trivial | refine ⟨?_, ?_⟩
      · replace e := ifn h6 e; (conv => whnf)
        refine ⟨⟨fun h7 => ?_, fun h7 => ?_⟩⟩
        · replace e := ifp h7 e; (conv => whnf)
          obtain rfl := sm e
          repeat' first | exact rfl | exact trivial | refine ⟨?_, ?_⟩
        · replace e := ifn h7 e; (conv => whnf)
          obtain rfl := sm e
          repeat' first | exact rfl | exact trivial | refine ⟨?_, ?_⟩

def M_cmp_Or_int_l0 (p : (List Int)) (r : Int) : Prop := ∀ (rest0 : (List Int)), rest0 = p → ∀ (a0 : (List Int)) (k0 : Nat) (hd0 : rest0 = a0.drop k0), RunsL Try.prog Try.f142.ntmps [] (codeAt [1, 1, 0, 1, 0, 0] (bodyOf Try.f142)) (qAt T Try.prog Try.f142.ntmps [] [] [1, 1, 0, 1, 0] (bodyOf Try.f142) (EndPure T Try.f142.results.toList (.int .i64 r))) [(3, .d (.int .i64 0)), (6, .d (.slice 1 (intDs_i64 a0))), (7, .d (.int .i64 ((intDs_i64 a0).length : Int))), (8, .d (.int .i64 (k0 : Int)))] [[]]
theorem G_cmp_Or_int_l0 : (∀ p r, cmp_Or_int_l0' p = some r → M_cmp_Or_int_l0 p r) := by
  refine cmp_Or_int_l0'.partial_correctness M_cmp_Or_int_l0 ?_
  · intro f_cmp_Or_int_l0 ih_cmp_Or_int_l0 p r e rest0 hp
    subst hp
    intro a0 k0 hd0
    refine RunsL.len_tmp 6 rfl fun hlenk0 => ?_
    refine RunsL.of_awp (js := []) T_ok ?_; (conv => whnf)
    have hls := intDs_i64_len a0
    cases rest0 with
    | nil =>
      have hk := drop_nil hd0
      refine ⟨⟨fun h => absurd h (by omega), fun _ => ?_⟩⟩; (conv => whnf)
      obtain rfl := sm e
      repeat' first | exact rfl | exact trivial | refine ⟨?_, ?_⟩
    | cons v1 rest0 =>
      obtain ⟨hxv1, hd0, hltv1⟩ := drop_head hd0
      refine ⟨⟨fun _ => ?_, fun h => absurd (by omega) h⟩⟩; (conv => whnf)
      refine ⟨k0, _, rfl, intDs_i64_get hxv1, ?_⟩; (conv => whnf)
      refine ⟨intDs_i64_fit _ rfl rfl, ?_⟩; (conv => whnf)
      refine ⟨⟨fun h2 => ?_, fun h2 => ?_⟩⟩
      · replace e := ifp h2 e; (conv => whnf)
        obtain rfl := sm e
        repeat' first | exact rfl | exact trivial | refine ⟨?_, ?_⟩
      · replace e := ifn h2 e; (conv => whnf)
        refine ⟨((k0 + 1 : Nat) : Int), wrap64e (by omega) (by omega) (by omega), ?_⟩; (conv => whnf)
        refine (RunsL.weak ((ih_cmp_Or_int_l0 _ _ e _ rfl) a0 (k0 + 1) hd0) ?_)
        repeat' first | exact wk.of_eq rfl | exact wk.pure rfl | exact wk.un _ | exact rfl | exact trivial | refine ⟨?_, ?_⟩ | (refine wk.of_eq ?_; (conv => lhs; whnf); (simp [intDs_i64_all, listAll] <;> (repeat' first | rfl | apply And.intro)); done) | (refine wk.pure ?_; (conv => lhs; whnf); (simp [intDs_i64_all, listAll] <;> (repeat' first | rfl | apply And.intro)); done) | ((simp [intDs_i64_all, listAll] <;> (repeat' first | rfl | apply And.intro)); done)
theorem P_cmp_Or_int_l0 {rest0 : (List Int)} {r : Int} (e : cmp_Or_int_l0 rest0 = some r) : ∀ (a0 : (List Int)) (k0 : Nat) (hd0 : rest0 = a0.drop k0), RunsL Try.prog Try.f142.ntmps [] (codeAt [1, 1, 0, 1, 0, 0] (bodyOf Try.f142)) (qAt T Try.prog Try.f142.ntmps [] [] [1, 1, 0, 1, 0] (bodyOf Try.f142) (EndPure T Try.f142.results.toList (.int .i64 r))) [(3, .d (.int .i64 0)), (6, .d (.slice 1 (intDs_i64 a0))), (7, .d (.int .i64 ((intDs_i64 a0).length : Int))), (8, .d (.int .i64 (k0 : Int)))] [[]] := G_cmp_Or_int_l0 _ _ e _ rfl

theorem P_cmp_Or_int {a0 : (List Int)} {r : Int} (e : cmp_Or_int a0 = some r) : Pure Try.prog 142 [(.slice 1 (intDs_i64 a0))] (.int .i64 r) := by
  unfold cmp_Or_int at e
  refine pure_of_awp (js := []) T_ok Try.func142 rfl (by decide +kernel) rfl ?_; (conv => whnf)
  refine RunsL.runs (RunsL.weak ((P_cmp_Or_int_l0 e) a0 0 (by simp)) ?_)
  repeat' first | exact wk.of_eq rfl | exact wk.pure rfl | exact wk.un _ | exact rfl | exact trivial | refine ⟨?_, ?_⟩ | (refine wk.of_eq ?_; (conv => lhs; whnf); (simp [intDs_i64_all, listAll] <;> (repeat' first | rfl | apply And.intro)); done) | (refine wk.pure ?_; (conv => lhs; whnf); (simp [intDs_i64_all, listAll] <;> (repeat' first | rfl | apply And.intro)); done) | ((simp [intDs_i64_all, listAll] <;> (repeat' first | rfl | apply And.intro)); done)

theorem P_bytealg_CompareString {a0 : ByteArray} {a1 : ByteArray} {r : Int} (e : bytealg_CompareString a0 a1 = some r) : Pure Try.prog 157 [(.str a0), (.str a1)] (.int .i64 r) := by
  unfold bytealg_CompareString at e
  refine pure_of_awp (js := []) T_ok Try.func157 rfl (by decide +kernel) rfl ?_; (conv => whnf)
  obtain ⟨v1, qv1, e⟩ := bnd e
  refine said_pure (P_cmpstr qv1) rfl ?_; (conv => whnf)
  obtain rfl := sm e
  repeat' first | exact rfl | exact trivial | refine ⟨?_, ?_⟩

theorem P_strings_Compare {a0 : ByteArray} {a1 : ByteArray} {r : Int} (e : strings_Compare a0 a1 = some r) : Pure Try.prog 141 [(.str a0), (.str a1)] (.int .i64 r) := by
  unfold strings_Compare at e
  refine pure_of_awp (js := []) T_ok Try.func141 rfl (by decide +kernel) rfl ?_; (conv => whnf)
  obtain ⟨v1, qv1, e⟩ := bnd e
  refine said_pure (P_bytealg_CompareString qv1) rfl ?_; (conv => whnf)
  obtain rfl := sm e
  repeat' first | exact rfl | exact trivial | refine ⟨?_, ?_⟩

theorem P_types_rank {a0 : Ty} {r : Int} (e : types_rank a0 = some r) : Pure Try.prog 158 [(Ty.D a0)] (.int .i64 r) := by
  unfold types_rank at e
  refine pure_of_awp (js := []) T_ok Try.func158 rfl (by decide +kernel) rfl ?_; (conv => whnf)
  refine brK.split (fun hb1 => ?_) (fun hb1 => ?_)
  · replace e := ifpb hb1 e; (conv => whnf)
    obtain rfl := sm e
    repeat' first | exact rfl | exact trivial | refine ⟨?_, ?_⟩
  · replace e := ifnb hb1 e; (conv => whnf)
    obtain rfl := sm e
    repeat' first | exact rfl | exact trivial | refine ⟨?_, ?_⟩

def M_types_Compare (p : (Ty × Ty)) (r : Int) : Prop := ∀ (a0 : Ty) (a1 : Ty), (a0, a1) = p → Pure Try.prog 143 [(Ty.D a0), (Ty.D a1)] (.int .i64 r)
def M_slices_CompareFunc_Type_Type_Type_Type__types_Compare (p : ((List Ty) × (List Ty))) (r : Int) : Prop := ∀ (a0 : (List Ty)) (a1 : (List Ty)), (a0, a1) = p → Pure Try.prog 159 [(.slice 3 (Ty.Ds a0)), (.slice 3 (Ty.Ds a1)), (.func (.func 143) [] [])] (.int .i64 r)
def M_slices_CompareFunc_Type_Type_Type_Type__types_Compare_l0 (p : ((List Ty) × Nat × (List Ty) × (List Ty))) (r : Int) : Prop := ∀ (rest0 : (List Ty)) (k0 : Nat) (a0 : (List Ty)) (a1 : (List Ty)), (rest0, k0, a0, a1) = p → ∀ (hd0 : rest0 = a0.drop k0), RunsL Try.prog Try.f159.ntmps [] (codeAt [1, 0, 1, 0, 0] (bodyOf Try.f159)) (qAt T Try.prog Try.f159.ntmps [] [] [1, 0, 1, 0] (bodyOf Try.f159) (EndPure T Try.f159.results.toList (.int .i64 r))) [(0, .d (.slice 3 (Ty.Ds a0))), (1, .d (.slice 3 (Ty.Ds a1))), (2, .d (.func (.func 143) [] [])), (11, .d (.slice 3 (Ty.Ds a0))), (12, .d (.int .i64 ((Ty.Ds a0).length : Int))), (13, .d (.int .i64 (k0 : Int)))] [[]]
theorem G_types_Compare : (∀ p r, types_Compare' p = some r → M_types_Compare p r) ∧
    (∀ p r, slices_CompareFunc_Type_Type_Type_Type__types_Compare' p = some r → M_slices_CompareFunc_Type_Type_Type_Type__types_Compare p r) ∧
    (∀ p r, slices_CompareFunc_Type_Type_Type_Type__types_Compare_l0' p = some r → M_slices_CompareFunc_Type_Type_Type_Type__types_Compare_l0 p r) := by
  refine types_Compare'.mutual_partial_correctness M_types_Compare M_slices_CompareFunc_Type_Type_Type_Type__types_Compare M_slices_CompareFunc_Type_Type_Type_Type__types_Compare_l0 ?_ ?_ ?_
  · intro f_slices_CompareFunc_Type_Type_Type_Type__types_Compare ih_slices_CompareFunc_Type_Type_Type_Type__types_Compare p r e a0 a1 hp
    subst hp
    refine pure_of_awp (js := []) T_ok Try.func143 rfl (by decide +kernel) rfl ?_; (conv => whnf)
    refine draw_rule T_ok mixed types_Compare_pl1 (by decide +kernel) ?_; (conv => whnf)
    obtain ⟨v1, qv1, e⟩ := bnd e
    refine said_pure (P_types_rank qv1) rfl ⟨rfl, ?_⟩; (conv => whnf)
    obtain ⟨v2, qv2, e⟩ := bnd e
    refine said_pure (P_types_rank qv2) rfl ⟨rfl, ?_⟩; (conv => whnf)
    obtain ⟨v3, qv3, e⟩ := bnd e
    refine said_pure (P_cmp_Compare_int qv3) rfl ⟨rfl, ?_⟩; (conv => whnf)
    obtain ⟨v4, qv4, e⟩ := bnd e
    refine said_pure (P_strings_Compare qv4) rfl ⟨rfl, ?_⟩; (conv => whnf)
    obtain ⟨v5, qv5, e⟩ := bnd e
    first | (refine said_pure (P_cmp_Compare_int qv5) rfl ⟨rfl, ?_⟩) | (refine said_pure2 (P_cmp_Compare_int qv5) rfl (by simp [Ty.Ds_all, intDs_i64_all, Ty.D, listAll] <;> (repeat' first | rfl | apply And.intro)) ⟨rfl, ?_⟩)
    (conv => whnf)
    refine ⟨⟨⟨rfl, rfl⟩, ⟨⟨rfl, rfl⟩, ⟨⟨rfl, rfl⟩, trivial⟩⟩⟩, ?_⟩; (conv => whnf)
    obtain ⟨v6, qv6, e⟩ := bnd e
    first | (refine said_pure (P_cmp_Or_int qv6) rfl ⟨rfl, ?_⟩) | (refine said_pure2 (P_cmp_Or_int qv6) rfl (by simp [Ty.Ds_all, intDs_i64_all, Ty.D, listAll] <;> (repeat' first | rfl | apply And.intro)) ⟨rfl, ?_⟩)
    (conv => whnf)
    refine ⟨⟨fun h7 => ?_, fun h7 => ?_⟩⟩
    · replace e := ifp h7 e; (conv => whnf)
      obtain rfl := sm e
      repeat' first | exact rfl | exact trivial | refine ⟨?_, ?_⟩
    · replace e := ifn h7 e; (conv => whnf)
      obtain ⟨v8, qv8, e⟩ := bnd e
      refine said_pure (ih_slices_CompareFunc_Type_Type_Type_Type__types_Compare _ _ qv8 _ _ rfl) rfl ?_; (conv => whnf)
      obtain rfl := sm e
      repeat' first | exact rfl | exact trivial | refine ⟨?_, ?_⟩
  · intro f_slices_CompareFunc_Type_Type_Type_Type__types_Compare_l0 ih_slices_CompareFunc_Type_Type_Type_Type__types_Compare_l0 p r e a0 a1 hp
    subst hp
    refine pure_of_awp (js := []) T_ok Try.func159 rfl (by decide +kernel) rfl ?_; (conv => whnf)
    refine RunsL.runs (RunsL.weak ((ih_slices_CompareFunc_Type_Type_Type_Type__types_Compare_l0 _ _ e _ _ _ _ rfl) (by simp)) ?_)
    repeat' first | exact wk.of_eq rfl | exact wk.pure rfl | exact wk.un _ | exact rfl | exact trivial | refine ⟨?_, ?_⟩ | (refine wk.of_eq ?_; (conv => lhs; whnf); (simp [Ty.Ds_all, Ty.D, listAll] <;> (repeat' first | rfl | apply And.intro)); done) | (refine wk.pure ?_; (conv => lhs; whnf); (simp [Ty.Ds_all, Ty.D, listAll] <;> (repeat' first | rfl | apply And.intro)); done) | ((simp [Ty.Ds_all, Ty.D, listAll] <;> (repeat' first | rfl | apply And.intro)); done)
  · intro f_types_Compare f_slices_CompareFunc_Type_Type_Type_Type__types_Compare_l0 ih_types_Compare ih_slices_CompareFunc_Type_Type_Type_Type__types_Compare_l0 p r e rest0 k0 a0 a1 hp
    subst hp
    intro hd0
    refine RunsL.len_tmp 0 rfl fun hlenk0 => ?_
    refine RunsL.of_awp (js := []) T_ok ?_; (conv => whnf)
    have hls := Ty.Ds_len a0
    cases rest0 with
    | nil =>
      have hk := drop_nil hd0
      refine ⟨⟨fun h => absurd h (by omega), fun _ => ?_⟩⟩; (conv => whnf)
      refine ⟨⟨fun h6 => ?_, fun h6 => ?_⟩⟩
      · replace e := ifp (by first | exact h6 | simpa [Ty.Ds_all, Ty.D, listAll] using h6) e; (conv => whnf)
        obtain rfl := sm e
        repeat' first | exact rfl | exact trivial | refine ⟨?_, ?_⟩
      · replace e := ifn (by first | exact h6 | simpa [Ty.Ds_all, Ty.D, listAll] using h6) e; (conv => whnf)
        obtain rfl := sm e
        repeat' first | exact rfl | exact trivial | refine ⟨?_, ?_⟩
    | cons v1 rest0 =>
      obtain ⟨hxv1, hd0, hltv1⟩ := drop_head hd0
      refine ⟨⟨fun _ => ?_, fun h => absurd (by omega) h⟩⟩; (conv => whnf)
      refine ⟨k0, _, rfl, Ty.Ds_get hxv1, ?_⟩; (conv => whnf)
      refine ⟨Ty.Ds_fit _ rfl rfl, ?_⟩; (conv => whnf)
      refine ⟨⟨fun h2 => ?_, fun h2 => ?_⟩⟩
      · replace e := ifp (by first | exact h2 | simpa [Ty.Ds_all, Ty.D, listAll] using h2) e; (conv => whnf)
        obtain rfl := sm e
        repeat' first | exact rfl | exact trivial | refine ⟨?_, ?_⟩
      · replace e := ifn (by first | exact h2 | simpa [Ty.Ds_all, Ty.D, listAll] using h2) e; (conv => whnf)
        obtain ⟨v3, qv3, e⟩ := bnd e
        obtain ⟨qv3k, qv3a, qv3b⟩ := geti_some qv3
        refine ⟨qv3k, _, qv3a, Ty.Ds_get qv3b, ?_⟩; (conv => whnf)
        refine ⟨Ty.Ds_fit _ rfl rfl, ?_⟩; (conv => whnf)
        obtain ⟨v4, qv4, e⟩ := bnd e
        refine said_pure (ih_types_Compare _ _ qv4 _ _ rfl) rfl ?_; (conv => whnf)
        refine ⟨⟨fun h5 => ?_, fun h5 => ?_⟩⟩
        · replace e := ifp h5 e; (conv => whnf)
          obtain rfl := sm e
          repeat' first | exact rfl | exact trivial | refine ⟨?_, ?_⟩
        · replace e := ifn h5 e; (conv => whnf)
          refine ⟨((k0 + 1 : Nat) : Int), wrap64e (by omega) (by omega) (by omega), ?_⟩; (conv => whnf)
          refine (RunsL.weak ((ih_slices_CompareFunc_Type_Type_Type_Type__types_Compare_l0 _ _ e _ _ _ _ rfl) hd0) ?_)
          repeat' first | exact wk.of_eq rfl | exact wk.pure rfl | exact wk.un _ | exact rfl | exact trivial | refine ⟨?_, ?_⟩ | (refine wk.of_eq ?_; (conv => lhs; whnf); (simp [Ty.Ds_all, Ty.D, listAll] <;> (repeat' first | rfl | apply And.intro)); done) | (refine wk.pure ?_; (conv => lhs; whnf); (simp [Ty.Ds_all, Ty.D, listAll] <;> (repeat' first | rfl | apply And.intro)); done) | ((simp [Ty.Ds_all, Ty.D, listAll] <;> (repeat' first | rfl | apply And.intro)); done)
theorem P_types_Compare {a0 : Ty} {a1 : Ty} {r : Int} (e : types_Compare a0 a1 = some r) : Pure Try.prog 143 [(Ty.D a0), (Ty.D a1)] (.int .i64 r) := G_types_Compare.1 _ _ e _ _ rfl
theorem P_slices_CompareFunc_Type_Type_Type_Type__types_Compare {a0 : (List Ty)} {a1 : (List Ty)} {r : Int} (e : slices_CompareFunc_Type_Type_Type_Type__types_Compare a0 a1 = some r) : Pure Try.prog 159 [(.slice 3 (Ty.Ds a0)), (.slice 3 (Ty.Ds a1)), (.func (.func 143) [] [])] (.int .i64 r) := G_types_Compare.2.1 _ _ e _ _ rfl
theorem P_slices_CompareFunc_Type_Type_Type_Type__types_Compare_l0 {rest0 : (List Ty)} {k0 : Nat} {a0 : (List Ty)} {a1 : (List Ty)} {r : Int} (e : slices_CompareFunc_Type_Type_Type_Type__types_Compare_l0 rest0 k0 a0 a1 = some r) : ∀ (hd0 : rest0 = a0.drop k0), RunsL Try.prog Try.f159.ntmps [] (codeAt [1, 0, 1, 0, 0] (bodyOf Try.f159)) (qAt T Try.prog Try.f159.ntmps [] [] [1, 0, 1, 0] (bodyOf Try.f159) (EndPure T Try.f159.results.toList (.int .i64 r))) [(0, .d (.slice 3 (Ty.Ds a0))), (1, .d (.slice 3 (Ty.Ds a1))), (2, .d (.func (.func 143) [] [])), (11, .d (.slice 3 (Ty.Ds a0))), (12, .d (.int .i64 ((Ty.Ds a0).length : Int))), (13, .d (.int .i64 (k0 : Int)))] [[]] := G_types_Compare.2.2 _ _ e _ _ _ _ rfl

theorem P_types_Same {a0 : Ty} {a1 : Ty} {r : Bool} (e : types_Same a0 a1 = some r) : Pure Try.prog 128 [(Ty.D a0), (Ty.D a1)] (.bool r) := by
  unfold types_Same at e
  refine pure_of_awp (js := []) T_ok Try.func128 rfl (by decide +kernel) rfl ?_; (conv => whnf)
  obtain ⟨v1, qv1, e⟩ := bnd e
  refine said_pure (P_types_Compare qv1) rfl ?_; (conv => whnf)
  refine test.dec ?_; (conv => whnf)
  obtain rfl := sm e
  repeat' first | exact rfl | exact trivial | refine ⟨?_, ?_⟩

def M_terms_formed (p : (Tm × (List Ty))) (r : (Ty × Bool)) : Prop := ∀ (a0 : Tm) (a1 : (List Ty)), (a0, a1) = p → Pure Try.prog 147 [(Tm.D a0), (.slice 3 (Ty.Ds a1))] (.tuple [(Ty.D r.1), (.bool r.2)])
theorem G_terms_formed : (∀ p r, terms_formed' p = some r → M_terms_formed p r) := by
  refine terms_formed'.partial_correctness M_terms_formed ?_
  · intro f_terms_formed ih_terms_formed p r e a0 a1 hp
    subst hp
    refine pure_of_awp (js := [21]) T_ok Try.func147 rfl (by decide +kernel) rfl ?_; (conv => whnf)
    refine ⟨⟨fun h1 => ?_, fun h1 => ?_⟩⟩
    · replace e := ifp h1 e; (conv => whnf)
      refine draw_rule T_ok mixed terms_formed_pl4 (by decide +kernel) ?_; (conv => whnf)
      obtain ⟨v2, qv2, e⟩ := bnd e
      refine said_pure (P_terms_plain qv2) rfl ⟨rfl, ?_⟩; (conv => whnf)
      refine brK.split (fun hb3 => ?_) (fun hb3 => ?_)
      · replace e := ifpb hb3 e; (conv => whnf)
        refine brK.tt hb3 ?_; (conv => whnf)
        refine brK.tt hb3 ?_; (conv => whnf)
        obtain ⟨v4, qv4, e⟩ := bnd e
        refine said_pure (P_terms_named qv4) rfl ⟨rfl, ?_⟩; (conv => whnf)
        refine brK.tt hb3 ?_; (conv => whnf)
        refine brK.split (fun hb5 => ?_) (fun hb5 => ?_)
        · replace e := ifpb hb5 e; (conv => whnf)
          refine brK.tt hb5 ?_; (conv => whnf)
          refine brK.tt hb5 ?_; (conv => whnf)
          refine brK.tt hb5 ?_; (conv => whnf)
          refine ⟨⟨fun h6 => ?_, fun h6 => ?_⟩⟩
          · replace e := ifp (by first | exact h6 | simpa [Tm.Ds_all, Ty.Ds_all, Tm.D, Ty.D, listAll] using h6) e; (conv => whnf)
            refine brK.tt hb5 ?_; (conv => whnf)
            obtain ⟨v7, qv7, e⟩ := bnd e
            refine said_pure (P_types_Check qv7) rfl ⟨rfl, ?_⟩; (conv => whnf)
            refine test.dec ?_; (conv => whnf)
            obtain rfl := sm e
            repeat' first | exact rfl | exact trivial | refine ⟨?_, ?_⟩
          · replace e := ifn (by first | exact h6 | simpa [Tm.Ds_all, Ty.Ds_all, Tm.D, Ty.D, listAll] using h6) e; (conv => whnf)
            refine brK.tt hb5 ?_; (conv => whnf)
            obtain rfl := sm e
            repeat' first | exact rfl | exact trivial | refine ⟨?_, ?_⟩
        · replace e := ifnb hb5 e; (conv => whnf)
          refine brK.ff hb5 ?_; (conv => whnf)
          refine brK.ff hb5 ?_; (conv => whnf)
          refine brK.ff hb5 ?_; (conv => whnf)
          refine brK.ff hb5 ?_; (conv => whnf)
          obtain rfl := sm e
          repeat' first | exact rfl | exact trivial | refine ⟨?_, ?_⟩
      · replace e := ifnb hb3 e; (conv => whnf)
        refine brK.ff hb3 ?_; (conv => whnf)
        refine brK.ff hb3 ?_; (conv => whnf)
        refine brK.ff hb3 ?_; (conv => whnf)
        obtain rfl := sm e
        repeat' first | exact rfl | exact trivial | refine ⟨?_, ?_⟩
    · replace e := ifn h1 e; (conv => whnf)
      refine ⟨⟨fun h8 => ?_, fun h8 => ?_⟩⟩
      · replace e := ifp h8 e; (conv => whnf)
        refine draw_rule T_ok mixed terms_formed_pl4 (by decide +kernel) ?_; (conv => whnf)
        obtain ⟨v9, qv9, e⟩ := bnd e
        refine said_pure (P_terms_plain qv9) rfl ⟨rfl, ?_⟩; (conv => whnf)
        refine brK.split (fun hb10 => ?_) (fun hb10 => ?_)
        · replace e := ifpb hb10 e; (conv => whnf)
          refine brK.tt hb10 ?_; (conv => whnf)
          refine brK.tt hb10 ?_; (conv => whnf)
          obtain ⟨v11, qv11, e⟩ := bnd e
          refine said_pure (P_terms_named qv11) rfl ⟨rfl, ?_⟩; (conv => whnf)
          refine brK.tt hb10 ?_; (conv => whnf)
          refine brK.split (fun hb12 => ?_) (fun hb12 => ?_)
          · replace e := ifpb hb12 e; (conv => whnf)
            refine brK.tt hb12 ?_; (conv => whnf)
            refine brK.tt hb12 ?_; (conv => whnf)
            refine brK.tt hb12 ?_; (conv => whnf)
            refine ⟨⟨fun h13 => ?_, fun h13 => ?_⟩⟩
            · replace e := ifp (by first | exact h13 | simpa [Tm.Ds_all, Ty.Ds_all, Tm.D, Ty.D, listAll] using h13) e; (conv => whnf)
              refine brK.tt hb12 ?_; (conv => whnf)
              obtain ⟨v14, qv14, e⟩ := bnd e
              refine said_pure (P_types_Check qv14) rfl ⟨rfl, ?_⟩; (conv => whnf)
              refine test.dec ?_; (conv => whnf)
              obtain rfl := sm e
              repeat' first | exact rfl | exact trivial | refine ⟨?_, ?_⟩
            · replace e := ifn (by first | exact h13 | simpa [Tm.Ds_all, Ty.Ds_all, Tm.D, Ty.D, listAll] using h13) e; (conv => whnf)
              refine brK.tt hb12 ?_; (conv => whnf)
              obtain rfl := sm e
              repeat' first | exact rfl | exact trivial | refine ⟨?_, ?_⟩
          · replace e := ifnb hb12 e; (conv => whnf)
            refine brK.ff hb12 ?_; (conv => whnf)
            refine brK.ff hb12 ?_; (conv => whnf)
            refine brK.ff hb12 ?_; (conv => whnf)
            refine brK.ff hb12 ?_; (conv => whnf)
            obtain rfl := sm e
            repeat' first | exact rfl | exact trivial | refine ⟨?_, ?_⟩
        · replace e := ifnb hb10 e; (conv => whnf)
          refine brK.ff hb10 ?_; (conv => whnf)
          refine brK.ff hb10 ?_; (conv => whnf)
          refine brK.ff hb10 ?_; (conv => whnf)
          obtain rfl := sm e
          repeat' first | exact rfl | exact trivial | refine ⟨?_, ?_⟩
      · replace e := ifn h8 e; (conv => whnf)
        refine ⟨⟨fun h15 => ?_, fun h15 => ?_⟩⟩
        · replace e := ifp h15 e; (conv => whnf)
          obtain ⟨v16, qv16, e⟩ := bnd e
          refine said_pure (P_terms_plain qv16) rfl ?_; (conv => whnf)
          refine brK.nsplit (fun hb17 => ?_) (fun hb17 => ?_)
          · replace e := ifpb hb17 e; (conv => whnf)
            refine brK.ntt hb17 ?_; (conv => whnf)
            refine brK.ntt hb17 ?_; (conv => whnf)
            refine brK.ntt hb17 ?_; (conv => whnf)
            refine ⟨⟨fun h18 => ?_, fun h18 => ?_⟩⟩
            · replace e := ifp (by first | exact h18 | simpa [Tm.Ds_all, Ty.Ds_all, Tm.D, Ty.D, listAll] using h18) e; (conv => whnf)
              refine brK.ntt hb17 ?_; (conv => whnf)
              obtain rfl := sm e
              repeat' first | exact rfl | exact trivial | refine ⟨?_, ?_⟩
            · replace e := ifn (by first | exact h18 | simpa [Tm.Ds_all, Ty.Ds_all, Tm.D, Ty.D, listAll] using h18) e; (conv => whnf)
              refine brK.ntt hb17 ?_; (conv => whnf)
              refine ⟨⟨fun h19 => ?_, fun h19 => ?_⟩⟩
              · replace e := ifp h19 e; (conv => whnf)
                obtain rfl := sm e
                repeat' first | exact rfl | exact trivial | refine ⟨?_, ?_⟩
              · replace e := ifn h19 e; (conv => whnf)
                refine ⟨⟨fun h20 => ?_, fun h20 => ?_⟩⟩
                · replace e := ifp (by first | exact h20 | simpa [Tm.Ds_all, Ty.Ds_all, Tm.D, Ty.D, listAll] using h20) e; (conv => whnf)
                  obtain rfl := sm e
                  repeat' first | exact rfl | exact trivial | refine ⟨?_, ?_⟩
                · replace e := ifn (by first | exact h20 | simpa [Tm.Ds_all, Ty.Ds_all, Tm.D, Ty.D, listAll] using h20) e; (conv => whnf)
                  obtain ⟨v21, qv21, e⟩ := bnd e
                  refine ⟨v21, (by have := sm qv21; first | exact this | simpa [Tm.Ds_all, Ty.Ds_all, Tm.D, Ty.D, listAll] using this), ?_⟩; (conv => whnf)
                  obtain ⟨v22, qv22, e⟩ := bnd e
                  refine ⟨v22, sm qv22, ?_⟩; (conv => whnf)
                  obtain ⟨v23, qv23, e⟩ := bnd e
                  obtain ⟨qv23k, qv23a, qv23b⟩ := geti_some qv23
                  refine ⟨qv23k, _, qv23a, Ty.Ds_get qv23b, ?_⟩; (conv => whnf)
                  refine ⟨Ty.Ds_fit _ rfl rfl, ?_⟩; (conv => whnf)
                  obtain rfl := sm e
                  repeat' first | exact rfl | exact trivial | refine ⟨?_, ?_⟩
          · replace e := ifnb hb17 e; (conv => whnf)
            refine brK.nff hb17 ?_; (conv => whnf)
            refine brK.nff hb17 ?_; (conv => whnf)
            refine brK.nff hb17 ?_; (conv => whnf)
            refine brK.nff hb17 ?_; (conv => whnf)
            obtain rfl := sm e
            repeat' first | exact rfl | exact trivial | refine ⟨?_, ?_⟩
        · replace e := ifn h15 e; (conv => whnf)
          refine ⟨⟨fun h24 => ?_, fun h24 => ?_⟩⟩
          · replace e := ifp h24 e; (conv => whnf)
            obtain ⟨v25, qv25, e⟩ := bnd e
            refine said_pure (P_terms_plain qv25) rfl ?_; (conv => whnf)
            refine brK.nsplit (fun hb26 => ?_) (fun hb26 => ?_)
            · replace e := ifpb hb26 e; (conv => whnf)
              refine brK.ntt hb26 ?_; (conv => whnf)
              refine brK.ntt hb26 ?_; (conv => whnf)
              refine brK.ntt hb26 ?_; (conv => whnf)
              refine ⟨⟨fun h27 => ?_, fun h27 => ?_⟩⟩
              · replace e := ifp (by first | exact h27 | simpa [Tm.Ds_all, Ty.Ds_all, Tm.D, Ty.D, listAll] using h27) e; (conv => whnf)
                refine brK.ntt hb26 ?_; (conv => whnf)
                obtain rfl := sm e
                repeat' first | exact rfl | exact trivial | refine ⟨?_, ?_⟩
              · replace e := ifn (by first | exact h27 | simpa [Tm.Ds_all, Ty.Ds_all, Tm.D, Ty.D, listAll] using h27) e; (conv => whnf)
                refine brK.ntt hb26 ?_; (conv => whnf)
                obtain ⟨v28, qv28, e⟩ := bnd e
                obtain ⟨qv28k, qv28a, qv28b⟩ := geti_some qv28
                refine ⟨qv28k, _, qv28a, Tm.Ds_get qv28b, ?_⟩; (conv => whnf)
                refine ⟨Tm.Ds_fit _ rfl rfl, ?_⟩; (conv => whnf)
                obtain ⟨v29, qv29, e⟩ := bnd e
                refine said_pure (ih_terms_formed _ _ qv29 _ _ rfl) rfl ?_; (conv => whnf)
                obtain ⟨v30, qv30, e⟩ := bnd e
                obtain ⟨qv30k, qv30a, qv30b⟩ := geti_some qv30
                refine ⟨qv30k, _, qv30a, Tm.Ds_get qv30b, ?_⟩; (conv => whnf)
                refine ⟨Tm.Ds_fit _ rfl rfl, ?_⟩; (conv => whnf)
                obtain ⟨v31, qv31, e⟩ := bnd e
                refine said_pure (ih_terms_formed _ _ qv31 _ _ rfl) rfl ?_; (conv => whnf)
                refine draw_rule T_ok mixed terms_formed_pl14 (by decide +kernel) ?_; (conv => whnf)
                refine brK.nsplit (fun hb32 => ?_) (fun hb32 => ?_)
                · replace e := ifpb hb32 e; (conv => whnf)
                  refine brK.ntt hb32 ?_; (conv => whnf)
                  refine brK.ntt hb32 ?_; (conv => whnf)
                  refine brK.nsplit (fun hb33 => ?_) (fun hb33 => ?_)
                  · replace e := ifpb hb33 e; (conv => whnf)
                    refine brK.ntt hb33 ?_; (conv => whnf)
                    refine brK.ntt hb33 ?_; (conv => whnf)
                    refine brK.split (fun hb34 => ?_) (fun hb34 => ?_)
                    · replace e := ifpb hb34 e; (conv => whnf)
                      refine brK.tt hb34 ?_; (conv => whnf)
                      refine brK.tt hb34 ?_; (conv => whnf)
                      refine brK.tt hb34 ?_; (conv => whnf)
                      obtain rfl := sm e
                      repeat' first | exact rfl | exact trivial | refine ⟨?_, ?_⟩
                    · replace e := ifnb hb34 e; (conv => whnf)
                      refine brK.ff hb34 ?_; (conv => whnf)
                      refine brK.ff hb34 ?_; (conv => whnf)
                      refine ⟨⟨fun h35 => ?_, fun h35 => ?_⟩⟩
                      · replace e := ifp h35 e; (conv => whnf)
                        refine brK.ff hb34 ?_; (conv => whnf)
                        obtain rfl := sm e
                        repeat' first | exact rfl | exact trivial | refine ⟨?_, ?_⟩
                      · replace e := ifn h35 e; (conv => whnf)
                        refine brK.ff hb34 ?_; (conv => whnf)
                        refine ⟨⟨fun h36 => ?_, fun h36 => ?_⟩⟩
                        · replace e := ifp (by first | exact h36 | simpa [Tm.Ds_all, Ty.Ds_all, Tm.D, Ty.D, listAll] using h36) e; (conv => whnf)
                          obtain rfl := sm e
                          repeat' first | exact rfl | exact trivial | refine ⟨?_, ?_⟩
                        · replace e := ifn (by first | exact h36 | simpa [Tm.Ds_all, Ty.Ds_all, Tm.D, Ty.D, listAll] using h36) e; (conv => whnf)
                          obtain ⟨v37, qv37, e⟩ := bnd e
                          obtain ⟨qv37k, qv37a, qv37b⟩ := geti_some qv37
                          refine ⟨qv37k, _, qv37a, Ty.Ds_get qv37b, ?_⟩; (conv => whnf)
                          refine ⟨Ty.Ds_fit _ rfl rfl, ?_⟩; (conv => whnf)
                          obtain ⟨v38, qv38, e⟩ := bnd e
                          refine said_pure (P_types_Same qv38) rfl ⟨rfl, ?_⟩; (conv => whnf)
                          refine brK.nsplit (fun hb39 => ?_) (fun hb39 => ?_)
                          · replace e := ifpb hb39 e; (conv => whnf)
                            obtain ⟨v40, qv40, e⟩ := bnd e
                            obtain ⟨qv40k, qv40a, qv40b⟩ := geti_some qv40
                            refine ⟨qv40k, _, qv40a, Ty.Ds_get qv40b, ?_⟩; (conv => whnf)
                            refine ⟨Ty.Ds_fit _ rfl rfl, ?_⟩; (conv => whnf)
                            obtain rfl := sm e
                            repeat' first | exact rfl | exact trivial | refine ⟨?_, ?_⟩
                          · replace e := ifnb hb39 e; (conv => whnf)
                            obtain rfl := sm e
                            repeat' first | exact rfl | exact trivial | refine ⟨?_, ?_⟩
                  · replace e := ifnb hb33 e; (conv => whnf)
                    refine brK.nff hb33 ?_; (conv => whnf)
                    refine brK.nff hb33 ?_; (conv => whnf)
                    obtain rfl := sm e
                    repeat' first | exact rfl | exact trivial | refine ⟨?_, ?_⟩
                · replace e := ifnb hb32 e; (conv => whnf)
                  refine brK.nff hb32 ?_; (conv => whnf)
                  refine brK.nff hb32 ?_; (conv => whnf)
                  obtain rfl := sm e
                  repeat' first | exact rfl | exact trivial | refine ⟨?_, ?_⟩
            · replace e := ifnb hb26 e; (conv => whnf)
              refine brK.nff hb26 ?_; (conv => whnf)
              refine brK.nff hb26 ?_; (conv => whnf)
              refine brK.nff hb26 ?_; (conv => whnf)
              refine brK.nff hb26 ?_; (conv => whnf)
              obtain rfl := sm e
              repeat' first | exact rfl | exact trivial | refine ⟨?_, ?_⟩
          · replace e := ifn h24 e; (conv => whnf)
            refine ⟨⟨fun h41 => ?_, fun h41 => ?_⟩⟩
            · replace e := ifp h41 e; (conv => whnf)
              obtain ⟨v42, qv42, e⟩ := bnd e
              refine said_pure (P_terms_plain qv42) rfl ?_; (conv => whnf)
              refine brK.nsplit (fun hb43 => ?_) (fun hb43 => ?_)
              · replace e := ifpb hb43 e; (conv => whnf)
                refine brK.ntt hb43 ?_; (conv => whnf)
                refine brK.ntt hb43 ?_; (conv => whnf)
                refine brK.ntt hb43 ?_; (conv => whnf)
                refine ⟨⟨fun h44 => ?_, fun h44 => ?_⟩⟩
                · replace e := ifp (by first | exact h44 | simpa [Tm.Ds_all, Ty.Ds_all, Tm.D, Ty.D, listAll] using h44) e; (conv => whnf)
                  refine brK.ntt hb43 ?_; (conv => whnf)
                  obtain rfl := sm e
                  repeat' first | exact rfl | exact trivial | refine ⟨?_, ?_⟩
                · replace e := ifn (by first | exact h44 | simpa [Tm.Ds_all, Ty.Ds_all, Tm.D, Ty.D, listAll] using h44) e; (conv => whnf)
                  refine brK.ntt hb43 ?_; (conv => whnf)
                  obtain ⟨v45, qv45, e⟩ := bnd e
                  refine said_pure (P_terms_named qv45) rfl ?_; (conv => whnf)
                  refine brK.nsplit (fun hb46 => ?_) (fun hb46 => ?_)
                  · replace e := ifpb hb46 e; (conv => whnf)
                    refine brK.ntt hb46 ?_; (conv => whnf)
                    refine brK.ntt hb46 ?_; (conv => whnf)
                    obtain ⟨v47, qv47, e⟩ := bnd e
                    refine said_pure (P_types_Check qv47) rfl ?_; (conv => whnf)
                    refine brK.ntt hb46 ?_; (conv => whnf)
                    refine ⟨⟨fun h48 => ?_, fun h48 => ?_⟩⟩
                    · replace e := ifp h48 e; (conv => whnf)
                      refine brK.ntt hb46 ?_; (conv => whnf)
                      obtain rfl := sm e
                      repeat' first | exact rfl | exact trivial | refine ⟨?_, ?_⟩
                    · replace e := ifn h48 e; (conv => whnf)
                      refine brK.ntt hb46 ?_; (conv => whnf)
                      refine draw_rule T_ok mixed terms_formed_pl20 (by decide +kernel) ?_; (conv => whnf)
                      obtain ⟨v49, qv49, e⟩ := bnd e
                      obtain ⟨qv49k, qv49a, qv49b⟩ := geti_some qv49
                      refine ⟨qv49k, _, qv49a, Tm.Ds_get qv49b, ?_⟩; (conv => whnf)
                      refine ⟨Tm.Ds_fit _ rfl rfl, ?_⟩; (conv => whnf)
                      obtain ⟨v50, qv50, e⟩ := bnd e
                      obtain ⟨qv50l, qv50h, qv50a, qv50b, qv50c, qv50d, qv50e⟩ := cut_some qv50
                      refine ⟨qv50l, qv50h, (by show _ = _; omega), (by first | exact congrArg (fun z => AV.d (D.int .i64 z)) qv50b | exact congrArg (fun z => AV.d (D.int .i64 z)) (by simpa [Tm.Ds_all, Ty.Ds_all, Tm.D, Ty.D, listAll] using qv50b)), qv50c, (by first | exact qv50d | simpa [Tm.Ds_all, Ty.Ds_all, Tm.D, Ty.D, listAll] using qv50d), (congrArg (fun z => AV.d (D.int .i64 z)) qv50b), (congrArg (fun z => some (AV.d (D.int .i64 z))) qv50b), ?_⟩; rw [Ty.Ds_cut, ← qv50e]; (conv => whnf)
                      refine ⟨⟨⟨rfl, rfl⟩, trivial⟩, ?_⟩; (conv => whnf)
                      obtain ⟨v51, qv51, e⟩ := bnd e
                      obtain ⟨v52, qv52, e⟩ := bnd e
                      refine ⟨?_, ?_⟩
                      · (conv => whnf)
                        obtain ⟨qv51l, qv51e⟩ := app_some qv51
                        refine ⟨(by first | exact qv51l | simpa [Tm.Ds_all, Ty.Ds_all, Tm.D, Ty.D, listAll] using qv51l), rfl, fun h => (by first | cases h | simp at h), fun _ => ?_⟩; (conv => whnf)
                        refine ⟨?_, ?_⟩
                        · (conv => whnf)
                          first | (refine said_pure (ih_terms_formed _ _ qv52 _ _ rfl) rfl ⟨rfl, ?_⟩) | (refine said_pure2 (ih_terms_formed _ _ qv52 _ _ rfl) rfl (by simp [Tm.Ds_all, Ty.Ds_all, Tm.D, Ty.D, listAll, qv51e] <;> (repeat' first | rfl | apply And.intro)) ⟨rfl, ?_⟩)
                          (conv => whnf)
                          refine Runs.weak ((P_terms_formed_j0 e).1 ?_) ?_
                          repeat' first | exact wk.of_eq rfl | exact wk.pure rfl | exact wk.un _ | exact rfl | exact trivial | refine ⟨?_, ?_⟩ | (refine wk.of_eq ?_; (conv => lhs; whnf); (simp [Tm.Ds_all, Ty.Ds_all, Tm.D, Ty.D, listAll, qv51e] <;> (repeat' first | rfl | apply And.intro)); done) | (refine wk.pure ?_; (conv => lhs; whnf); (simp [Tm.Ds_all, Ty.Ds_all, Tm.D, Ty.D, listAll, qv51e] <;> (repeat' first | rfl | apply And.intro)); done) | ((simp [Tm.Ds_all, Ty.Ds_all, Tm.D, Ty.D, listAll, qv51e] <;> (repeat' first | rfl | apply And.intro)); done)
                        · (conv => whnf)
                          first | (refine said_pure (ih_terms_formed _ _ qv52 _ _ rfl) rfl ⟨rfl, ?_⟩) | (refine said_pure2 (ih_terms_formed _ _ qv52 _ _ rfl) rfl (by simp [Tm.Ds_all, Ty.Ds_all, Tm.D, Ty.D, listAll, qv51e] <;> (repeat' first | rfl | apply And.intro)) ⟨rfl, ?_⟩)
                          (conv => whnf)
                          refine Runs.weak ((P_terms_formed_j0 e).1 ?_) ?_
                          repeat' first | exact wk.of_eq rfl | exact wk.pure rfl | exact wk.un _ | exact rfl | exact trivial | refine ⟨?_, ?_⟩ | (refine wk.of_eq ?_; (conv => lhs; whnf); (simp [Tm.Ds_all, Ty.Ds_all, Tm.D, Ty.D, listAll, qv51e] <;> (repeat' first | rfl | apply And.intro)); done) | (refine wk.pure ?_; (conv => lhs; whnf); (simp [Tm.Ds_all, Ty.Ds_all, Tm.D, Ty.D, listAll, qv51e] <;> (repeat' first | rfl | apply And.intro)); done) | ((simp [Tm.Ds_all, Ty.Ds_all, Tm.D, Ty.D, listAll, qv51e] <;> (repeat' first | rfl | apply And.intro)); done)
                      · (conv => whnf)
                        obtain ⟨qv51l, qv51e⟩ := app_some qv51
                        refine ⟨(by first | exact qv51l | simpa [Tm.Ds_all, Ty.Ds_all, Tm.D, Ty.D, listAll] using qv51l), rfl, fun h => (by first | cases h | simp at h), fun _ => ?_⟩; (conv => whnf)
                        first | (refine said_pure (ih_terms_formed _ _ qv52 _ _ rfl) rfl ⟨rfl, ?_⟩) | (refine said_pure2 (ih_terms_formed _ _ qv52 _ _ rfl) rfl (by simp [Tm.Ds_all, Ty.Ds_all, Tm.D, Ty.D, listAll, qv51e] <;> (repeat' first | rfl | apply And.intro)) ⟨rfl, ?_⟩)
                        (conv => whnf)
                        refine Runs.weak (P_terms_formed_j0 e).2 ?_
                        repeat' first | exact wk.of_eq rfl | exact wk.pure rfl | exact wk.un _ | exact rfl | exact trivial | refine ⟨?_, ?_⟩ | (refine wk.of_eq ?_; (conv => lhs; whnf); (simp [Tm.Ds_all, Ty.Ds_all, Tm.D, Ty.D, listAll, qv51e] <;> (repeat' first | rfl | apply And.intro)); done) | (refine wk.pure ?_; (conv => lhs; whnf); (simp [Tm.Ds_all, Ty.Ds_all, Tm.D, Ty.D, listAll, qv51e] <;> (repeat' first | rfl | apply And.intro)); done) | ((simp [Tm.Ds_all, Ty.Ds_all, Tm.D, Ty.D, listAll, qv51e] <;> (repeat' first | rfl | apply And.intro)); done)
                  · replace e := ifnb hb46 e; (conv => whnf)
                    refine brK.nff hb46 ?_; (conv => whnf)
                    refine brK.nff hb46 ?_; (conv => whnf)
                    refine brK.nff hb46 ?_; (conv => whnf)
                    refine brK.nff hb46 ?_; (conv => whnf)
                    obtain rfl := sm e
                    repeat' first | exact rfl | exact trivial | refine ⟨?_, ?_⟩
              · replace e := ifnb hb43 e; (conv => whnf)
                refine brK.nff hb43 ?_; (conv => whnf)
                refine brK.nff hb43 ?_; (conv => whnf)
                refine brK.nff hb43 ?_; (conv => whnf)
                refine brK.nff hb43 ?_; (conv => whnf)
                obtain rfl := sm e
                repeat' first | exact rfl | exact trivial | refine ⟨?_, ?_⟩
            · replace e := ifn h41 e; (conv => whnf)
              obtain rfl := sm e
              repeat' first | exact rfl | exact trivial | refine ⟨?_, ?_⟩
theorem P_terms_formed {a0 : Tm} {a1 : (List Ty)} {r : (Ty × Bool)} (e : terms_formed a0 a1 = some r) : Pure Try.prog 147 [(Tm.D a0), (.slice 3 (Ty.Ds a1))] (.tuple [(Ty.D r.1), (.bool r.2)]) := G_terms_formed _ _ e _ _ rfl

def M_terms_extent (p : Tm) (r : (Int × Int)) : Prop := ∀ (a0 : Tm), a0 = p → Pure Try.prog 148 [(Tm.D a0)] (.tuple [(.int .i64 r.1), (.int .i64 r.2)])
def M_terms_extent_l0 (p : ((List Tm) × Int × Int)) (r : (Int × Int)) : Prop := ∀ (rest0 : (List Tm)) (t2_0 : Int) (t3_0 : Int), (rest0, t2_0, t3_0) = p → ∀ (a0 : Tm) (k0 : Nat) (hd0 : rest0 = a0.sub.drop k0), RunsL Try.prog Try.f148.ntmps [] (codeAt [1, 1, 0, 1, 0, 0] (bodyOf Try.f148)) (qAt T Try.prog Try.f148.ntmps [] [] [1, 1, 0, 1, 0] (bodyOf Try.f148) (EndPure T Try.f148.results.toList (.tuple [(.int .i64 r.1), (.int .i64 r.2)]))) [(2, .d (.int .i64 t2_0)), (3, .d (.int .i64 t3_0)), (9, .d (.slice 7 (Tm.Ds a0.sub))), (10, .d (.int .i64 ((Tm.Ds a0.sub).length : Int))), (11, .d (.int .i64 (k0 : Int)))] [[]]
theorem G_terms_extent : (∀ p r, terms_extent' p = some r → M_terms_extent p r) ∧
    (∀ p r, terms_extent_l0' p = some r → M_terms_extent_l0 p r) := by
  refine terms_extent'.mutual_partial_correctness M_terms_extent M_terms_extent_l0 ?_ ?_
  · intro f_terms_extent_l0 ih_terms_extent_l0 p r e a0 hp
    subst hp
    refine pure_of_awp (js := []) T_ok Try.func148 rfl (by decide +kernel) rfl ?_; (conv => whnf)
    refine RunsL.runs (RunsL.weak ((ih_terms_extent_l0 _ _ e _ _ _ rfl) a0 0 (by simp)) ?_)
    repeat' first | exact wk.of_eq rfl | exact wk.pure rfl | exact wk.un _ | exact rfl | exact trivial | refine ⟨?_, ?_⟩ | (refine wk.of_eq ?_; (conv => lhs; whnf); (simp [Tm.Ds_all, Ty.Ds_all, Tm.D, Ty.D, listAll] <;> (repeat' first | rfl | apply And.intro)); done) | (refine wk.pure ?_; (conv => lhs; whnf); (simp [Tm.Ds_all, Ty.Ds_all, Tm.D, Ty.D, listAll] <;> (repeat' first | rfl | apply And.intro)); done) | ((simp [Tm.Ds_all, Ty.Ds_all, Tm.D, Ty.D, listAll] <;> (repeat' first | rfl | apply And.intro)); done)
  · intro f_terms_extent f_terms_extent_l0 ih_terms_extent ih_terms_extent_l0 p r e rest0 t2_0 t3_0 hp
    subst hp
    intro a0 k0 hd0
    refine RunsL.len_tmp 9 rfl fun hlenk0 => ?_
    refine RunsL.of_awp (js := []) T_ok ?_; (conv => whnf)
    have hls := Tm.Ds_len a0.sub
    cases rest0 with
    | nil =>
      have hk := drop_nil hd0
      refine ⟨⟨fun h => absurd h (by omega), fun _ => ?_⟩⟩; (conv => whnf)
      obtain ⟨v4, qv4, e⟩ := bnd e
      refine ⟨v4, sm qv4, ?_⟩; (conv => whnf)
      obtain rfl := sm e
      repeat' first | exact rfl | exact trivial | refine ⟨?_, ?_⟩
    | cons v1 rest0 =>
      obtain ⟨hxv1, hd0, hltv1⟩ := drop_head hd0
      refine ⟨⟨fun _ => ?_, fun h => absurd (by omega) h⟩⟩; (conv => whnf)
      refine ⟨k0, _, rfl, Tm.Ds_get hxv1, ?_⟩; (conv => whnf)
      refine ⟨Tm.Ds_fit _ rfl rfl, ?_⟩; (conv => whnf)
      obtain ⟨v2, qv2, e⟩ := bnd e
      refine said_pure (ih_terms_extent _ _ qv2 _ rfl) rfl ?_; (conv => whnf)
      obtain ⟨v3, qv3, e⟩ := bnd e
      refine ⟨v3, sm qv3, ?_⟩; (conv => whnf)
      refine ⟨((k0 + 1 : Nat) : Int), wrap64e (by omega) (by omega) (by omega), ?_⟩; (conv => whnf)
      refine (RunsL.weak ((ih_terms_extent_l0 _ _ e _ _ _ rfl) a0 (k0 + 1) hd0) ?_)
      repeat' first | exact wk.of_eq rfl | exact wk.pure rfl | exact wk.un _ | exact rfl | exact trivial | refine ⟨?_, ?_⟩ | (refine wk.of_eq ?_; (conv => lhs; whnf); (simp [Tm.Ds_all, Ty.Ds_all, Tm.D, Ty.D, listAll] <;> (repeat' first | rfl | apply And.intro)); done) | (refine wk.pure ?_; (conv => lhs; whnf); (simp [Tm.Ds_all, Ty.Ds_all, Tm.D, Ty.D, listAll] <;> (repeat' first | rfl | apply And.intro)); done) | ((simp [Tm.Ds_all, Ty.Ds_all, Tm.D, Ty.D, listAll] <;> (repeat' first | rfl | apply And.intro)); done)
theorem P_terms_extent {a0 : Tm} {r : (Int × Int)} (e : terms_extent a0 = some r) : Pure Try.prog 148 [(Tm.D a0)] (.tuple [(.int .i64 r.1), (.int .i64 r.2)]) := G_terms_extent.1 _ _ e _ rfl
theorem P_terms_extent_l0 {rest0 : (List Tm)} {t2_0 : Int} {t3_0 : Int} {r : (Int × Int)} (e : terms_extent_l0 rest0 t2_0 t3_0 = some r) : ∀ (a0 : Tm) (k0 : Nat) (hd0 : rest0 = a0.sub.drop k0), RunsL Try.prog Try.f148.ntmps [] (codeAt [1, 1, 0, 1, 0, 0] (bodyOf Try.f148)) (qAt T Try.prog Try.f148.ntmps [] [] [1, 1, 0, 1, 0] (bodyOf Try.f148) (EndPure T Try.f148.results.toList (.tuple [(.int .i64 r.1), (.int .i64 r.2)]))) [(2, .d (.int .i64 t2_0)), (3, .d (.int .i64 t3_0)), (9, .d (.slice 7 (Tm.Ds a0.sub))), (10, .d (.int .i64 ((Tm.Ds a0.sub).length : Int))), (11, .d (.int .i64 (k0 : Int)))] [[]] := G_terms_extent.2 _ _ e _ _ _ rfl

theorem P_terms_great {a0 : Tm} {r : Bool} (e : terms_great a0 = some r) : Pure Try.prog 130 [(Tm.D a0)] (.bool r) := by
  unfold terms_great at e
  refine pure_of_awp (js := []) T_ok Try.func130 rfl (by decide +kernel) rfl ?_; (conv => whnf)
  obtain ⟨v1, qv1, e⟩ := bnd e
  refine said_pure (P_terms_extent qv1) rfl ?_; (conv => whnf)
  refine ⟨⟨fun h2 => ?_, fun h2 => ?_⟩⟩
  · replace e := ifp h2 e; (conv => whnf)
    obtain rfl := sm e
    repeat' first | exact rfl | exact trivial | refine ⟨?_, ?_⟩
  · replace e := ifn h2 e; (conv => whnf)
    refine test.dec ?_; (conv => whnf)
    obtain rfl := sm e
    repeat' first | exact rfl | exact trivial | refine ⟨?_, ?_⟩

theorem P_terms_typed {a0 : Tm} {r : (Ty × Int)} (e : terms_typed a0 = some r) : Pure Try.prog 129 [(Tm.D a0)] (.tuple [(Ty.D r.1), (.int .i64 r.2)]) := by
  unfold terms_typed at e
  refine pure_of_awp (js := []) T_ok Try.func129 rfl (by decide +kernel) rfl ?_; (conv => whnf)
  obtain ⟨v1, qv1, e⟩ := bnd e
  refine said_pure (P_terms_great qv1) rfl ?_; (conv => whnf)
  refine brK.split (fun hb2 => ?_) (fun hb2 => ?_)
  · replace e := ifpb hb2 e; (conv => whnf)
    obtain rfl := sm e
    repeat' first | exact rfl | exact trivial | refine ⟨?_, ?_⟩
  · replace e := ifnb hb2 e; (conv => whnf)
    obtain ⟨v3, qv3, e⟩ := bnd e
    refine said_pure (P_terms_formed qv3) rfl ?_; (conv => whnf)
    refine brK.nsplit (fun hb4 => ?_) (fun hb4 => ?_)
    · replace e := ifpb hb4 e; (conv => whnf)
      obtain rfl := sm e
      repeat' first | exact rfl | exact trivial | refine ⟨?_, ?_⟩
    · replace e := ifnb hb4 e; (conv => whnf)
      obtain rfl := sm e
      repeat' first | exact rfl | exact trivial | refine ⟨?_, ?_⟩

theorem P_terms_Check {a0 : Tm} {r : Int} (e : terms_Check a0 = some r) : Pure Try.prog 115 [(Tm.D a0)] (.int .i64 r) := by
  unfold terms_Check at e
  refine pure_of_awp (js := []) T_ok Try.func115 rfl (by decide +kernel) rfl ?_; (conv => whnf)
  obtain ⟨v1, qv1, e⟩ := bnd e
  refine said_pure (P_terms_typed qv1) rfl ?_; (conv => whnf)
  obtain rfl := sm e
  repeat' first | exact rfl | exact trivial | refine ⟨?_, ?_⟩

theorem P_equality_CheckTerm {a0 : Tm} {r : Int} (e : equality_CheckTerm a0 = some r) : Pure Try.prog 91 [(Tm.D a0)] (.int .i64 r) := by
  unfold equality_CheckTerm at e
  refine pure_of_awp (js := []) T_ok Try.func91 rfl (by decide +kernel) rfl ?_; (conv => whnf)
  obtain ⟨v1, qv1, e⟩ := bnd e
  refine said_pure (P_terms_Check qv1) rfl ?_; (conv => whnf)
  refine ⟨⟨fun h2 => ?_, fun h2 => ?_⟩⟩
  · replace e := ifp h2 e; (conv => whnf)
    obtain rfl := sm e
    repeat' first | exact rfl | exact trivial | refine ⟨?_, ?_⟩
  · replace e := ifn h2 e; (conv => whnf)
    obtain ⟨v3, qv3, e⟩ := bnd e
    refine said_pure (P_equality_fits qv3) rfl ?_; (conv => whnf)
    refine brK.nsplit (fun hb4 => ?_) (fun hb4 => ?_)
    · replace e := ifpb hb4 e; (conv => whnf)
      obtain rfl := sm e
      repeat' first | exact rfl | exact trivial | refine ⟨?_, ?_⟩
    · replace e := ifnb hb4 e; (conv => whnf)
      obtain rfl := sm e
      repeat' first | exact rfl | exact trivial | refine ⟨?_, ?_⟩

def M_num_check_l0 (p : (List Tm)) (r : Int) : Prop := ∀ (rest0 : (List Tm)), rest0 = p → ∀ (a0 : (List Tm)) (k0 : Nat) (hd0 : rest0 = a0.drop k0), RunsL Try.prog Try.f78.ntmps [] (codeAt [1, 0, 1, 0, 0] (bodyOf Try.f78)) (qAt T Try.prog Try.f78.ntmps [] [] [1, 0, 1, 0] (bodyOf Try.f78) (EndPure T Try.f78.results.toList (.int .i64 r))) [(6, .d (.slice 7 (Tm.Ds a0))), (7, .d (.int .i64 ((Tm.Ds a0).length : Int))), (8, .d (.int .i64 (k0 : Int)))] [[]]
theorem G_num_check_l0 : (∀ p r, num_check_l0' p = some r → M_num_check_l0 p r) := by
  refine num_check_l0'.partial_correctness M_num_check_l0 ?_
  · intro f_num_check_l0 ih_num_check_l0 p r e rest0 hp
    subst hp
    intro a0 k0 hd0
    refine RunsL.len_tmp 6 rfl fun hlenk0 => ?_
    refine RunsL.of_awp (js := []) T_ok ?_; (conv => whnf)
    have hls := Tm.Ds_len a0
    cases rest0 with
    | nil =>
      have hk := drop_nil hd0
      refine ⟨⟨fun h => absurd h (by omega), fun _ => ?_⟩⟩; (conv => whnf)
      obtain rfl := sm e
      repeat' first | exact rfl | exact trivial | refine ⟨?_, ?_⟩
    | cons v1 rest0 =>
      obtain ⟨hxv1, hd0, hltv1⟩ := drop_head hd0
      refine ⟨⟨fun _ => ?_, fun h => absurd (by omega) h⟩⟩; (conv => whnf)
      refine ⟨k0, _, rfl, Tm.Ds_get hxv1, ?_⟩; (conv => whnf)
      refine ⟨Tm.Ds_fit _ rfl rfl, ?_⟩; (conv => whnf)
      obtain ⟨v2, qv2, e⟩ := bnd e
      refine said_pure (P_equality_CheckTerm qv2) rfl ?_; (conv => whnf)
      refine ⟨⟨fun h3 => ?_, fun h3 => ?_⟩⟩
      · replace e := ifp h3 e; (conv => whnf)
        obtain rfl := sm e
        repeat' first | exact rfl | exact trivial | refine ⟨?_, ?_⟩
      · replace e := ifn h3 e; (conv => whnf)
        refine ⟨((k0 + 1 : Nat) : Int), wrap64e (by omega) (by omega) (by omega), ?_⟩; (conv => whnf)
        refine (RunsL.weak ((ih_num_check_l0 _ _ e _ rfl) a0 (k0 + 1) hd0) ?_)
        repeat' first | exact wk.of_eq rfl | exact wk.pure rfl | exact wk.un _ | exact rfl | exact trivial | refine ⟨?_, ?_⟩ | (refine wk.of_eq ?_; (conv => lhs; whnf); (simp [Tm.Ds_all, Tm.D, listAll] <;> (repeat' first | rfl | apply And.intro)); done) | (refine wk.pure ?_; (conv => lhs; whnf); (simp [Tm.Ds_all, Tm.D, listAll] <;> (repeat' first | rfl | apply And.intro)); done) | ((simp [Tm.Ds_all, Tm.D, listAll] <;> (repeat' first | rfl | apply And.intro)); done)
theorem P_num_check_l0 {rest0 : (List Tm)} {r : Int} (e : num_check_l0 rest0 = some r) : ∀ (a0 : (List Tm)) (k0 : Nat) (hd0 : rest0 = a0.drop k0), RunsL Try.prog Try.f78.ntmps [] (codeAt [1, 0, 1, 0, 0] (bodyOf Try.f78)) (qAt T Try.prog Try.f78.ntmps [] [] [1, 0, 1, 0] (bodyOf Try.f78) (EndPure T Try.f78.results.toList (.int .i64 r))) [(6, .d (.slice 7 (Tm.Ds a0))), (7, .d (.int .i64 ((Tm.Ds a0).length : Int))), (8, .d (.int .i64 (k0 : Int)))] [[]] := G_num_check_l0 _ _ e _ rfl

theorem P_num_check {a0 : (List Tm)} {r : Int} (e : num_check a0 = some r) : Pure Try.prog 78 [(.slice 7 (Tm.Ds a0))] (.int .i64 r) := by
  unfold num_check at e
  refine pure_of_awp (js := []) T_ok Try.func78 rfl (by decide +kernel) rfl ?_; (conv => whnf)
  refine RunsL.runs (RunsL.weak ((P_num_check_l0 e) a0 0 (by simp)) ?_)
  repeat' first | exact wk.of_eq rfl | exact wk.pure rfl | exact wk.un _ | exact rfl | exact trivial | refine ⟨?_, ?_⟩ | (refine wk.of_eq ?_; (conv => lhs; whnf); (simp [Tm.Ds_all, Tm.D, listAll] <;> (repeat' first | rfl | apply And.intro)); done) | (refine wk.pure ?_; (conv => lhs; whnf); (simp [Tm.Ds_all, Tm.D, listAll] <;> (repeat' first | rfl | apply And.intro)); done) | ((simp [Tm.Ds_all, Tm.D, listAll] <;> (repeat' first | rfl | apply And.intro)); done)

theorem P_num_Type {r : Ty} (e : num_Type = some r) : Pure Try.prog 108 [] (Ty.D r) := by
  unfold num_Type at e
  refine pure_of_awp (js := []) T_ok Try.func108 rfl (by decide +kernel) rfl ?_; (conv => whnf)
  obtain rfl := sm e
  repeat' first | exact rfl | exact trivial | refine ⟨?_, ?_⟩

theorem P_terms_TypeOf {a0 : Tm} {r : (Ty × Int)} (e : terms_TypeOf a0 = some r) : Pure Try.prog 127 [(Tm.D a0)] (.tuple [(Ty.D r.1), (.int .i64 r.2)]) := by
  unfold terms_TypeOf at e
  refine pure_of_awp (js := []) T_ok Try.func127 rfl (by decide +kernel) rfl ?_; (conv => whnf)
  obtain ⟨v1, qv1, e⟩ := bnd e
  refine said_pure (P_terms_typed qv1) rfl ?_; (conv => whnf)
  obtain ⟨v2, qv2, e⟩ := bnd e
  refine said_pure (P_types_Twin qv2) rfl ?_; (conv => whnf)
  obtain rfl := sm e
  repeat' first | exact rfl | exact trivial | refine ⟨?_, ?_⟩

def M_num_numbers_l0 (p : (List Tm)) (r : Int) : Prop := ∀ (rest0 : (List Tm)), rest0 = p → ∀ (a0 : (List Tm)) (k0 : Nat) (hd0 : rest0 = a0.drop k0), RunsL Try.prog Try.f79.ntmps [] (codeAt [1, 0, 1, 0, 0] (bodyOf Try.f79)) (qAt T Try.prog Try.f79.ntmps [] [] [1, 0, 1, 0] (bodyOf Try.f79) (EndPure T Try.f79.results.toList (.int .i64 r))) [(7, .d (.slice 7 (Tm.Ds a0))), (8, .d (.int .i64 ((Tm.Ds a0).length : Int))), (9, .d (.int .i64 (k0 : Int)))] [[]]
theorem G_num_numbers_l0 : (∀ p r, num_numbers_l0' p = some r → M_num_numbers_l0 p r) := by
  refine num_numbers_l0'.partial_correctness M_num_numbers_l0 ?_
  · intro f_num_numbers_l0 ih_num_numbers_l0 p r e rest0 hp
    subst hp
    intro a0 k0 hd0
    refine RunsL.len_tmp 7 rfl fun hlenk0 => ?_
    refine RunsL.of_awp (js := []) T_ok ?_; (conv => whnf)
    have hls := Tm.Ds_len a0
    cases rest0 with
    | nil =>
      have hk := drop_nil hd0
      refine ⟨⟨fun h => absurd h (by omega), fun _ => ?_⟩⟩; (conv => whnf)
      obtain rfl := sm e
      repeat' first | exact rfl | exact trivial | refine ⟨?_, ?_⟩
    | cons v1 rest0 =>
      obtain ⟨hxv1, hd0, hltv1⟩ := drop_head hd0
      refine ⟨⟨fun _ => ?_, fun h => absurd (by omega) h⟩⟩; (conv => whnf)
      refine ⟨k0, _, rfl, Tm.Ds_get hxv1, ?_⟩; (conv => whnf)
      refine ⟨Tm.Ds_fit _ rfl rfl, ?_⟩; (conv => whnf)
      obtain ⟨v2, qv2, e⟩ := bnd e
      refine said_pure (P_terms_TypeOf qv2) rfl ?_; (conv => whnf)
      refine draw_rule T_ok mixed num_numbers_pl5 (by decide +kernel) ?_; (conv => whnf)
      obtain ⟨v3, qv3, e⟩ := bnd e
      refine said_pure (P_num_Type qv3) rfl ⟨rfl, ?_⟩; (conv => whnf)
      obtain ⟨v4, qv4, e⟩ := bnd e
      refine said_pure (P_types_Same qv4) rfl ⟨rfl, ?_⟩; (conv => whnf)
      refine brK.nsplit (fun hb5 => ?_) (fun hb5 => ?_)
      · replace e := ifpb hb5 e; (conv => whnf)
        refine ⟨((k0 + 1 : Nat) : Int), wrap64e (by omega) (by omega) (by omega), ?_⟩; (conv => whnf)
        refine (RunsL.weak ((ih_num_numbers_l0 _ _ e _ rfl) a0 (k0 + 1) hd0) ?_)
        repeat' first | exact wk.of_eq rfl | exact wk.pure rfl | exact wk.un _ | exact rfl | exact trivial | refine ⟨?_, ?_⟩ | (refine wk.of_eq ?_; (conv => lhs; whnf); (simp [Tm.Ds_all, Ty.Ds_all, Tm.D, Ty.D, listAll] <;> (repeat' first | rfl | apply And.intro)); done) | (refine wk.pure ?_; (conv => lhs; whnf); (simp [Tm.Ds_all, Ty.Ds_all, Tm.D, Ty.D, listAll] <;> (repeat' first | rfl | apply And.intro)); done) | ((simp [Tm.Ds_all, Ty.Ds_all, Tm.D, Ty.D, listAll] <;> (repeat' first | rfl | apply And.intro)); done)
      · replace e := ifnb hb5 e; (conv => whnf)
        obtain rfl := sm e
        repeat' first | exact rfl | exact trivial | refine ⟨?_, ?_⟩
theorem P_num_numbers_l0 {rest0 : (List Tm)} {r : Int} (e : num_numbers_l0 rest0 = some r) : ∀ (a0 : (List Tm)) (k0 : Nat) (hd0 : rest0 = a0.drop k0), RunsL Try.prog Try.f79.ntmps [] (codeAt [1, 0, 1, 0, 0] (bodyOf Try.f79)) (qAt T Try.prog Try.f79.ntmps [] [] [1, 0, 1, 0] (bodyOf Try.f79) (EndPure T Try.f79.results.toList (.int .i64 r))) [(7, .d (.slice 7 (Tm.Ds a0))), (8, .d (.int .i64 ((Tm.Ds a0).length : Int))), (9, .d (.int .i64 (k0 : Int)))] [[]] := G_num_numbers_l0 _ _ e _ rfl

theorem P_num_numbers {a0 : (List Tm)} {r : Int} (e : num_numbers a0 = some r) : Pure Try.prog 79 [(.slice 7 (Tm.Ds a0))] (.int .i64 r) := by
  unfold num_numbers at e
  refine pure_of_awp (js := []) T_ok Try.func79 rfl (by decide +kernel) rfl ?_; (conv => whnf)
  refine RunsL.runs (RunsL.weak ((P_num_numbers_l0 e) a0 0 (by simp)) ?_)
  repeat' first | exact wk.of_eq rfl | exact wk.pure rfl | exact wk.un _ | exact rfl | exact trivial | refine ⟨?_, ?_⟩ | (refine wk.of_eq ?_; (conv => lhs; whnf); (simp [Tm.Ds_all, Ty.Ds_all, Tm.D, Ty.D, listAll] <;> (repeat' first | rfl | apply And.intro)); done) | (refine wk.pure ?_; (conv => lhs; whnf); (simp [Tm.Ds_all, Ty.Ds_all, Tm.D, Ty.D, listAll] <;> (repeat' first | rfl | apply And.intro)); done) | ((simp [Tm.Ds_all, Ty.Ds_all, Tm.D, Ty.D, listAll] <;> (repeat' first | rfl | apply And.intro)); done)

theorem P_num_constant {a0 : ByteArray} {a1 : Ty} {r : Tm} (e : num_constant a0 a1 = some r) : Pure Try.prog 107 [(.str a0), (Ty.D a1)] (Tm.D r) := by
  unfold num_constant at e
  refine pure_of_awp (js := []) T_ok Try.func107 rfl (by decide +kernel) rfl ?_; (conv => whnf)
  obtain rfl := sm e
  repeat' first | exact rfl | exact trivial | refine ⟨?_, ?_⟩

theorem P_types_Bool {r : Ty} (e : types_Bool = some r) : Pure Try.prog 124 [] (Ty.D r) := by
  unfold types_Bool at e
  refine pure_of_awp (js := []) T_ok Try.func124 rfl (by decide +kernel) rfl ?_; (conv => whnf)
  obtain rfl := sm e
  repeat' first | exact rfl | exact trivial | refine ⟨?_, ?_⟩

theorem P_num_operator {a0 : ByteArray} {r : (Tm × Bool)} (e : num_operator a0 = some r) : Pure Try.prog 84 [(.str a0)] (.tuple [(Tm.D r.1), (.bool r.2)]) := by
  unfold num_operator at e
  refine pure_of_awp (js := []) T_ok Try.func84 rfl (by decide +kernel) rfl ?_; (conv => whnf)
  obtain ⟨v1, qv1, e⟩ := bnd e
  refine said_pure (P_num_Type qv1) rfl ?_; (conv => whnf)
  refine ⟨⟨fun h2 => ?_, fun h2 => ?_⟩⟩
  · replace e := ifp h2 e; (conv => whnf)
    refine draw_rule T_ok mixed num_operator_pl5 (by decide +kernel) ?_; (conv => whnf)
    obtain ⟨v3, qv3, e⟩ := bnd e
    refine said_pure (P_types_Fun qv3) rfl ⟨rfl, ?_⟩; (conv => whnf)
    obtain ⟨v4, qv4, e⟩ := bnd e
    refine said_pure (P_types_Fun qv4) rfl ⟨rfl, ?_⟩; (conv => whnf)
    obtain ⟨v5, qv5, e⟩ := bnd e
    refine said_pure (P_num_constant qv5) rfl ⟨rfl, ?_⟩; (conv => whnf)
    obtain rfl := sm e
    repeat' first | exact rfl | exact trivial | refine ⟨?_, ?_⟩
  · replace e := ifn h2 e; (conv => whnf)
    refine ⟨⟨fun h6 => ?_, fun h6 => ?_⟩⟩
    · replace e := ifp h6 e; (conv => whnf)
      refine draw_rule T_ok mixed num_operator_pl5 (by decide +kernel) ?_; (conv => whnf)
      obtain ⟨v7, qv7, e⟩ := bnd e
      refine said_pure (P_types_Fun qv7) rfl ⟨rfl, ?_⟩; (conv => whnf)
      obtain ⟨v8, qv8, e⟩ := bnd e
      refine said_pure (P_types_Fun qv8) rfl ⟨rfl, ?_⟩; (conv => whnf)
      obtain ⟨v9, qv9, e⟩ := bnd e
      refine said_pure (P_num_constant qv9) rfl ⟨rfl, ?_⟩; (conv => whnf)
      obtain rfl := sm e
      repeat' first | exact rfl | exact trivial | refine ⟨?_, ?_⟩
    · replace e := ifn h6 e; (conv => whnf)
      refine ⟨⟨fun h10 => ?_, fun h10 => ?_⟩⟩
      · replace e := ifp h10 e; (conv => whnf)
        refine draw_rule T_ok mixed num_operator_pl8 (by decide +kernel) ?_; (conv => whnf)
        obtain ⟨v11, qv11, e⟩ := bnd e
        refine said_pure (P_types_Bool qv11) rfl ⟨rfl, ?_⟩; (conv => whnf)
        obtain ⟨v12, qv12, e⟩ := bnd e
        refine said_pure (P_types_Fun qv12) rfl ⟨rfl, ?_⟩; (conv => whnf)
        obtain ⟨v13, qv13, e⟩ := bnd e
        refine said_pure (P_types_Fun qv13) rfl ⟨rfl, ?_⟩; (conv => whnf)
        obtain ⟨v14, qv14, e⟩ := bnd e
        refine said_pure (P_num_constant qv14) rfl ⟨rfl, ?_⟩; (conv => whnf)
        obtain rfl := sm e
        repeat' first | exact rfl | exact trivial | refine ⟨?_, ?_⟩
      · replace e := ifn h10 e; (conv => whnf)
        refine ⟨⟨fun h15 => ?_, fun h15 => ?_⟩⟩
        · replace e := ifp h15 e; (conv => whnf)
          refine draw_rule T_ok mixed num_operator_pl8 (by decide +kernel) ?_; (conv => whnf)
          obtain ⟨v16, qv16, e⟩ := bnd e
          refine said_pure (P_types_Bool qv16) rfl ⟨rfl, ?_⟩; (conv => whnf)
          obtain ⟨v17, qv17, e⟩ := bnd e
          refine said_pure (P_types_Fun qv17) rfl ⟨rfl, ?_⟩; (conv => whnf)
          obtain ⟨v18, qv18, e⟩ := bnd e
          refine said_pure (P_types_Fun qv18) rfl ⟨rfl, ?_⟩; (conv => whnf)
          obtain ⟨v19, qv19, e⟩ := bnd e
          refine said_pure (P_num_constant qv19) rfl ⟨rfl, ?_⟩; (conv => whnf)
          obtain rfl := sm e
          repeat' first | exact rfl | exact trivial | refine ⟨?_, ?_⟩
        · replace e := ifn h15 e; (conv => whnf)
          obtain rfl := sm e
          repeat' first | exact rfl | exact trivial | refine ⟨?_, ?_⟩

def M_terms_Twin (p : Tm) (r : Tm) : Prop := ∀ (a0 : Tm), a0 = p → Pure Try.prog 92 [(Tm.D a0)] (Tm.D r)
def M_terms_Twin_j0 (p : (Tm × Ty × (List Tm))) (r : Tm) : Prop := ∀ (a0 : Tm) (v1 : Ty) (v3 : (List Tm)), (a0, v1, v3) = p → ∀ (nv3 : Nat) (hlv3 : v3.length = nv3), Runs Try.prog Try.f92.ntmps [] (codeAt [1, 1, 1, 1, 0, 0] (bodyOf Try.f92)) (qAt T Try.prog Try.f92.ntmps [] [5] [1, 1, 1, 1, 0, 0] (bodyOf Try.f92) (EndPure T Try.f92.results.toList (Tm.D r))) [(1, .ptr 0 0 0), (2, .ptr 0 1 0), (3, .d (.slice 7 (Tm.Ds a0.sub)))] [[.cells [.d (.int .u8 a0.kind), .d (.str a0.name), .d (.bool v1.v), .d (.str v1.name), .d (.slice 3 (Ty.Ds v1.args)), .d (.int .i64 a0.index), .arr 0 2 0 nv3 7], .cells [.d (.int .u8 0), .d (.str ByteArray.empty), .d (.bool false), .d (.str ByteArray.empty), .nil 3, .d (.int .i64 0), .nil 7], .arr 7 (Tm.Ds v3)]]
def M_terms_Twin_l0 (p : ((List Tm) × Nat × (List Tm) × Tm × Ty)) (r : Tm) : Prop := ∀ (rest0 : (List Tm)) (k0 : Nat) (a2_0 : (List Tm)) (a0 : Tm) (v1 : Ty), (rest0, k0, a2_0, a0, v1) = p → ∀ (nv3 : Nat) (hla2_0 : a2_0.length = nv3) (hd0 : rest0 = a0.sub.drop k0), RunsL Try.prog Try.f92.ntmps [] (codeAt [1, 1, 1, 1, 0, 1, 0, 0] (bodyOf Try.f92)) (qAt T Try.prog Try.f92.ntmps [] [5] [1, 1, 1, 1, 0, 1, 0] (bodyOf Try.f92) (EndPure T Try.f92.results.toList (Tm.D r))) [(1, .ptr 0 0 0), (2, .ptr 0 1 0), (20, .d (.slice 7 (Tm.Ds a0.sub))), (21, .d (.int .i64 ((Tm.Ds a0.sub).length : Int))), (22, .d (.int .i64 (k0 : Int)))] [[.cells [.d (.int .u8 a0.kind), .d (.str a0.name), .d (.bool v1.v), .d (.str v1.name), .d (.slice 3 (Ty.Ds v1.args)), .d (.int .i64 a0.index), .arr 0 2 0 nv3 7], .cells [.d (.int .u8 0), .d (.str ByteArray.empty), .d (.bool false), .d (.str ByteArray.empty), .nil 3, .d (.int .i64 0), .nil 7], .arr 7 (Tm.Ds a2_0)]]
def M_terms_Twin_j0b (p : (Tm × Ty)) (r : Tm) : Prop := ∀ (a0 : Tm) (v1 : Ty), (a0, v1) = p → Runs Try.prog Try.f92.ntmps [] (codeAt [1, 1, 1, 1, 0, 0] (bodyOf Try.f92)) (qAt T Try.prog Try.f92.ntmps [] [5] [1, 1, 1, 1, 0, 0] (bodyOf Try.f92) (EndPure T Try.f92.results.toList (Tm.D r))) [(1, .ptr 0 0 0), (2, .ptr 0 1 0), (3, .d (.slice 7 (Tm.Ds a0.sub)))] [[.cells [.d (.int .u8 a0.kind), .d (.str a0.name), .d (.bool v1.v), .d (.str v1.name), .d (.slice 3 (Ty.Ds v1.args)), .d (.int .i64 a0.index), .nil 7], .cells [.d (.int .u8 0), .d (.str ByteArray.empty), .d (.bool false), .d (.str ByteArray.empty), .nil 3, .d (.int .i64 0), .nil 7]]]
def M_terms_Twin_l0b (p : ((List Tm) × Tm × Ty)) (r : Tm) : Prop := ∀ (rest0 : (List Tm)) (a0 : Tm) (v1 : Ty), (rest0, a0, v1) = p → ∀ (k0 : Nat) (hd0 : rest0 = a0.sub.drop k0), RunsL Try.prog Try.f92.ntmps [] (codeAt [1, 1, 1, 1, 0, 1, 0, 0] (bodyOf Try.f92)) (qAt T Try.prog Try.f92.ntmps [] [5] [1, 1, 1, 1, 0, 1, 0] (bodyOf Try.f92) (EndPure T Try.f92.results.toList (Tm.D r))) [(1, .ptr 0 0 0), (2, .ptr 0 1 0), (20, .d (.slice 7 (Tm.Ds a0.sub))), (21, .d (.int .i64 ((Tm.Ds a0.sub).length : Int))), (22, .d (.int .i64 (k0 : Int)))] [[.cells [.d (.int .u8 a0.kind), .d (.str a0.name), .d (.bool v1.v), .d (.str v1.name), .d (.slice 3 (Ty.Ds v1.args)), .d (.int .i64 a0.index), .nil 7], .cells [.d (.int .u8 0), .d (.str ByteArray.empty), .d (.bool false), .d (.str ByteArray.empty), .nil 3, .d (.int .i64 0), .nil 7]]]
theorem G_terms_Twin : (∀ p r, terms_Twin' p = some r → M_terms_Twin p r) ∧
    (∀ p r, terms_Twin_j0b' p = some r → M_terms_Twin_j0b p r) ∧
    (∀ p r, terms_Twin_l0b' p = some r → M_terms_Twin_l0b p r) ∧
    (∀ p r, terms_Twin_j0' p = some r → M_terms_Twin_j0 p r) ∧
    (∀ p r, terms_Twin_l0' p = some r → M_terms_Twin_l0 p r) := by
  refine terms_Twin'.mutual_partial_correctness M_terms_Twin M_terms_Twin_j0b M_terms_Twin_l0b M_terms_Twin_j0 M_terms_Twin_l0 ?_ ?_ ?_ ?_ ?_
  · intro f_terms_Twin_j0b f_terms_Twin_j0 ih_terms_Twin_j0b ih_terms_Twin_j0 p r e a0 hp
    subst hp
    refine pure_of_awp (js := [5]) T_ok Try.func92 rfl (by decide +kernel) rfl ?_; (conv => whnf)
    obtain ⟨v1, qv1, e⟩ := bnd e
    refine said_pure (P_types_Twin qv1) rfl ?_; (conv => whnf)
    refine ⟨⟨fun h2 => ?_, fun h2 => ?_⟩⟩
    · replace e := ifp (by first | exact h2 | simpa [Tm.Ds_all, Ty.Ds_all, Tm.D, Ty.D, listAll] using h2) e; (conv => whnf)
      obtain ⟨v3, qv3, e⟩ := bnd e
      obtain ⟨nv3, qv3a, qv3b, qv3c⟩ := mkn_some qv3
      have hlv3 : v3.length = nv3 := by rw [qv3c]; simp
      refine ⟨nv3, nv3, congrArg (fun z => AV.d (D.int .i64 z)) qv3a, congrArg (fun z => AV.d (D.int .i64 z)) qv3a, Nat.le_refl _, qv3b, .inr ⟨rfl, ?_⟩⟩; (conv => whnf)
      refine Runs.weak ((ih_terms_Twin_j0 _ _ e _ _ _ rfl) nv3 hlv3) ?_
      repeat' first | exact wk.of_eq rfl | exact wk.pure rfl | exact wk.un _ | exact rfl | exact trivial | refine ⟨?_, ?_⟩ | (refine wk.of_eq ?_; (conv => lhs; whnf); (simp [Tm.Ds_all, Ty.Ds_all, Tm.D, Ty.D, listAll, qv3c, hlv3] <;> (repeat' first | rfl | apply And.intro)); done) | (refine wk.pure ?_; (conv => lhs; whnf); (simp [Tm.Ds_all, Ty.Ds_all, Tm.D, Ty.D, listAll, qv3c, hlv3] <;> (repeat' first | rfl | apply And.intro)); done) | ((simp [Tm.Ds_all, Ty.Ds_all, Tm.D, Ty.D, listAll, qv3c, hlv3] <;> (repeat' first | rfl | apply And.intro)); done)
    · replace e := ifn (by first | exact h2 | simpa [Tm.Ds_all, Ty.Ds_all, Tm.D, Ty.D, listAll] using h2) e; (conv => whnf)
      refine Runs.weak (ih_terms_Twin_j0b _ _ e _ _ rfl) ?_
      repeat' first | exact wk.of_eq rfl | exact wk.pure rfl | exact wk.un _ | exact rfl | exact trivial | refine ⟨?_, ?_⟩ | (refine wk.of_eq ?_; (conv => lhs; whnf); (simp [Tm.Ds_all, Ty.Ds_all, Tm.D, Ty.D, listAll] <;> (repeat' first | rfl | apply And.intro)); done) | (refine wk.pure ?_; (conv => lhs; whnf); (simp [Tm.Ds_all, Ty.Ds_all, Tm.D, Ty.D, listAll] <;> (repeat' first | rfl | apply And.intro)); done) | ((simp [Tm.Ds_all, Ty.Ds_all, Tm.D, Ty.D, listAll] <;> (repeat' first | rfl | apply And.intro)); done)
  · intro f_terms_Twin_l0b ih_terms_Twin_l0b p r e a0 v1 hp
    subst hp
    refine Runs.enter T_ok ?_; (conv => whnf)
    refine RunsL.runs (RunsL.weak ((ih_terms_Twin_l0b _ _ e _ _ _ rfl) 0 (by simp)) ?_)
    repeat' first | exact wk.of_eq rfl | exact wk.pure rfl | exact wk.un _ | exact rfl | exact trivial | refine ⟨?_, ?_⟩ | (refine wk.of_eq ?_; (conv => lhs; whnf); (simp [Tm.Ds_all, Ty.Ds_all, Tm.D, Ty.D, listAll] <;> (repeat' first | rfl | apply And.intro)); done) | (refine wk.pure ?_; (conv => lhs; whnf); (simp [Tm.Ds_all, Ty.Ds_all, Tm.D, Ty.D, listAll] <;> (repeat' first | rfl | apply And.intro)); done) | ((simp [Tm.Ds_all, Ty.Ds_all, Tm.D, Ty.D, listAll] <;> (repeat' first | rfl | apply And.intro)); done)
  · intro f_terms_Twin ih_terms_Twin p r e rest0 a0 v1 hp
    subst hp
    intro k0 hd0
    refine RunsL.len_tmp 20 rfl fun hlenk0 => ?_
    refine RunsL.of_awp (js := [5]) T_ok ?_; (conv => whnf)
    have hls := Tm.Ds_len a0.sub
    cases rest0 with
    | nil =>
      have hk := drop_nil hd0
      refine ⟨⟨fun h => absurd h (by omega), fun _ => ?_⟩⟩; (conv => whnf)
      obtain rfl := sm e
      repeat' first | exact rfl | exact trivial | refine ⟨?_, ?_⟩
    | cons v9 rest0 =>
      obtain ⟨hxv9, hd0, hltv9⟩ := drop_head hd0
      refine ⟨⟨fun _ => ?_, fun h => absurd (by omega) h⟩⟩; (conv => whnf)
      refine ⟨k0, _, rfl, Tm.Ds_get hxv9, ?_⟩; (conv => whnf)
      refine ⟨Tm.Ds_fit _ rfl rfl, ?_⟩; (conv => whnf)
      refine draw_rule T_ok mixed terms_Twin_pl8 (by decide +kernel) ?_; (conv => whnf)
      obtain ⟨v10, qv10, e⟩ := bnd e
      refine said_pure (ih_terms_Twin _ _ qv10 _ rfl) rfl ⟨rfl, ?_⟩; (conv => whnf)
      cases e
  · intro f_terms_Twin_l0 ih_terms_Twin_l0 p r e a0 v1 v3 hp
    subst hp
    intro nv3 hlv3
    refine Runs.enter T_ok ?_; (conv => whnf)
    refine RunsL.runs (RunsL.weak ((ih_terms_Twin_l0 _ _ e _ _ _ _ _ rfl) nv3 hlv3 (by simp)) ?_)
    repeat' first | exact wk.of_eq rfl | exact wk.pure rfl | exact wk.un _ | exact rfl | exact trivial | refine ⟨?_, ?_⟩ | (refine wk.of_eq ?_; (conv => lhs; whnf); (simp [Tm.Ds_all, Ty.Ds_all, Tm.D, Ty.D, listAll, hlv3] <;> (repeat' first | rfl | apply And.intro)); done) | (refine wk.pure ?_; (conv => lhs; whnf); (simp [Tm.Ds_all, Ty.Ds_all, Tm.D, Ty.D, listAll, hlv3] <;> (repeat' first | rfl | apply And.intro)); done) | ((simp [Tm.Ds_all, Ty.Ds_all, Tm.D, Ty.D, listAll, hlv3] <;> (repeat' first | rfl | apply And.intro)); done)
  · intro f_terms_Twin f_terms_Twin_l0 ih_terms_Twin ih_terms_Twin_l0 p r e rest0 k0 a2_0 a0 v1 hp
    subst hp
    intro nv3 hla2_0 hd0
    refine RunsL.len_tmp 20 rfl fun hlenk0 => ?_
    refine RunsL.of_awp (js := [5]) T_ok ?_; (conv => whnf)
    have hls := Tm.Ds_len a0.sub
    cases rest0 with
    | nil =>
      have hk := drop_nil hd0
      refine ⟨⟨fun h => absurd h (by omega), fun _ => ?_⟩⟩; (conv => whnf)
      obtain rfl := sm e
      repeat' first | exact rfl | exact trivial | exact ⟨_, rfl, (by first | exact rfl | (simp [Tm.Ds_all, Ty.Ds_all, Tm.D, Ty.D, listAll, hla2_0] <;> (repeat' first | rfl | apply And.intro))), (by first | exact rfl | (simp [Tm.Ds_all, Ty.Ds_all, Tm.D, Ty.D, listAll, hla2_0] <;> (repeat' first | rfl | apply And.intro)))⟩ | refine ⟨?_, ?_⟩ | (simp [Tm.Ds_all, Ty.Ds_all, Tm.D, Ty.D, listAll, hla2_0] <;> (repeat' first | rfl | apply And.intro))
    | cons v4 rest0 =>
      obtain ⟨hxv4, hd0, hltv4⟩ := drop_head hd0
      refine ⟨⟨fun _ => ?_, fun h => absurd (by omega) h⟩⟩; (conv => whnf)
      refine ⟨k0, _, rfl, Tm.Ds_get hxv4, ?_⟩; (conv => whnf)
      refine ⟨Tm.Ds_fit _ rfl rfl, ?_⟩; (conv => whnf)
      refine draw_rule T_ok mixed terms_Twin_pl8 (by decide +kernel) ?_; (conv => whnf)
      obtain ⟨v5, qv5, e⟩ := bnd e
      refine said_pure (ih_terms_Twin _ _ qv5 _ rfl) rfl ⟨rfl, ?_⟩; (conv => whnf)
      obtain ⟨g7, qg7, e⟩ := bnd e
      obtain ⟨k6, k6a⟩ : ∃ k6 : Nat, (k0 : Int) = k6 := ⟨((k0 : Int)).toNat, by have := wantb_some qg7; omega⟩
      refine ⟨k6, k6a, by have := wantb_some qg7; omega, ?_⟩; simp only [Nat.zero_add]; (conv => whnf)
      obtain ⟨v8, qv8, e⟩ := bnd e
      obtain ⟨qv8k, qv8a, qv8b, qv8c⟩ := seti_some qv8
      obtain rfl : k6 = qv8k := by omega
      have hlv8 : v8.length = nv3 := by rw [qv8c]; simp [hla2_0]
      refine ⟨(by first | exact qv8b | simpa [Tm.Ds_all, Ty.Ds_all, Tm.D, Ty.D, listAll] using qv8b), Tm.Ds_fit _ rfl rfl, rfl, ?_⟩
      (conv => whnf)
      refine ⟨((k0 + 1 : Nat) : Int), wrap64e (by omega) (by omega) (by omega), ?_⟩; (conv => whnf)
      refine (RunsL.weak ((ih_terms_Twin_l0 _ _ e _ _ _ _ _ rfl) nv3 hlv8 hd0) ?_)
      repeat' first | exact wk.of_eq rfl | exact wk.pure rfl | exact wk.un _ | exact rfl | exact trivial | refine ⟨?_, ?_⟩ | (refine wk.of_eq ?_; (conv => lhs; whnf); (simp [Tm.Ds_all, Ty.Ds_all, Tm.D, Ty.D, listAll, qv8c, hlv8] <;> (repeat' first | rfl | apply And.intro)); done) | (refine wk.pure ?_; (conv => lhs; whnf); (simp [Tm.Ds_all, Ty.Ds_all, Tm.D, Ty.D, listAll, qv8c, hlv8] <;> (repeat' first | rfl | apply And.intro)); done) | ((simp [Tm.Ds_all, Ty.Ds_all, Tm.D, Ty.D, listAll, qv8c, hlv8] <;> (repeat' first | rfl | apply And.intro)); done)
theorem P_terms_Twin {a0 : Tm} {r : Tm} (e : terms_Twin a0 = some r) : Pure Try.prog 92 [(Tm.D a0)] (Tm.D r) := G_terms_Twin.1 _ _ e _ rfl
theorem P_terms_Twin_j0b {a0 : Tm} {v1 : Ty} {r : Tm} (e : terms_Twin_j0b a0 v1 = some r) : Runs Try.prog Try.f92.ntmps [] (codeAt [1, 1, 1, 1, 0, 0] (bodyOf Try.f92)) (qAt T Try.prog Try.f92.ntmps [] [5] [1, 1, 1, 1, 0, 0] (bodyOf Try.f92) (EndPure T Try.f92.results.toList (Tm.D r))) [(1, .ptr 0 0 0), (2, .ptr 0 1 0), (3, .d (.slice 7 (Tm.Ds a0.sub)))] [[.cells [.d (.int .u8 a0.kind), .d (.str a0.name), .d (.bool v1.v), .d (.str v1.name), .d (.slice 3 (Ty.Ds v1.args)), .d (.int .i64 a0.index), .nil 7], .cells [.d (.int .u8 0), .d (.str ByteArray.empty), .d (.bool false), .d (.str ByteArray.empty), .nil 3, .d (.int .i64 0), .nil 7]]] := G_terms_Twin.2.1 _ _ e _ _ rfl
theorem P_terms_Twin_l0b {rest0 : (List Tm)} {a0 : Tm} {v1 : Ty} {r : Tm} (e : terms_Twin_l0b rest0 a0 v1 = some r) : ∀ (k0 : Nat) (hd0 : rest0 = a0.sub.drop k0), RunsL Try.prog Try.f92.ntmps [] (codeAt [1, 1, 1, 1, 0, 1, 0, 0] (bodyOf Try.f92)) (qAt T Try.prog Try.f92.ntmps [] [5] [1, 1, 1, 1, 0, 1, 0] (bodyOf Try.f92) (EndPure T Try.f92.results.toList (Tm.D r))) [(1, .ptr 0 0 0), (2, .ptr 0 1 0), (20, .d (.slice 7 (Tm.Ds a0.sub))), (21, .d (.int .i64 ((Tm.Ds a0.sub).length : Int))), (22, .d (.int .i64 (k0 : Int)))] [[.cells [.d (.int .u8 a0.kind), .d (.str a0.name), .d (.bool v1.v), .d (.str v1.name), .d (.slice 3 (Ty.Ds v1.args)), .d (.int .i64 a0.index), .nil 7], .cells [.d (.int .u8 0), .d (.str ByteArray.empty), .d (.bool false), .d (.str ByteArray.empty), .nil 3, .d (.int .i64 0), .nil 7]]] := G_terms_Twin.2.2.1 _ _ e _ _ _ rfl
theorem P_terms_Twin_j0 {a0 : Tm} {v1 : Ty} {v3 : (List Tm)} {r : Tm} (e : terms_Twin_j0 a0 v1 v3 = some r) : ∀ (nv3 : Nat) (hlv3 : v3.length = nv3), Runs Try.prog Try.f92.ntmps [] (codeAt [1, 1, 1, 1, 0, 0] (bodyOf Try.f92)) (qAt T Try.prog Try.f92.ntmps [] [5] [1, 1, 1, 1, 0, 0] (bodyOf Try.f92) (EndPure T Try.f92.results.toList (Tm.D r))) [(1, .ptr 0 0 0), (2, .ptr 0 1 0), (3, .d (.slice 7 (Tm.Ds a0.sub)))] [[.cells [.d (.int .u8 a0.kind), .d (.str a0.name), .d (.bool v1.v), .d (.str v1.name), .d (.slice 3 (Ty.Ds v1.args)), .d (.int .i64 a0.index), .arr 0 2 0 nv3 7], .cells [.d (.int .u8 0), .d (.str ByteArray.empty), .d (.bool false), .d (.str ByteArray.empty), .nil 3, .d (.int .i64 0), .nil 7], .arr 7 (Tm.Ds v3)]] := G_terms_Twin.2.2.2.1 _ _ e _ _ _ rfl
theorem P_terms_Twin_l0 {rest0 : (List Tm)} {k0 : Nat} {a2_0 : (List Tm)} {a0 : Tm} {v1 : Ty} {r : Tm} (e : terms_Twin_l0 rest0 k0 a2_0 a0 v1 = some r) : ∀ (nv3 : Nat) (hla2_0 : a2_0.length = nv3) (hd0 : rest0 = a0.sub.drop k0), RunsL Try.prog Try.f92.ntmps [] (codeAt [1, 1, 1, 1, 0, 1, 0, 0] (bodyOf Try.f92)) (qAt T Try.prog Try.f92.ntmps [] [5] [1, 1, 1, 1, 0, 1, 0] (bodyOf Try.f92) (EndPure T Try.f92.results.toList (Tm.D r))) [(1, .ptr 0 0 0), (2, .ptr 0 1 0), (20, .d (.slice 7 (Tm.Ds a0.sub))), (21, .d (.int .i64 ((Tm.Ds a0.sub).length : Int))), (22, .d (.int .i64 (k0 : Int)))] [[.cells [.d (.int .u8 a0.kind), .d (.str a0.name), .d (.bool v1.v), .d (.str v1.name), .d (.slice 3 (Ty.Ds v1.args)), .d (.int .i64 a0.index), .arr 0 2 0 nv3 7], .cells [.d (.int .u8 0), .d (.str ByteArray.empty), .d (.bool false), .d (.str ByteArray.empty), .nil 3, .d (.int .i64 0), .nil 7], .arr 7 (Tm.Ds a2_0)]] := G_terms_Twin.2.2.2.2 _ _ e _ _ _ _ _ rfl

theorem P_terms_Comb {a0 : Tm} {a1 : Tm} {r : (Tm × Int)} (e : terms_Comb a0 a1 = some r) : Pure Try.prog 80 [(Tm.D a0), (Tm.D a1)] (.tuple [(Tm.D r.1), (.int .i64 r.2)]) := by
  unfold terms_Comb at e
  refine pure_of_awp (js := []) T_ok Try.func80 rfl (by decide +kernel) rfl ?_; (conv => whnf)
  obtain ⟨v1, qv1, e⟩ := bnd e
  refine said_pure (P_terms_typed qv1) rfl ?_; (conv => whnf)
  refine ⟨⟨fun h2 => ?_, fun h2 => ?_⟩⟩
  · replace e := ifp h2 e; (conv => whnf)
    obtain rfl := sm e
    repeat' first | exact rfl | exact trivial | refine ⟨?_, ?_⟩
  · replace e := ifn h2 e; (conv => whnf)
    obtain ⟨v3, qv3, e⟩ := bnd e
    refine said_pure (P_terms_typed qv3) rfl ?_; (conv => whnf)
    refine ⟨⟨fun h4 => ?_, fun h4 => ?_⟩⟩
    · replace e := ifp h4 e; (conv => whnf)
      obtain rfl := sm e
      repeat' first | exact rfl | exact trivial | refine ⟨?_, ?_⟩
    · replace e := ifn h4 e; (conv => whnf)
      refine draw_rule T_ok mixed terms_Comb_pl7 (by decide +kernel) ?_; (conv => whnf)
      refine brK.split (fun hb5 => ?_) (fun hb5 => ?_)
      · replace e := ifpb hb5 e; (conv => whnf)
        refine brK.tt hb5 ?_; (conv => whnf)
        refine brK.tt hb5 ?_; (conv => whnf)
        refine brK.tt hb5 ?_; (conv => whnf)
        obtain rfl := sm e
        repeat' first | exact rfl | exact trivial | refine ⟨?_, ?_⟩
      · replace e := ifnb hb5 e; (conv => whnf)
        refine brK.ff hb5 ?_; (conv => whnf)
        refine brK.ff hb5 ?_; (conv => whnf)
        refine ⟨⟨fun h6 => ?_, fun h6 => ?_⟩⟩
        · replace e := ifp h6 e; (conv => whnf)
          refine brK.ff hb5 ?_; (conv => whnf)
          obtain rfl := sm e
          repeat' first | exact rfl | exact trivial | refine ⟨?_, ?_⟩
        · replace e := ifn h6 e; (conv => whnf)
          refine brK.ff hb5 ?_; (conv => whnf)
          refine ⟨⟨fun h7 => ?_, fun h7 => ?_⟩⟩
          · replace e := ifp (by first | exact h7 | simpa [Tm.Ds_all, Ty.Ds_all, Tm.D, Ty.D, listAll] using h7) e; (conv => whnf)
            obtain rfl := sm e
            repeat' first | exact rfl | exact trivial | refine ⟨?_, ?_⟩
          · replace e := ifn (by first | exact h7 | simpa [Tm.Ds_all, Ty.Ds_all, Tm.D, Ty.D, listAll] using h7) e; (conv => whnf)
            obtain ⟨v8, qv8, e⟩ := bnd e
            obtain ⟨qv8k, qv8a, qv8b⟩ := geti_some qv8
            refine ⟨qv8k, _, qv8a, Ty.Ds_get qv8b, ?_⟩; (conv => whnf)
            refine ⟨Ty.Ds_fit _ rfl rfl, ?_⟩; (conv => whnf)
            obtain ⟨v9, qv9, e⟩ := bnd e
            refine said_pure (P_types_Same qv9) rfl ⟨rfl, ?_⟩; (conv => whnf)
            refine brK.nsplit (fun hb10 => ?_) (fun hb10 => ?_)
            · replace e := ifpb hb10 e; (conv => whnf)
              refine ⟨⟨⟨rfl, rfl⟩, ⟨⟨rfl, rfl⟩, trivial⟩⟩, ?_⟩; (conv => whnf)
              obtain ⟨v11, qv11, e⟩ := bnd e
              first | (refine said_pure (P_terms_great qv11) rfl ?_) | (refine said_pure2 (P_terms_great qv11) rfl (by simp [Tm.Ds_all, Ty.Ds_all, Tm.D, Ty.D, listAll] <;> (repeat' first | rfl | apply And.intro)) ?_)
              (conv => whnf)
              refine brK.split (fun hb12 => ?_) (fun hb12 => ?_)
              · replace e := ifpb hb12 e; (conv => whnf)
                obtain rfl := sm e
                repeat' first | exact rfl | exact trivial | refine ⟨?_, ?_⟩
              · replace e := ifnb hb12 e; (conv => whnf)
                obtain ⟨v13, qv13, e⟩ := bnd e
                first | (refine said_pure (P_terms_Twin qv13) rfl ?_) | (refine said_pure2 (P_terms_Twin qv13) rfl (by simp [Tm.Ds_all, Ty.Ds_all, Tm.D, Ty.D, listAll] <;> (repeat' first | rfl | apply And.intro)) ?_)
                (conv => whnf)
                obtain rfl := sm e
                repeat' first | exact rfl | exact trivial | refine ⟨?_, ?_⟩
            · replace e := ifnb hb10 e; (conv => whnf)
              obtain rfl := sm e
              repeat' first | exact rfl | exact trivial | refine ⟨?_, ?_⟩

theorem P_num_Mk {a0 : ByteArray} {a1 : Tm} {a2 : Tm} {r : (Tm × Int)} (e : num_Mk a0 a1 a2 = some r) : Pure Try.prog 37 [(.str a0), (Tm.D a1), (Tm.D a2)] (.tuple [(Tm.D r.1), (.int .i64 r.2)]) := by
  unfold num_Mk at e
  refine pure_of_awp (js := []) T_ok Try.func37 rfl (by decide +kernel) rfl ?_; (conv => whnf)
  refine ⟨⟨⟨rfl, rfl⟩, ⟨⟨rfl, rfl⟩, trivial⟩⟩, ?_⟩; (conv => whnf)
  obtain ⟨v1, qv1, e⟩ := bnd e
  first | (refine said_pure (P_num_check qv1) rfl ?_) | (refine said_pure2 (P_num_check qv1) rfl (by simp [Tm.Ds_all, Ty.Ds_all, Tm.D, Ty.D, listAll] <;> (repeat' first | rfl | apply And.intro)) ?_)
  (conv => whnf)
  refine ⟨⟨fun h2 => ?_, fun h2 => ?_⟩⟩
  · replace e := ifp h2 e; (conv => whnf)
    obtain rfl := sm e
    repeat' first | exact rfl | exact trivial | refine ⟨?_, ?_⟩
  · replace e := ifn h2 e; (conv => whnf)
    obtain ⟨v3, qv3, e⟩ := bnd e
    refine said_pure (P_num_operator qv3) rfl ?_; (conv => whnf)
    refine brK.nsplit (fun hb4 => ?_) (fun hb4 => ?_)
    · replace e := ifpb hb4 e; (conv => whnf)
      refine ⟨⟨⟨rfl, rfl⟩, ⟨⟨rfl, rfl⟩, trivial⟩⟩, ?_⟩; (conv => whnf)
      obtain ⟨v5, qv5, e⟩ := bnd e
      first | (refine said_pure (P_num_numbers qv5) rfl ?_) | (refine said_pure2 (P_num_numbers qv5) rfl (by simp [Tm.Ds_all, Ty.Ds_all, Tm.D, Ty.D, listAll] <;> (repeat' first | rfl | apply And.intro)) ?_)
      (conv => whnf)
      refine ⟨⟨fun h6 => ?_, fun h6 => ?_⟩⟩
      · replace e := ifp h6 e; (conv => whnf)
        obtain rfl := sm e
        repeat' first | exact rfl | exact trivial | refine ⟨?_, ?_⟩
      · replace e := ifn h6 e; (conv => whnf)
        obtain ⟨v7, qv7, e⟩ := bnd e
        refine said_pure (P_terms_Comb qv7) rfl ?_; (conv => whnf)
        refine ⟨⟨fun h8 => ?_, fun h8 => ?_⟩⟩
        · replace e := ifp h8 e; (conv => whnf)
          obtain rfl := sm e
          repeat' first | exact rfl | exact trivial | refine ⟨?_, ?_⟩
        · replace e := ifn h8 e; (conv => whnf)
          obtain ⟨v9, qv9, e⟩ := bnd e
          refine said_pure (P_terms_Comb qv9) rfl ?_; (conv => whnf)
          obtain rfl := sm e
          repeat' first | exact rfl | exact trivial | refine ⟨?_, ?_⟩
    · replace e := ifnb hb4 e; (conv => whnf)
      obtain rfl := sm e
      repeat' first | exact rfl | exact trivial | refine ⟨?_, ?_⟩

theorem P_num_successor {r : Tm} (e : num_successor = some r) : Pure Try.prog 81 [] (Tm.D r) := by
  unfold num_successor at e
  refine pure_of_awp (js := []) T_ok Try.func81 rfl (by decide +kernel) rfl ?_; (conv => whnf)
  obtain ⟨v1, qv1, e⟩ := bnd e
  refine said_pure (P_num_Type qv1) rfl ?_; (conv => whnf)
  obtain ⟨v2, qv2, e⟩ := bnd e
  refine said_pure (P_num_Type qv2) rfl ?_; (conv => whnf)
  obtain ⟨v3, qv3, e⟩ := bnd e
  refine said_pure (P_types_Fun qv3) rfl ?_; (conv => whnf)
  obtain ⟨v4, qv4, e⟩ := bnd e
  refine said_pure (P_num_constant qv4) rfl ?_; (conv => whnf)
  obtain rfl := sm e
  repeat' first | exact rfl | exact trivial | refine ⟨?_, ?_⟩

theorem P_num_MkSuc {a0 : Tm} {r : (Tm × Int)} (e : num_MkSuc a0 = some r) : Pure Try.prog 35 [(Tm.D a0)] (.tuple [(Tm.D r.1), (.int .i64 r.2)]) := by
  unfold num_MkSuc at e
  refine pure_of_awp (js := []) T_ok Try.func35 rfl (by decide +kernel) rfl ?_; (conv => whnf)
  refine ⟨⟨⟨rfl, rfl⟩, trivial⟩, ?_⟩; (conv => whnf)
  obtain ⟨v1, qv1, e⟩ := bnd e
  first | (refine said_pure (P_num_check qv1) rfl ?_) | (refine said_pure2 (P_num_check qv1) rfl (by simp [Tm.Ds_all, Ty.Ds_all, Tm.D, Ty.D, listAll] <;> (repeat' first | rfl | apply And.intro)) ?_)
  (conv => whnf)
  refine ⟨⟨fun h2 => ?_, fun h2 => ?_⟩⟩
  · replace e := ifp h2 e; (conv => whnf)
    obtain rfl := sm e
    repeat' first | exact rfl | exact trivial | refine ⟨?_, ?_⟩
  · replace e := ifn h2 e; (conv => whnf)
    refine ⟨⟨⟨rfl, rfl⟩, trivial⟩, ?_⟩; (conv => whnf)
    obtain ⟨v3, qv3, e⟩ := bnd e
    first | (refine said_pure (P_num_numbers qv3) rfl ?_) | (refine said_pure2 (P_num_numbers qv3) rfl (by simp [Tm.Ds_all, Ty.Ds_all, Tm.D, Ty.D, listAll] <;> (repeat' first | rfl | apply And.intro)) ?_)
    (conv => whnf)
    refine ⟨⟨fun h4 => ?_, fun h4 => ?_⟩⟩
    · replace e := ifp h4 e; (conv => whnf)
      obtain rfl := sm e
      repeat' first | exact rfl | exact trivial | refine ⟨?_, ?_⟩
    · replace e := ifn h4 e; (conv => whnf)
      refine draw_rule T_ok mixed num_MkSuc_pl7 (by decide +kernel) ?_; (conv => whnf)
      obtain ⟨v5, qv5, e⟩ := bnd e
      refine said_pure (P_num_successor qv5) rfl ⟨rfl, ?_⟩; (conv => whnf)
      obtain ⟨v6, qv6, e⟩ := bnd e
      refine said_pure (P_terms_Comb qv6) rfl ⟨rfl, ?_⟩; (conv => whnf)
      obtain rfl := sm e
      repeat' first | exact rfl | exact trivial | refine ⟨?_, ?_⟩

theorem P_sequentref01_Bool {r : Ty} (e : sequentref01_Bool = some r) : Pure Try.prog 120 [] (Ty.D r) := by
  unfold sequentref01_Bool at e
  refine pure_of_awp (js := []) T_ok Try.func120 rfl (by decide +kernel) rfl ?_; (conv => whnf)
  obtain rfl := sm e
  repeat' first | exact rfl | exact trivial | refine ⟨?_, ?_⟩

theorem P_sequentref09_Constant {a0 : ByteArray} {a1 : Ty} {r : Tm} (e : sequentref09_Constant a0 a1 = some r) : Pure Try.prog 112 [(.str a0), (Ty.D a1)] (Tm.D r) := by
  unfold sequentref09_Constant at e
  refine pure_of_awp (js := []) T_ok Try.func112 rfl (by decide +kernel) rfl ?_; (conv => whnf)
  obtain rfl := sm e
  repeat' first | exact rfl | exact trivial | refine ⟨?_, ?_⟩

theorem P_sequentref09_T {r : Tm} (e : sequentref09_T = some r) : Pure Try.prog 76 [] (Tm.D r) := by
  unfold sequentref09_T at e
  refine pure_of_awp (js := []) T_ok Try.func76 rfl (by decide +kernel) rfl ?_; (conv => whnf)
  obtain ⟨v1, qv1, e⟩ := bnd e
  refine said_pure (P_sequentref01_Bool qv1) rfl ?_; (conv => whnf)
  obtain ⟨v2, qv2, e⟩ := bnd e
  refine said_pure (P_sequentref09_Constant qv2) rfl ?_; (conv => whnf)
  obtain rfl := sm e
  repeat' first | exact rfl | exact trivial | refine ⟨?_, ?_⟩

theorem P_sequentref09_Variable {a0 : ByteArray} {a1 : Ty} {r : Tm} (e : sequentref09_Variable a0 a1 = some r) : Pure Try.prog 126 [(.str a0), (Ty.D a1)] (Tm.D r) := by
  unfold sequentref09_Variable at e
  refine pure_of_awp (js := []) T_ok Try.func126 rfl (by decide +kernel) rfl ?_; (conv => whnf)
  obtain rfl := sm e
  repeat' first | exact rfl | exact trivial | refine ⟨?_, ?_⟩

theorem P_sequentref21_N {r : Ty} (e : sequentref21_N = some r) : Pure Try.prog 113 [] (Ty.D r) := by
  unfold sequentref21_N at e
  refine pure_of_awp (js := []) T_ok Try.func113 rfl (by decide +kernel) rfl ?_; (conv => whnf)
  obtain rfl := sm e
  repeat' first | exact rfl | exact trivial | refine ⟨?_, ?_⟩

theorem P_sequentref21_V {a0 : ByteArray} {r : Tm} (e : sequentref21_V a0 = some r) : Pure Try.prog 77 [(.str a0)] (Tm.D r) := by
  unfold sequentref21_V at e
  refine pure_of_awp (js := []) T_ok Try.func77 rfl (by decide +kernel) rfl ?_; (conv => whnf)
  obtain ⟨v1, qv1, e⟩ := bnd e
  refine said_pure (P_sequentref21_N qv1) rfl ?_; (conv => whnf)
  obtain ⟨v2, qv2, e⟩ := bnd e
  refine said_pure (P_sequentref09_Variable qv2) rfl ?_; (conv => whnf)
  obtain rfl := sm e
  repeat' first | exact rfl | exact trivial | refine ⟨?_, ?_⟩

theorem P_sequentlaw21_woke {r : Bool} (e : sequentlaw21_woke = some r) : Pure Try.prog 34 [] (.bool r) := by
  unfold sequentlaw21_woke at e
  refine pure_of_awp (js := []) T_ok Try.func34 rfl (by decide +kernel) rfl ?_; (conv => whnf)
  obtain ⟨v1, qv1, e⟩ := bnd e
  refine said_pure (P_sequentref09_T qv1) rfl ?_; (conv => whnf)
  obtain ⟨v2, qv2, e⟩ := bnd e
  refine said_pure (P_num_MkSuc qv2) rfl ?_; (conv => whnf)
  obtain ⟨v3, qv3, e⟩ := bnd e
  refine said_pure (P_sequentref21_V qv3) rfl ?_; (conv => whnf)
  obtain ⟨v4, qv4, e⟩ := bnd e
  refine said_pure (P_num_Mk qv4) rfl ?_; (conv => whnf)
  refine ⟨⟨fun h5 => ?_, fun h5 => ?_⟩⟩
  · replace e := ifp h5 e; (conv => whnf)
    refine test.dec ?_; (conv => whnf)
    obtain rfl := sm e
    repeat' first | exact rfl | exact trivial | refine ⟨?_, ?_⟩
  · replace e := ifn h5 e; (conv => whnf)
    obtain rfl := sm e
    repeat' first | exact rfl | exact trivial | refine ⟨?_, ?_⟩

def M_sequentref02_Depth (p : Tm) (r : Int) : Prop := ∀ (a0 : Tm), a0 = p → Pure Try.prog 105 [(Tm.D a0)] (.int .i64 r)
def M_sequentref02_Depth_l0 (p : ((List Tm) × Int)) (r : Int) : Prop := ∀ (rest0 : (List Tm)) (t3_0 : Int), (rest0, t3_0) = p → ∀ (a0 : Tm) (k0 : Nat) (hd0 : rest0 = a0.sub.drop k0), RunsL Try.prog Try.f105.ntmps [] (codeAt [1, 1, 0, 1, 0, 0] (bodyOf Try.f105)) (qAt T Try.prog Try.f105.ntmps [] [] [1, 1, 0, 1, 0] (bodyOf Try.f105) (EndPure T Try.f105.results.toList (.int .i64 r))) [(1, .ptr 0 0 0), (3, .d (.int .i64 t3_0)), (4, .d (.int .i64 (k0 : Int)))] [[.cells [.d (.int .u8 a0.kind), .d (.str a0.name), .d (.bool a0.ty.v), .d (.str a0.ty.name), .d (.slice 3 (Ty.Ds a0.ty.args)), .d (.int .i64 a0.index), .d (.slice 7 (Tm.Ds a0.sub))]]]
theorem G_sequentref02_Depth : (∀ p r, sequentref02_Depth' p = some r → M_sequentref02_Depth p r) ∧
    (∀ p r, sequentref02_Depth_l0' p = some r → M_sequentref02_Depth_l0 p r) := by
  refine sequentref02_Depth'.mutual_partial_correctness M_sequentref02_Depth M_sequentref02_Depth_l0 ?_ ?_
  · intro f_sequentref02_Depth_l0 ih_sequentref02_Depth_l0 p r e a0 hp
    subst hp
    refine pure_of_awp (js := []) T_ok Try.func105 rfl (by decide +kernel) rfl ?_; (conv => whnf)
    refine RunsL.runs (RunsL.weak ((ih_sequentref02_Depth_l0 _ _ e _ _ rfl) a0 0 (by simp)) ?_)
    repeat' first | exact wk.of_eq rfl | exact wk.pure rfl | exact wk.un _ | exact rfl | exact trivial | refine ⟨?_, ?_⟩ | (refine wk.of_eq ?_; (conv => lhs; whnf); (simp [Tm.Ds_all, Ty.Ds_all, Tm.D, Ty.D, listAll] <;> (repeat' first | rfl | apply And.intro)); done) | (refine wk.pure ?_; (conv => lhs; whnf); (simp [Tm.Ds_all, Ty.Ds_all, Tm.D, Ty.D, listAll] <;> (repeat' first | rfl | apply And.intro)); done) | ((simp [Tm.Ds_all, Ty.Ds_all, Tm.D, Ty.D, listAll] <;> (repeat' first | rfl | apply And.intro)); done)
  · intro f_sequentref02_Depth f_sequentref02_Depth_l0 ih_sequentref02_Depth ih_sequentref02_Depth_l0 p r e rest0 t3_0 hp
    subst hp
    intro a0 k0 hd0
    refine RunsL.len_cell 0 6 rfl rfl rfl fun hlenk0 => ?_
    refine RunsL.of_awp (js := []) T_ok ?_; (conv => whnf)
    have hls := Tm.Ds_len a0.sub
    cases rest0 with
    | nil =>
      have hk := drop_nil hd0
      refine ⟨⟨fun h => absurd h (by omega), fun _ => ?_⟩⟩; (conv => whnf)
      obtain ⟨v3, qv3, e⟩ := bnd e
      refine ⟨v3, sm qv3, ?_⟩; (conv => whnf)
      obtain rfl := sm e
      repeat' first | exact rfl | exact trivial | refine ⟨?_, ?_⟩
    | cons v1 rest0 =>
      obtain ⟨hxv1, hd0, hltv1⟩ := drop_head hd0
      refine ⟨⟨fun _ => ?_, fun h => absurd (by omega) h⟩⟩; (conv => whnf)
      refine ⟨k0, _, rfl, Tm.Ds_get hxv1, ?_⟩; (conv => whnf)
      refine ⟨Tm.Ds_fit _ rfl rfl, ?_⟩; (conv => whnf)
      obtain ⟨v2, qv2, e⟩ := bnd e
      refine said_pure (ih_sequentref02_Depth _ _ qv2 _ rfl) rfl ?_; (conv => whnf)
      refine ⟨((k0 + 1 : Nat) : Int), wrap64e (by omega) (by omega) (by omega), ?_⟩; (conv => whnf)
      refine (RunsL.weak ((ih_sequentref02_Depth_l0 _ _ e _ _ rfl) a0 (k0 + 1) hd0) ?_)
      repeat' first | exact wk.of_eq rfl | exact wk.pure rfl | exact wk.un _ | exact rfl | exact trivial | refine ⟨?_, ?_⟩ | (refine wk.of_eq ?_; (conv => lhs; whnf); (simp [Tm.Ds_all, Ty.Ds_all, Tm.D, Ty.D, listAll] <;> (repeat' first | rfl | apply And.intro)); done) | (refine wk.pure ?_; (conv => lhs; whnf); (simp [Tm.Ds_all, Ty.Ds_all, Tm.D, Ty.D, listAll] <;> (repeat' first | rfl | apply And.intro)); done) | ((simp [Tm.Ds_all, Ty.Ds_all, Tm.D, Ty.D, listAll] <;> (repeat' first | rfl | apply And.intro)); done)
theorem P_sequentref02_Depth {a0 : Tm} {r : Int} (e : sequentref02_Depth a0 = some r) : Pure Try.prog 105 [(Tm.D a0)] (.int .i64 r) := G_sequentref02_Depth.1 _ _ e _ rfl
theorem P_sequentref02_Depth_l0 {rest0 : (List Tm)} {t3_0 : Int} {r : Int} (e : sequentref02_Depth_l0 rest0 t3_0 = some r) : ∀ (a0 : Tm) (k0 : Nat) (hd0 : rest0 = a0.sub.drop k0), RunsL Try.prog Try.f105.ntmps [] (codeAt [1, 1, 0, 1, 0, 0] (bodyOf Try.f105)) (qAt T Try.prog Try.f105.ntmps [] [] [1, 1, 0, 1, 0] (bodyOf Try.f105) (EndPure T Try.f105.results.toList (.int .i64 r))) [(1, .ptr 0 0 0), (3, .d (.int .i64 t3_0)), (4, .d (.int .i64 (k0 : Int)))] [[.cells [.d (.int .u8 a0.kind), .d (.str a0.name), .d (.bool a0.ty.v), .d (.str a0.ty.name), .d (.slice 3 (Ty.Ds a0.ty.args)), .d (.int .i64 a0.index), .d (.slice 7 (Tm.Ds a0.sub))]]] := G_sequentref02_Depth.2 _ _ e _ _ rfl

def M_sequentref02_Size (p : Tm) (r : Int) : Prop := ∀ (a0 : Tm), a0 = p → Pure Try.prog 104 [(Tm.D a0)] (.int .i64 r)
def M_sequentref02_Size_l0 (p : ((List Tm) × Int)) (r : Int) : Prop := ∀ (rest0 : (List Tm)) (t3_0 : Int), (rest0, t3_0) = p → ∀ (a0 : Tm) (k0 : Nat) (hd0 : rest0 = a0.sub.drop k0), RunsL Try.prog Try.f104.ntmps [] (codeAt [1, 1, 0, 1, 0, 0] (bodyOf Try.f104)) (qAt T Try.prog Try.f104.ntmps [] [] [1, 1, 0, 1, 0] (bodyOf Try.f104) (EndPure T Try.f104.results.toList (.int .i64 r))) [(1, .ptr 0 0 0), (3, .d (.int .i64 t3_0)), (4, .d (.int .i64 (k0 : Int)))] [[.cells [.d (.int .u8 a0.kind), .d (.str a0.name), .d (.bool a0.ty.v), .d (.str a0.ty.name), .d (.slice 3 (Ty.Ds a0.ty.args)), .d (.int .i64 a0.index), .d (.slice 7 (Tm.Ds a0.sub))]]]
theorem G_sequentref02_Size : (∀ p r, sequentref02_Size' p = some r → M_sequentref02_Size p r) ∧
    (∀ p r, sequentref02_Size_l0' p = some r → M_sequentref02_Size_l0 p r) := by
  refine sequentref02_Size'.mutual_partial_correctness M_sequentref02_Size M_sequentref02_Size_l0 ?_ ?_
  · intro f_sequentref02_Size_l0 ih_sequentref02_Size_l0 p r e a0 hp
    subst hp
    refine pure_of_awp (js := []) T_ok Try.func104 rfl (by decide +kernel) rfl ?_; (conv => whnf)
    refine RunsL.runs (RunsL.weak ((ih_sequentref02_Size_l0 _ _ e _ _ rfl) a0 0 (by simp)) ?_)
    repeat' first | exact wk.of_eq rfl | exact wk.pure rfl | exact wk.un _ | exact rfl | exact trivial | refine ⟨?_, ?_⟩ | (refine wk.of_eq ?_; (conv => lhs; whnf); (simp [Tm.Ds_all, Ty.Ds_all, Tm.D, Ty.D, listAll] <;> (repeat' first | rfl | apply And.intro)); done) | (refine wk.pure ?_; (conv => lhs; whnf); (simp [Tm.Ds_all, Ty.Ds_all, Tm.D, Ty.D, listAll] <;> (repeat' first | rfl | apply And.intro)); done) | ((simp [Tm.Ds_all, Ty.Ds_all, Tm.D, Ty.D, listAll] <;> (repeat' first | rfl | apply And.intro)); done)
  · intro f_sequentref02_Size f_sequentref02_Size_l0 ih_sequentref02_Size ih_sequentref02_Size_l0 p r e rest0 t3_0 hp
    subst hp
    intro a0 k0 hd0
    refine RunsL.len_cell 0 6 rfl rfl rfl fun hlenk0 => ?_
    refine RunsL.of_awp (js := []) T_ok ?_; (conv => whnf)
    have hls := Tm.Ds_len a0.sub
    cases rest0 with
    | nil =>
      have hk := drop_nil hd0
      refine ⟨⟨fun h => absurd h (by omega), fun _ => ?_⟩⟩; (conv => whnf)
      obtain rfl := sm e
      repeat' first | exact rfl | exact trivial | refine ⟨?_, ?_⟩
    | cons v1 rest0 =>
      obtain ⟨hxv1, hd0, hltv1⟩ := drop_head hd0
      refine ⟨⟨fun _ => ?_, fun h => absurd (by omega) h⟩⟩; (conv => whnf)
      refine ⟨k0, _, rfl, Tm.Ds_get hxv1, ?_⟩; (conv => whnf)
      refine ⟨Tm.Ds_fit _ rfl rfl, ?_⟩; (conv => whnf)
      obtain ⟨v2, qv2, e⟩ := bnd e
      refine said_pure (ih_sequentref02_Size _ _ qv2 _ rfl) rfl ?_; (conv => whnf)
      obtain ⟨v3, qv3, e⟩ := bnd e
      refine ⟨v3, sm qv3, ?_⟩; (conv => whnf)
      refine ⟨((k0 + 1 : Nat) : Int), wrap64e (by omega) (by omega) (by omega), ?_⟩; (conv => whnf)
      refine (RunsL.weak ((ih_sequentref02_Size_l0 _ _ e _ _ rfl) a0 (k0 + 1) hd0) ?_)
      repeat' first | exact wk.of_eq rfl | exact wk.pure rfl | exact wk.un _ | exact rfl | exact trivial | refine ⟨?_, ?_⟩ | (refine wk.of_eq ?_; (conv => lhs; whnf); (simp [Tm.Ds_all, Ty.Ds_all, Tm.D, Ty.D, listAll] <;> (repeat' first | rfl | apply And.intro)); done) | (refine wk.pure ?_; (conv => lhs; whnf); (simp [Tm.Ds_all, Ty.Ds_all, Tm.D, Ty.D, listAll] <;> (repeat' first | rfl | apply And.intro)); done) | ((simp [Tm.Ds_all, Ty.Ds_all, Tm.D, Ty.D, listAll] <;> (repeat' first | rfl | apply And.intro)); done)
theorem P_sequentref02_Size {a0 : Tm} {r : Int} (e : sequentref02_Size a0 = some r) : Pure Try.prog 104 [(Tm.D a0)] (.int .i64 r) := G_sequentref02_Size.1 _ _ e _ rfl
theorem P_sequentref02_Size_l0 {rest0 : (List Tm)} {t3_0 : Int} {r : Int} (e : sequentref02_Size_l0 rest0 t3_0 = some r) : ∀ (a0 : Tm) (k0 : Nat) (hd0 : rest0 = a0.sub.drop k0), RunsL Try.prog Try.f104.ntmps [] (codeAt [1, 1, 0, 1, 0, 0] (bodyOf Try.f104)) (qAt T Try.prog Try.f104.ntmps [] [] [1, 1, 0, 1, 0] (bodyOf Try.f104) (EndPure T Try.f104.results.toList (.int .i64 r))) [(1, .ptr 0 0 0), (3, .d (.int .i64 t3_0)), (4, .d (.int .i64 (k0 : Int)))] [[.cells [.d (.int .u8 a0.kind), .d (.str a0.name), .d (.bool a0.ty.v), .d (.str a0.ty.name), .d (.slice 3 (Ty.Ds a0.ty.args)), .d (.int .i64 a0.index), .d (.slice 7 (Tm.Ds a0.sub))]]] := G_sequentref02_Size.2 _ _ e _ _ rfl

theorem P_sequentref02_Small {a0 : Tm} {r : Bool} (e : sequentref02_Small a0 = some r) : Pure Try.prog 53 [(Tm.D a0)] (.bool r) := by
  unfold sequentref02_Small at e
  refine pure_of_awp (js := []) T_ok Try.func53 rfl (by decide +kernel) rfl ?_; (conv => whnf)
  obtain ⟨v1, qv1, e⟩ := bnd e
  refine said_pure (P_sequentref02_Size qv1) rfl ?_; (conv => whnf)
  refine ⟨⟨fun h2 => ?_, fun h2 => ?_⟩⟩
  · replace e := ifp h2 e; (conv => whnf)
    obtain ⟨v3, qv3, e⟩ := bnd e
    refine said_pure (P_sequentref02_Depth qv3) rfl ?_; (conv => whnf)
    refine test.dec ?_; (conv => whnf)
    obtain rfl := sm e
    repeat' first | exact rfl | exact trivial | refine ⟨?_, ?_⟩
  · replace e := ifn h2 e; (conv => whnf)
    obtain rfl := sm e
    repeat' first | exact rfl | exact trivial | refine ⟨?_, ?_⟩

def M_sequentref01_count (p : (Ty × Int × Int)) (r : Int) : Prop := ∀ (a0 : Ty) (a1 : Int) (a2 : Int), (a0, a1, a2) = p → Pure Try.prog 139 [(Ty.D a0), (.int .i64 a1), (.int .i64 a2)] (.int .i64 r)
def M_sequentref01_count_l0 (p : ((List Ty) × Int × Int)) (r : Int) : Prop := ∀ (rest0 : (List Ty)) (t1_0 : Int) (a2 : Int), (rest0, t1_0, a2) = p → ∀ (a0 : Ty) (k0 : Nat) (hd0 : rest0 = a0.args.drop k0), RunsL Try.prog Try.f139.ntmps [] (codeAt [1, 1, 1, 0, 1, 0, 0] (bodyOf Try.f139)) (qAt T Try.prog Try.f139.ntmps [] [] [1, 1, 1, 0, 1, 0] (bodyOf Try.f139) (EndPure T Try.f139.results.toList (.int .i64 r))) [(1, .d (.int .i64 t1_0)), (2, .d (.int .i64 a2)), (3, .ptr 0 0 0), (7, .d (.int .i64 (k0 : Int)))] [[.cells [.d (.bool a0.v), .d (.str a0.name), .d (.slice 3 (Ty.Ds a0.args))]]]
theorem G_sequentref01_count : (∀ p r, sequentref01_count' p = some r → M_sequentref01_count p r) ∧
    (∀ p r, sequentref01_count_l0' p = some r → M_sequentref01_count_l0 p r) := by
  refine sequentref01_count'.mutual_partial_correctness M_sequentref01_count M_sequentref01_count_l0 ?_ ?_
  · intro f_sequentref01_count_l0 ih_sequentref01_count_l0 p r e a0 a1 a2 hp
    subst hp
    refine pure_of_awp (js := []) T_ok Try.func139 rfl (by decide +kernel) rfl ?_; (conv => whnf)
    refine ⟨⟨fun h1 => ?_, fun h1 => ?_⟩⟩
    · replace e := ifp h1 e; (conv => whnf)
      obtain rfl := sm e
      repeat' first | exact rfl | exact trivial | refine ⟨?_, ?_⟩
    · replace e := ifn h1 e; (conv => whnf)
      obtain ⟨v2, qv2, e⟩ := bnd e
      refine ⟨v2, sm qv2, ?_⟩; (conv => whnf)
      obtain ⟨v3, qv3, e⟩ := bnd e
      refine ⟨by decide, v3, sm qv3, ?_⟩; (conv => whnf)
      obtain ⟨v4, qv4, e⟩ := bnd e
      refine ⟨v4, sm qv4, ?_⟩; (conv => whnf)
      refine RunsL.runs (RunsL.weak ((ih_sequentref01_count_l0 _ _ e _ _ _ rfl) a0 0 (by simp)) ?_)
      repeat' first | exact wk.of_eq rfl | exact wk.pure rfl | exact wk.un _ | exact rfl | exact trivial | refine ⟨?_, ?_⟩ | (refine wk.of_eq ?_; (conv => lhs; whnf); (simp [Ty.Ds_all, Ty.D, listAll] <;> (repeat' first | rfl | apply And.intro)); done) | (refine wk.pure ?_; (conv => lhs; whnf); (simp [Ty.Ds_all, Ty.D, listAll] <;> (repeat' first | rfl | apply And.intro)); done) | ((simp [Ty.Ds_all, Ty.D, listAll] <;> (repeat' first | rfl | apply And.intro)); done)
  · intro f_sequentref01_count f_sequentref01_count_l0 ih_sequentref01_count ih_sequentref01_count_l0 p r e rest0 t1_0 a2 hp
    subst hp
    intro a0 k0 hd0
    refine RunsL.len_cell 0 2 rfl rfl rfl fun hlenk0 => ?_
    refine RunsL.of_awp (js := []) T_ok ?_; (conv => whnf)
    have hls := Ty.Ds_len a0.args
    cases rest0 with
    | nil =>
      have hk := drop_nil hd0
      refine ⟨⟨fun h => absurd h (by omega), fun _ => ?_⟩⟩; (conv => whnf)
      obtain rfl := sm e
      repeat' first | exact rfl | exact trivial | refine ⟨?_, ?_⟩
    | cons v5 rest0 =>
      obtain ⟨hxv5, hd0, hltv5⟩ := drop_head hd0
      refine ⟨⟨fun _ => ?_, fun h => absurd (by omega) h⟩⟩; (conv => whnf)
      refine ⟨⟨fun h6 => ?_, fun h6 => ?_⟩⟩
      · replace e := ifp h6 e; (conv => whnf)
        refine ⟨k0, _, rfl, Ty.Ds_get hxv5, ?_⟩; (conv => whnf)
        refine ⟨Ty.Ds_fit _ rfl rfl, ?_⟩; (conv => whnf)
        obtain ⟨v7, qv7, e⟩ := bnd e
        refine ⟨v7, sm qv7, ?_⟩; (conv => whnf)
        obtain ⟨v8, qv8, e⟩ := bnd e
        refine said_pure (ih_sequentref01_count _ _ qv8 _ _ _ rfl) rfl ?_; (conv => whnf)
        refine ⟨((k0 + 1 : Nat) : Int), wrap64e (by omega) (by omega) (by omega), ?_⟩; (conv => whnf)
        refine (RunsL.weak ((ih_sequentref01_count_l0 _ _ e _ _ _ rfl) a0 (k0 + 1) hd0) ?_)
        repeat' first | exact wk.of_eq rfl | exact wk.pure rfl | exact wk.un _ | exact rfl | exact trivial | refine ⟨?_, ?_⟩ | (refine wk.of_eq ?_; (conv => lhs; whnf); (simp [Ty.Ds_all, Ty.D, listAll] <;> (repeat' first | rfl | apply And.intro)); done) | (refine wk.pure ?_; (conv => lhs; whnf); (simp [Ty.Ds_all, Ty.D, listAll] <;> (repeat' first | rfl | apply And.intro)); done) | ((simp [Ty.Ds_all, Ty.D, listAll] <;> (repeat' first | rfl | apply And.intro)); done)
      · replace e := ifn h6 e; (conv => whnf)
        obtain rfl := sm e
        repeat' first | exact rfl | exact trivial | refine ⟨?_, ?_⟩
theorem P_sequentref01_count {a0 : Ty} {a1 : Int} {a2 : Int} {r : Int} (e : sequentref01_count a0 a1 a2 = some r) : Pure Try.prog 139 [(Ty.D a0), (.int .i64 a1), (.int .i64 a2)] (.int .i64 r) := G_sequentref01_count.1 _ _ e _ _ _ rfl
theorem P_sequentref01_count_l0 {rest0 : (List Ty)} {t1_0 : Int} {a2 : Int} {r : Int} (e : sequentref01_count_l0 rest0 t1_0 a2 = some r) : ∀ (a0 : Ty) (k0 : Nat) (hd0 : rest0 = a0.args.drop k0), RunsL Try.prog Try.f139.ntmps [] (codeAt [1, 1, 1, 0, 1, 0, 0] (bodyOf Try.f139)) (qAt T Try.prog Try.f139.ntmps [] [] [1, 1, 1, 0, 1, 0] (bodyOf Try.f139) (EndPure T Try.f139.results.toList (.int .i64 r))) [(1, .d (.int .i64 t1_0)), (2, .d (.int .i64 a2)), (3, .ptr 0 0 0), (7, .d (.int .i64 (k0 : Int)))] [[.cells [.d (.bool a0.v), .d (.str a0.name), .d (.slice 3 (Ty.Ds a0.args))]]] := G_sequentref01_count.2 _ _ e _ _ _ rfl

theorem P_sequentref01_Great {a0 : Ty} {r : Bool} (e : sequentref01_Great a0 = some r) : Pure Try.prog 103 [(Ty.D a0)] (.bool r) := by
  unfold sequentref01_Great at e
  refine pure_of_awp (js := []) T_ok Try.func103 rfl (by decide +kernel) rfl ?_; (conv => whnf)
  obtain ⟨v1, qv1, e⟩ := bnd e
  refine said_pure (P_sequentref01_count qv1) rfl ?_; (conv => whnf)
  refine test.dec ?_; (conv => whnf)
  obtain rfl := sm e
  repeat' first | exact rfl | exact trivial | refine ⟨?_, ?_⟩

def M_sequentref02_count (p : (Tm × Int × Int)) (r : Int) : Prop := ∀ (a0 : Tm) (a1 : Int) (a2 : Int), (a0, a1, a2) = p → Pure Try.prog 52 [(Tm.D a0), (.int .i64 a1), (.int .i64 a2)] (.int .i64 r)
def M_sequentref02_count_l0 (p : ((List Tm) × Int × Int)) (r : Int) : Prop := ∀ (rest0 : (List Tm)) (t1_0 : Int) (a2 : Int), (rest0, t1_0, a2) = p → ∀ (a0 : Tm) (k0 : Nat) (hd0 : rest0 = a0.sub.drop k0), RunsL Try.prog Try.f52.ntmps [] (codeAt [1, 1, 1, 0, 1, 0, 0] (bodyOf Try.f52)) (qAt T Try.prog Try.f52.ntmps [] [] [1, 1, 1, 0, 1, 0] (bodyOf Try.f52) (EndPure T Try.f52.results.toList (.int .i64 r))) [(1, .d (.int .i64 t1_0)), (2, .d (.int .i64 a2)), (3, .ptr 0 0 0), (7, .d (.int .i64 (k0 : Int)))] [[.cells [.d (.int .u8 a0.kind), .d (.str a0.name), .d (.bool a0.ty.v), .d (.str a0.ty.name), .d (.slice 3 (Ty.Ds a0.ty.args)), .d (.int .i64 a0.index), .d (.slice 7 (Tm.Ds a0.sub))]]]
theorem G_sequentref02_count : (∀ p r, sequentref02_count' p = some r → M_sequentref02_count p r) ∧
    (∀ p r, sequentref02_count_l0' p = some r → M_sequentref02_count_l0 p r) := by
  refine sequentref02_count'.mutual_partial_correctness M_sequentref02_count M_sequentref02_count_l0 ?_ ?_
  · intro f_sequentref02_count_l0 ih_sequentref02_count_l0 p r e a0 a1 a2 hp
    subst hp
    refine pure_of_awp (js := []) T_ok Try.func52 rfl (by decide +kernel) rfl ?_; (conv => whnf)
    refine ⟨⟨fun h1 => ?_, fun h1 => ?_⟩⟩
    · replace e := ifp h1 e; (conv => whnf)
      obtain rfl := sm e
      repeat' first | exact rfl | exact trivial | refine ⟨?_, ?_⟩
    · replace e := ifn h1 e; (conv => whnf)
      obtain ⟨v2, qv2, e⟩ := bnd e
      refine said_pure (P_sequentref01_Great qv2) rfl ?_; (conv => whnf)
      refine brK.split (fun hb3 => ?_) (fun hb3 => ?_)
      · replace e := ifpb hb3 e; (conv => whnf)
        obtain rfl := sm e
        repeat' first | exact rfl | exact trivial | refine ⟨?_, ?_⟩
      · replace e := ifnb hb3 e; (conv => whnf)
        obtain ⟨v4, qv4, e⟩ := bnd e
        refine ⟨v4, sm qv4, ?_⟩; (conv => whnf)
        obtain ⟨v5, qv5, e⟩ := bnd e
        refine ⟨by decide, v5, sm qv5, ?_⟩; (conv => whnf)
        obtain ⟨v6, qv6, e⟩ := bnd e
        refine ⟨v6, sm qv6, ?_⟩; (conv => whnf)
        refine RunsL.runs (RunsL.weak ((ih_sequentref02_count_l0 _ _ e _ _ _ rfl) a0 0 (by simp)) ?_)
        repeat' first | exact wk.of_eq rfl | exact wk.pure rfl | exact wk.un _ | exact rfl | exact trivial | refine ⟨?_, ?_⟩ | (refine wk.of_eq ?_; (conv => lhs; whnf); (simp [Tm.Ds_all, Ty.Ds_all, Tm.D, Ty.D, listAll] <;> (repeat' first | rfl | apply And.intro)); done) | (refine wk.pure ?_; (conv => lhs; whnf); (simp [Tm.Ds_all, Ty.Ds_all, Tm.D, Ty.D, listAll] <;> (repeat' first | rfl | apply And.intro)); done) | ((simp [Tm.Ds_all, Ty.Ds_all, Tm.D, Ty.D, listAll] <;> (repeat' first | rfl | apply And.intro)); done)
  · intro f_sequentref02_count f_sequentref02_count_l0 ih_sequentref02_count ih_sequentref02_count_l0 p r e rest0 t1_0 a2 hp
    subst hp
    intro a0 k0 hd0
    refine RunsL.len_cell 0 6 rfl rfl rfl fun hlenk0 => ?_
    refine RunsL.of_awp (js := []) T_ok ?_; (conv => whnf)
    have hls := Tm.Ds_len a0.sub
    cases rest0 with
    | nil =>
      have hk := drop_nil hd0
      refine ⟨⟨fun h => absurd h (by omega), fun _ => ?_⟩⟩; (conv => whnf)
      obtain rfl := sm e
      repeat' first | exact rfl | exact trivial | refine ⟨?_, ?_⟩
    | cons v7 rest0 =>
      obtain ⟨hxv7, hd0, hltv7⟩ := drop_head hd0
      refine ⟨⟨fun _ => ?_, fun h => absurd (by omega) h⟩⟩; (conv => whnf)
      refine ⟨⟨fun h8 => ?_, fun h8 => ?_⟩⟩
      · replace e := ifp h8 e; (conv => whnf)
        refine ⟨k0, _, rfl, Tm.Ds_get hxv7, ?_⟩; (conv => whnf)
        refine ⟨Tm.Ds_fit _ rfl rfl, ?_⟩; (conv => whnf)
        obtain ⟨v9, qv9, e⟩ := bnd e
        refine ⟨v9, sm qv9, ?_⟩; (conv => whnf)
        obtain ⟨v10, qv10, e⟩ := bnd e
        refine said_pure (ih_sequentref02_count _ _ qv10 _ _ _ rfl) rfl ?_; (conv => whnf)
        refine ⟨((k0 + 1 : Nat) : Int), wrap64e (by omega) (by omega) (by omega), ?_⟩; (conv => whnf)
        refine (RunsL.weak ((ih_sequentref02_count_l0 _ _ e _ _ _ rfl) a0 (k0 + 1) hd0) ?_)
        repeat' first | exact wk.of_eq rfl | exact wk.pure rfl | exact wk.un _ | exact rfl | exact trivial | refine ⟨?_, ?_⟩ | (refine wk.of_eq ?_; (conv => lhs; whnf); (simp [Tm.Ds_all, Ty.Ds_all, Tm.D, Ty.D, listAll] <;> (repeat' first | rfl | apply And.intro)); done) | (refine wk.pure ?_; (conv => lhs; whnf); (simp [Tm.Ds_all, Ty.Ds_all, Tm.D, Ty.D, listAll] <;> (repeat' first | rfl | apply And.intro)); done) | ((simp [Tm.Ds_all, Ty.Ds_all, Tm.D, Ty.D, listAll] <;> (repeat' first | rfl | apply And.intro)); done)
      · replace e := ifn h8 e; (conv => whnf)
        obtain rfl := sm e
        repeat' first | exact rfl | exact trivial | refine ⟨?_, ?_⟩
theorem P_sequentref02_count {a0 : Tm} {a1 : Int} {a2 : Int} {r : Int} (e : sequentref02_count a0 a1 a2 = some r) : Pure Try.prog 52 [(Tm.D a0), (.int .i64 a1), (.int .i64 a2)] (.int .i64 r) := G_sequentref02_count.1 _ _ e _ _ _ rfl
theorem P_sequentref02_count_l0 {rest0 : (List Tm)} {t1_0 : Int} {a2 : Int} {r : Int} (e : sequentref02_count_l0 rest0 t1_0 a2 = some r) : ∀ (a0 : Tm) (k0 : Nat) (hd0 : rest0 = a0.sub.drop k0), RunsL Try.prog Try.f52.ntmps [] (codeAt [1, 1, 1, 0, 1, 0, 0] (bodyOf Try.f52)) (qAt T Try.prog Try.f52.ntmps [] [] [1, 1, 1, 0, 1, 0] (bodyOf Try.f52) (EndPure T Try.f52.results.toList (.int .i64 r))) [(1, .d (.int .i64 t1_0)), (2, .d (.int .i64 a2)), (3, .ptr 0 0 0), (7, .d (.int .i64 (k0 : Int)))] [[.cells [.d (.int .u8 a0.kind), .d (.str a0.name), .d (.bool a0.ty.v), .d (.str a0.ty.name), .d (.slice 3 (Ty.Ds a0.ty.args)), .d (.int .i64 a0.index), .d (.slice 7 (Tm.Ds a0.sub))]]] := G_sequentref02_count.2 _ _ e _ _ _ rfl

theorem P_sequentref02_Great {a0 : Tm} {r : Bool} (e : sequentref02_Great a0 = some r) : Pure Try.prog 15 [(Tm.D a0)] (.bool r) := by
  unfold sequentref02_Great at e
  refine pure_of_awp (js := []) T_ok Try.func15 rfl (by decide +kernel) rfl ?_; (conv => whnf)
  obtain ⟨v1, qv1, e⟩ := bnd e
  refine said_pure (P_sequentref02_count qv1) rfl ?_; (conv => whnf)
  refine ⟨⟨fun h2 => ?_, fun h2 => ?_⟩⟩
  · replace e := ifp h2 e; (conv => whnf)
    obtain rfl := sm e
    repeat' first | exact rfl | exact trivial | refine ⟨?_, ?_⟩
  · replace e := ifn h2 e; (conv => whnf)
    obtain ⟨v3, qv3, e⟩ := bnd e
    refine said_pure (P_sequentref02_count qv3) rfl ?_; (conv => whnf)
    refine ⟨⟨fun h4 => ?_, fun h4 => ?_⟩⟩
    · replace e := ifp h4 e; (conv => whnf)
      obtain rfl := sm e
      repeat' first | exact rfl | exact trivial | refine ⟨?_, ?_⟩
    · replace e := ifn h4 e; (conv => whnf)
      obtain ⟨v5, qv5, e⟩ := bnd e
      refine said_pure (P_sequentref02_Small qv5) rfl ?_; (conv => whnf)
      obtain rfl := sm e
      repeat' first | exact rfl | exact trivial | refine ⟨?_, ?_⟩

def M_sequentref01_Compare (p : (Ty × Ty)) (r : Int) : Prop := ∀ (a0 : Ty) (a1 : Ty), (a0, a1) = p → Pure Try.prog 111 [(Ty.D a0), (Ty.D a1)] (.int .i64 r)
def M_sequentref01_Compare_l0 (p : ((List Ty) × Nat × Ty)) (r : Int) : Prop := ∀ (rest0 : (List Ty)) (k0 : Nat) (a1 : Ty), (rest0, k0, a1) = p → ∀ (a0 : Ty) (hd0 : rest0 = a0.args.drop k0), RunsL Try.prog Try.f111.ntmps [] (codeAt [1, 1, 1, 1, 0, 1, 0, 0] (bodyOf Try.f111)) (qAt T Try.prog Try.f111.ntmps [] [] [1, 1, 1, 1, 0, 1, 0] (bodyOf Try.f111) (EndPure T Try.f111.results.toList (.int .i64 r))) [(2, .ptr 0 0 0), (3, .ptr 0 1 0), (5, .d (.int .i64 (k0 : Int)))] [[.cells [.d (.bool a0.v), .d (.str a0.name), .d (.slice 3 (Ty.Ds a0.args))], .cells [.d (.bool a1.v), .d (.str a1.name), .d (.slice 3 (Ty.Ds a1.args))]]]
theorem G_sequentref01_Compare : (∀ p r, sequentref01_Compare' p = some r → M_sequentref01_Compare p r) ∧
    (∀ p r, sequentref01_Compare_l0' p = some r → M_sequentref01_Compare_l0 p r) := by
  refine sequentref01_Compare'.mutual_partial_correctness M_sequentref01_Compare M_sequentref01_Compare_l0 ?_ ?_
  · intro f_sequentref01_Compare_l0 ih_sequentref01_Compare_l0 p r e a0 a1 hp
    subst hp
    refine pure_of_awp (js := []) T_ok Try.func111 rfl (by decide +kernel) rfl ?_; (conv => whnf)
    refine ⟨⟨fun h1 => ?_, fun h1 => ?_⟩⟩
    · replace e := ifp h1 e; (conv => whnf)
      refine brK.split (fun hb2 => ?_) (fun hb2 => ?_)
      · replace e := ifpb hb2 e; (conv => whnf)
        obtain rfl := sm e
        repeat' first | exact rfl | exact trivial | refine ⟨?_, ?_⟩
      · replace e := ifnb hb2 e; (conv => whnf)
        obtain rfl := sm e
        repeat' first | exact rfl | exact trivial | refine ⟨?_, ?_⟩
    · replace e := ifn h1 e; (conv => whnf)
      refine ⟨⟨fun h3 => ?_, fun h3 => ?_⟩⟩
      · replace e := ifp h3 e; (conv => whnf)
        refine ⟨⟨fun h4 => ?_, fun h4 => ?_⟩⟩
        · replace e := ifp h4 e; (conv => whnf)
          obtain rfl := sm e
          repeat' first | exact rfl | exact trivial | refine ⟨?_, ?_⟩
        · replace e := ifn h4 e; (conv => whnf)
          obtain rfl := sm e
          repeat' first | exact rfl | exact trivial | refine ⟨?_, ?_⟩
      · replace e := ifn h3 e; (conv => whnf)
        refine ⟨⟨fun h5 => ?_, fun h5 => ?_⟩⟩
        · replace e := ifp (by first | exact h5 | simpa [Ty.Ds_all, Ty.D, listAll] using h5) e; (conv => whnf)
          refine ⟨⟨fun h6 => ?_, fun h6 => ?_⟩⟩
          · replace e := ifp (by first | exact h6 | simpa [Ty.Ds_all, Ty.D, listAll] using h6) e; (conv => whnf)
            obtain rfl := sm e
            repeat' first | exact rfl | exact trivial | refine ⟨?_, ?_⟩
          · replace e := ifn (by first | exact h6 | simpa [Ty.Ds_all, Ty.D, listAll] using h6) e; (conv => whnf)
            obtain rfl := sm e
            repeat' first | exact rfl | exact trivial | refine ⟨?_, ?_⟩
        · replace e := ifn (by first | exact h5 | simpa [Ty.Ds_all, Ty.D, listAll] using h5) e; (conv => whnf)
          refine RunsL.runs (RunsL.weak ((ih_sequentref01_Compare_l0 _ _ e _ _ _ rfl) a0 (by simp)) ?_)
          repeat' first | exact wk.of_eq rfl | exact wk.pure rfl | exact wk.un _ | exact rfl | exact trivial | refine ⟨?_, ?_⟩ | (refine wk.of_eq ?_; (conv => lhs; whnf); (simp [Ty.Ds_all, Ty.D, listAll] <;> (repeat' first | rfl | apply And.intro)); done) | (refine wk.pure ?_; (conv => lhs; whnf); (simp [Ty.Ds_all, Ty.D, listAll] <;> (repeat' first | rfl | apply And.intro)); done) | ((simp [Ty.Ds_all, Ty.D, listAll] <;> (repeat' first | rfl | apply And.intro)); done)
  · intro f_sequentref01_Compare f_sequentref01_Compare_l0 ih_sequentref01_Compare ih_sequentref01_Compare_l0 p r e rest0 k0 a1 hp
    subst hp
    intro a0 hd0
    refine RunsL.len_cell 0 2 rfl rfl rfl fun hlenk0 => ?_
    refine RunsL.of_awp (js := []) T_ok ?_; (conv => whnf)
    have hls := Ty.Ds_len a0.args
    cases rest0 with
    | nil =>
      have hk := drop_nil hd0
      refine ⟨⟨fun h => absurd h (by omega), fun _ => ?_⟩⟩; (conv => whnf)
      obtain rfl := sm e
      repeat' first | exact rfl | exact trivial | refine ⟨?_, ?_⟩
    | cons v7 rest0 =>
      obtain ⟨hxv7, hd0, hltv7⟩ := drop_head hd0
      refine ⟨⟨fun _ => ?_, fun h => absurd (by omega) h⟩⟩; (conv => whnf)
      refine draw_rule T_ok mixed sequentref01_Compare_pl16 (by decide +kernel) ?_; (conv => whnf)
      refine ⟨k0, _, rfl, Ty.Ds_get hxv7, ?_⟩; (conv => whnf)
      refine ⟨Ty.Ds_fit _ rfl rfl, ?_⟩; (conv => whnf)
      obtain ⟨v8, qv8, e⟩ := bnd e
      obtain ⟨qv8k, qv8a, qv8b⟩ := geti_some qv8
      refine ⟨qv8k, _, qv8a, Ty.Ds_get qv8b, ?_⟩; (conv => whnf)
      refine ⟨Ty.Ds_fit _ rfl rfl, ?_⟩; (conv => whnf)
      obtain ⟨v9, qv9, e⟩ := bnd e
      refine said_pure (ih_sequentref01_Compare _ _ qv9 _ _ rfl) rfl ⟨rfl, ?_⟩; (conv => whnf)
      refine ⟨⟨fun h10 => ?_, fun h10 => ?_⟩⟩
      · replace e := ifp h10 e; (conv => whnf)
        obtain rfl := sm e
        repeat' first | exact rfl | exact trivial | refine ⟨?_, ?_⟩
      · replace e := ifn h10 e; (conv => whnf)
        refine ⟨((k0 + 1 : Nat) : Int), wrap64e (by omega) (by omega) (by omega), ?_⟩; (conv => whnf)
        refine (RunsL.weak ((ih_sequentref01_Compare_l0 _ _ e _ _ _ rfl) a0 hd0) ?_)
        repeat' first | exact wk.of_eq rfl | exact wk.pure rfl | exact wk.un _ | exact rfl | exact trivial | refine ⟨?_, ?_⟩ | (refine wk.of_eq ?_; (conv => lhs; whnf); (simp [Ty.Ds_all, Ty.D, listAll] <;> (repeat' first | rfl | apply And.intro)); done) | (refine wk.pure ?_; (conv => lhs; whnf); (simp [Ty.Ds_all, Ty.D, listAll] <;> (repeat' first | rfl | apply And.intro)); done) | ((simp [Ty.Ds_all, Ty.D, listAll] <;> (repeat' first | rfl | apply And.intro)); done)
theorem P_sequentref01_Compare {a0 : Ty} {a1 : Ty} {r : Int} (e : sequentref01_Compare a0 a1 = some r) : Pure Try.prog 111 [(Ty.D a0), (Ty.D a1)] (.int .i64 r) := G_sequentref01_Compare.1 _ _ e _ _ rfl
theorem P_sequentref01_Compare_l0 {rest0 : (List Ty)} {k0 : Nat} {a1 : Ty} {r : Int} (e : sequentref01_Compare_l0 rest0 k0 a1 = some r) : ∀ (a0 : Ty) (hd0 : rest0 = a0.args.drop k0), RunsL Try.prog Try.f111.ntmps [] (codeAt [1, 1, 1, 1, 0, 1, 0, 0] (bodyOf Try.f111)) (qAt T Try.prog Try.f111.ntmps [] [] [1, 1, 1, 1, 0, 1, 0] (bodyOf Try.f111) (EndPure T Try.f111.results.toList (.int .i64 r))) [(2, .ptr 0 0 0), (3, .ptr 0 1 0), (5, .d (.int .i64 (k0 : Int)))] [[.cells [.d (.bool a0.v), .d (.str a0.name), .d (.slice 3 (Ty.Ds a0.args))], .cells [.d (.bool a1.v), .d (.str a1.name), .d (.slice 3 (Ty.Ds a1.args))]]] := G_sequentref01_Compare.2 _ _ e _ _ _ rfl

theorem P_sequentref02_sign {a0 : Bool} {a1 : Bool} {r : Int} (e : sequentref02_sign a0 a1 = some r) : Pure Try.prog 110 [(.bool a0), (.bool a1)] (.int .i64 r) := by
  unfold sequentref02_sign at e
  refine pure_of_awp (js := []) T_ok Try.func110 rfl (by decide +kernel) rfl ?_; (conv => whnf)
  refine brK.split (fun hb1 => ?_) (fun hb1 => ?_)
  · replace e := ifpb hb1 e; (conv => whnf)
    obtain rfl := sm e
    repeat' first | exact rfl | exact trivial | refine ⟨?_, ?_⟩
  · replace e := ifnb hb1 e; (conv => whnf)
    refine brK.split (fun hb2 => ?_) (fun hb2 => ?_)
    · replace e := ifpb hb2 e; (conv => whnf)
      obtain rfl := sm e
      repeat' first | exact rfl | exact trivial | refine ⟨?_, ?_⟩
    · replace e := ifnb hb2 e; (conv => whnf)
      obtain rfl := sm e
      repeat' first | exact rfl | exact trivial | refine ⟨?_, ?_⟩

def M_sequentref02_Compare (p : (Tm × Tm)) (r : Int) : Prop := ∀ (a0 : Tm) (a1 : Tm), (a0, a1) = p → Pure Try.prog 60 [(Tm.D a0), (Tm.D a1)] (.int .i64 r)
def M_sequentref02_Compare_j0 (p : (Int × Tm × Tm)) (r : Int) : Prop := ∀ (t5_1 : Int) (a0 : Tm) (a1 : Tm), (t5_1, a0, a1) = p → Runs Try.prog Try.f60.ntmps [] (codeAt [1, 1, 1, 0, 0] (bodyOf Try.f60)) (qAt T Try.prog Try.f60.ntmps [] [4, 6, 8, 10] [1, 1, 1, 0, 0] (bodyOf Try.f60) (EndPure T Try.f60.results.toList (.int .i64 r))) [(2, .ptr 0 0 0), (3, .ptr 0 1 0), (5, .d (.int .i64 t5_1))] [[.cells [.d (.int .u8 a0.kind), .d (.str a0.name), .d (.bool a0.ty.v), .d (.str a0.ty.name), .d (.slice 3 (Ty.Ds a0.ty.args)), .d (.int .i64 a0.index), .d (.slice 7 (Tm.Ds a0.sub))], .cells [.d (.int .u8 a1.kind), .d (.str a1.name), .d (.bool a1.ty.v), .d (.str a1.ty.name), .d (.slice 3 (Ty.Ds a1.ty.args)), .d (.int .i64 a1.index), .d (.slice 7 (Tm.Ds a1.sub))]]]
def M_sequentref02_Compare_j1 (p : (Int × Tm × Tm)) (r : Int) : Prop := ∀ (t5_2 : Int) (a0 : Tm) (a1 : Tm), (t5_2, a0, a1) = p → Runs Try.prog Try.f60.ntmps [] (codeAt [1, 1, 1, 1, 0, 0] (bodyOf Try.f60)) (qAt T Try.prog Try.f60.ntmps [] [4, 6, 8, 10] [1, 1, 1, 1, 0, 0] (bodyOf Try.f60) (EndPure T Try.f60.results.toList (.int .i64 r))) [(2, .ptr 0 0 0), (3, .ptr 0 1 0), (5, .d (.int .i64 t5_2))] [[.cells [.d (.int .u8 a0.kind), .d (.str a0.name), .d (.bool a0.ty.v), .d (.str a0.ty.name), .d (.slice 3 (Ty.Ds a0.ty.args)), .d (.int .i64 a0.index), .d (.slice 7 (Tm.Ds a0.sub))], .cells [.d (.int .u8 a1.kind), .d (.str a1.name), .d (.bool a1.ty.v), .d (.str a1.ty.name), .d (.slice 3 (Ty.Ds a1.ty.args)), .d (.int .i64 a1.index), .d (.slice 7 (Tm.Ds a1.sub))]]]
def M_sequentref02_Compare_j2 (p : (Int × Tm × Tm)) (r : Int) : Prop := ∀ (t5_3 : Int) (a0 : Tm) (a1 : Tm), (t5_3, a0, a1) = p → Runs Try.prog Try.f60.ntmps [] (codeAt [1, 1, 1, 1, 1, 0, 0] (bodyOf Try.f60)) (qAt T Try.prog Try.f60.ntmps [] [4, 6, 8, 10] [1, 1, 1, 1, 1, 0, 0] (bodyOf Try.f60) (EndPure T Try.f60.results.toList (.int .i64 r))) [(2, .ptr 0 0 0), (3, .ptr 0 1 0), (5, .d (.int .i64 t5_3))] [[.cells [.d (.int .u8 a0.kind), .d (.str a0.name), .d (.bool a0.ty.v), .d (.str a0.ty.name), .d (.slice 3 (Ty.Ds a0.ty.args)), .d (.int .i64 a0.index), .d (.slice 7 (Tm.Ds a0.sub))], .cells [.d (.int .u8 a1.kind), .d (.str a1.name), .d (.bool a1.ty.v), .d (.str a1.ty.name), .d (.slice 3 (Ty.Ds a1.ty.args)), .d (.int .i64 a1.index), .d (.slice 7 (Tm.Ds a1.sub))]]]
def M_sequentref02_Compare_j3 (p : (Int × Tm × Tm)) (r : Int) : Prop := ∀ (t5_4 : Int) (a0 : Tm) (a1 : Tm), (t5_4, a0, a1) = p → Runs Try.prog Try.f60.ntmps [] (codeAt [1, 1, 1, 1, 1, 1, 0, 0] (bodyOf Try.f60)) (qAt T Try.prog Try.f60.ntmps [] [4, 6, 8, 10] [1, 1, 1, 1, 1, 1, 0, 0] (bodyOf Try.f60) (EndPure T Try.f60.results.toList (.int .i64 r))) [(2, .ptr 0 0 0), (3, .ptr 0 1 0), (5, .d (.int .i64 t5_4))] [[.cells [.d (.int .u8 a0.kind), .d (.str a0.name), .d (.bool a0.ty.v), .d (.str a0.ty.name), .d (.slice 3 (Ty.Ds a0.ty.args)), .d (.int .i64 a0.index), .d (.slice 7 (Tm.Ds a0.sub))], .cells [.d (.int .u8 a1.kind), .d (.str a1.name), .d (.bool a1.ty.v), .d (.str a1.ty.name), .d (.slice 3 (Ty.Ds a1.ty.args)), .d (.int .i64 a1.index), .d (.slice 7 (Tm.Ds a1.sub))]]]
def M_sequentref02_Compare_l0 (p : (Int × Int × Tm × Tm)) (r : Int) : Prop := ∀ (t5_0 : Int) (t6_0 : Int) (a0 : Tm) (a1 : Tm), (t5_0, t6_0, a0, a1) = p → RunsL Try.prog Try.f60.ntmps [] (codeAt [1, 1, 1, 1, 1, 1, 0, 1, 0, 0] (bodyOf Try.f60)) (qAt T Try.prog Try.f60.ntmps [] [4, 6, 8, 10] [1, 1, 1, 1, 1, 1, 0, 1, 0] (bodyOf Try.f60) (EndPure T Try.f60.results.toList (.int .i64 r))) [(2, .ptr 0 0 0), (3, .ptr 0 1 0), (5, .d (.int .i64 t5_0)), (6, .d (.int .i64 t6_0))] [[.cells [.d (.int .u8 a0.kind), .d (.str a0.name), .d (.bool a0.ty.v), .d (.str a0.ty.name), .d (.slice 3 (Ty.Ds a0.ty.args)), .d (.int .i64 a0.index), .d (.slice 7 (Tm.Ds a0.sub))], .cells [.d (.int .u8 a1.kind), .d (.str a1.name), .d (.bool a1.ty.v), .d (.str a1.ty.name), .d (.slice 3 (Ty.Ds a1.ty.args)), .d (.int .i64 a1.index), .d (.slice 7 (Tm.Ds a1.sub))]]]
theorem G_sequentref02_Compare : (∀ p r, sequentref02_Compare' p = some r → M_sequentref02_Compare p r) ∧
    (∀ p r, sequentref02_Compare_j0' p = some r → M_sequentref02_Compare_j0 p r) ∧
    (∀ p r, sequentref02_Compare_j1' p = some r → M_sequentref02_Compare_j1 p r) ∧
    (∀ p r, sequentref02_Compare_j2' p = some r → M_sequentref02_Compare_j2 p r) ∧
    (∀ p r, sequentref02_Compare_j3' p = some r → M_sequentref02_Compare_j3 p r) ∧
    (∀ p r, sequentref02_Compare_l0' p = some r → M_sequentref02_Compare_l0 p r) := by
  refine sequentref02_Compare'.mutual_partial_correctness M_sequentref02_Compare M_sequentref02_Compare_j0 M_sequentref02_Compare_j1 M_sequentref02_Compare_j2 M_sequentref02_Compare_j3 M_sequentref02_Compare_l0 ?_ ?_ ?_ ?_ ?_ ?_
  · intro f_sequentref02_Compare_j0 ih_sequentref02_Compare_j0 p r e a0 a1 hp
    subst hp
    refine pure_of_awp (js := [4, 6, 8, 10]) T_ok Try.func60 rfl (by decide +kernel) rfl ?_; (conv => whnf)
    refine test.dec ?_; (conv => whnf)
    refine test.dec ?_; (conv => whnf)
    obtain ⟨v1, qv1, e⟩ := bnd e
    refine said_pure (P_sequentref02_sign qv1) rfl ?_; (conv => whnf)
    refine ⟨⟨fun h2 => ?_, fun h2 => ?_⟩⟩
    · replace e := ifp h2 e; (conv => whnf)
      refine ⟨⟨fun h3 => ?_, fun h3 => ?_⟩⟩
      · replace e := ifp h3 e; (conv => whnf)
        refine test.dec ?_; (conv => whnf)
        refine test.dec ?_; (conv => whnf)
        obtain ⟨v4, qv4, e⟩ := bnd e
        refine said_pure (P_sequentref02_sign qv4) rfl ?_; (conv => whnf)
        refine Runs.weak (ih_sequentref02_Compare_j0 _ _ e _ _ _ rfl) ?_
        repeat' first | exact wk.of_eq rfl | exact wk.pure rfl | exact wk.un _ | exact rfl | exact trivial | refine ⟨?_, ?_⟩ | (refine wk.of_eq ?_; (conv => lhs; whnf); (simp [Tm.Ds_all, Ty.Ds_all, Tm.D, Ty.D, listAll] <;> (repeat' first | rfl | apply And.intro)); done) | (refine wk.pure ?_; (conv => lhs; whnf); (simp [Tm.Ds_all, Ty.Ds_all, Tm.D, Ty.D, listAll] <;> (repeat' first | rfl | apply And.intro)); done) | ((simp [Tm.Ds_all, Ty.Ds_all, Tm.D, Ty.D, listAll] <;> (repeat' first | rfl | apply And.intro)); done)
      · replace e := ifn h3 e; (conv => whnf)
        refine Runs.weak (ih_sequentref02_Compare_j0 _ _ e _ _ _ rfl) ?_
        repeat' first | exact wk.of_eq rfl | exact wk.pure rfl | exact wk.un _ | exact rfl | exact trivial | refine ⟨?_, ?_⟩ | (refine wk.of_eq ?_; (conv => lhs; whnf); (simp [Tm.Ds_all, Ty.Ds_all, Tm.D, Ty.D, listAll] <;> (repeat' first | rfl | apply And.intro)); done) | (refine wk.pure ?_; (conv => lhs; whnf); (simp [Tm.Ds_all, Ty.Ds_all, Tm.D, Ty.D, listAll] <;> (repeat' first | rfl | apply And.intro)); done) | ((simp [Tm.Ds_all, Ty.Ds_all, Tm.D, Ty.D, listAll] <;> (repeat' first | rfl | apply And.intro)); done)
    · replace e := ifn h2 e; (conv => whnf)
      refine Runs.weak (ih_sequentref02_Compare_j0 _ _ e _ _ _ rfl) ?_
      repeat' first | exact wk.of_eq rfl | exact wk.pure rfl | exact wk.un _ | exact rfl | exact trivial | refine ⟨?_, ?_⟩ | (refine wk.of_eq ?_; (conv => lhs; whnf); (simp [Tm.Ds_all, Ty.Ds_all, Tm.D, Ty.D, listAll] <;> (repeat' first | rfl | apply And.intro)); done) | (refine wk.pure ?_; (conv => lhs; whnf); (simp [Tm.Ds_all, Ty.Ds_all, Tm.D, Ty.D, listAll] <;> (repeat' first | rfl | apply And.intro)); done) | ((simp [Tm.Ds_all, Ty.Ds_all, Tm.D, Ty.D, listAll] <;> (repeat' first | rfl | apply And.intro)); done)
  · intro f_sequentref02_Compare_j1 ih_sequentref02_Compare_j1 p r e t5_1 a0 a1 hp
    subst hp
    refine Runs.enter T_ok ?_; (conv => whnf)
    refine ⟨⟨fun h5 => ?_, fun h5 => ?_⟩⟩
    · replace e := ifp h5 e; (conv => whnf)
      obtain ⟨v6, qv6, e⟩ := bnd e
      refine said_pure (P_sequentref01_Compare qv6) rfl ?_; (conv => whnf)
      refine Runs.weak (ih_sequentref02_Compare_j1 _ _ e _ _ _ rfl) ?_
      repeat' first | exact wk.of_eq rfl | exact wk.pure rfl | exact wk.un _ | exact rfl | exact trivial | refine ⟨?_, ?_⟩ | (refine wk.of_eq ?_; (conv => lhs; whnf); (simp [Tm.Ds_all, Ty.Ds_all, Tm.D, Ty.D, listAll] <;> (repeat' first | rfl | apply And.intro)); done) | (refine wk.pure ?_; (conv => lhs; whnf); (simp [Tm.Ds_all, Ty.Ds_all, Tm.D, Ty.D, listAll] <;> (repeat' first | rfl | apply And.intro)); done) | ((simp [Tm.Ds_all, Ty.Ds_all, Tm.D, Ty.D, listAll] <;> (repeat' first | rfl | apply And.intro)); done)
    · replace e := ifn h5 e; (conv => whnf)
      refine Runs.weak (ih_sequentref02_Compare_j1 _ _ e _ _ _ rfl) ?_
      repeat' first | exact wk.of_eq rfl | exact wk.pure rfl | exact wk.un _ | exact rfl | exact trivial | refine ⟨?_, ?_⟩ | (refine wk.of_eq ?_; (conv => lhs; whnf); (simp [Tm.Ds_all, Ty.Ds_all, Tm.D, Ty.D, listAll] <;> (repeat' first | rfl | apply And.intro)); done) | (refine wk.pure ?_; (conv => lhs; whnf); (simp [Tm.Ds_all, Ty.Ds_all, Tm.D, Ty.D, listAll] <;> (repeat' first | rfl | apply And.intro)); done) | ((simp [Tm.Ds_all, Ty.Ds_all, Tm.D, Ty.D, listAll] <;> (repeat' first | rfl | apply And.intro)); done)
  · intro f_sequentref02_Compare_j2 ih_sequentref02_Compare_j2 p r e t5_2 a0 a1 hp
    subst hp
    refine Runs.enter T_ok ?_; (conv => whnf)
    refine ⟨⟨fun h7 => ?_, fun h7 => ?_⟩⟩
    · replace e := ifp h7 e; (conv => whnf)
      refine test.dec ?_; (conv => whnf)
      refine test.dec ?_; (conv => whnf)
      obtain ⟨v8, qv8, e⟩ := bnd e
      refine said_pure (P_sequentref02_sign qv8) rfl ?_; (conv => whnf)
      refine Runs.weak (ih_sequentref02_Compare_j2 _ _ e _ _ _ rfl) ?_
      repeat' first | exact wk.of_eq rfl | exact wk.pure rfl | exact wk.un _ | exact rfl | exact trivial | refine ⟨?_, ?_⟩ | (refine wk.of_eq ?_; (conv => lhs; whnf); (simp [Tm.Ds_all, Ty.Ds_all, Tm.D, Ty.D, listAll] <;> (repeat' first | rfl | apply And.intro)); done) | (refine wk.pure ?_; (conv => lhs; whnf); (simp [Tm.Ds_all, Ty.Ds_all, Tm.D, Ty.D, listAll] <;> (repeat' first | rfl | apply And.intro)); done) | ((simp [Tm.Ds_all, Ty.Ds_all, Tm.D, Ty.D, listAll] <;> (repeat' first | rfl | apply And.intro)); done)
    · replace e := ifn h7 e; (conv => whnf)
      refine Runs.weak (ih_sequentref02_Compare_j2 _ _ e _ _ _ rfl) ?_
      repeat' first | exact wk.of_eq rfl | exact wk.pure rfl | exact wk.un _ | exact rfl | exact trivial | refine ⟨?_, ?_⟩ | (refine wk.of_eq ?_; (conv => lhs; whnf); (simp [Tm.Ds_all, Ty.Ds_all, Tm.D, Ty.D, listAll] <;> (repeat' first | rfl | apply And.intro)); done) | (refine wk.pure ?_; (conv => lhs; whnf); (simp [Tm.Ds_all, Ty.Ds_all, Tm.D, Ty.D, listAll] <;> (repeat' first | rfl | apply And.intro)); done) | ((simp [Tm.Ds_all, Ty.Ds_all, Tm.D, Ty.D, listAll] <;> (repeat' first | rfl | apply And.intro)); done)
  · intro f_sequentref02_Compare_j3 ih_sequentref02_Compare_j3 p r e t5_3 a0 a1 hp
    subst hp
    refine Runs.enter T_ok ?_; (conv => whnf)
    refine ⟨⟨fun h9 => ?_, fun h9 => ?_⟩⟩
    · replace e := ifp h9 e; (conv => whnf)
      refine test.dec ?_; (conv => whnf)
      refine test.dec ?_; (conv => whnf)
      obtain ⟨v10, qv10, e⟩ := bnd e
      refine said_pure (P_sequentref02_sign qv10) rfl ?_; (conv => whnf)
      refine Runs.weak (ih_sequentref02_Compare_j3 _ _ e _ _ _ rfl) ?_
      repeat' first | exact wk.of_eq rfl | exact wk.pure rfl | exact wk.un _ | exact rfl | exact trivial | refine ⟨?_, ?_⟩ | (refine wk.of_eq ?_; (conv => lhs; whnf); (simp [Tm.Ds_all, Ty.Ds_all, Tm.D, Ty.D, listAll] <;> (repeat' first | rfl | apply And.intro)); done) | (refine wk.pure ?_; (conv => lhs; whnf); (simp [Tm.Ds_all, Ty.Ds_all, Tm.D, Ty.D, listAll] <;> (repeat' first | rfl | apply And.intro)); done) | ((simp [Tm.Ds_all, Ty.Ds_all, Tm.D, Ty.D, listAll] <;> (repeat' first | rfl | apply And.intro)); done)
    · replace e := ifn h9 e; (conv => whnf)
      refine Runs.weak (ih_sequentref02_Compare_j3 _ _ e _ _ _ rfl) ?_
      repeat' first | exact wk.of_eq rfl | exact wk.pure rfl | exact wk.un _ | exact rfl | exact trivial | refine ⟨?_, ?_⟩ | (refine wk.of_eq ?_; (conv => lhs; whnf); (simp [Tm.Ds_all, Ty.Ds_all, Tm.D, Ty.D, listAll] <;> (repeat' first | rfl | apply And.intro)); done) | (refine wk.pure ?_; (conv => lhs; whnf); (simp [Tm.Ds_all, Ty.Ds_all, Tm.D, Ty.D, listAll] <;> (repeat' first | rfl | apply And.intro)); done) | ((simp [Tm.Ds_all, Ty.Ds_all, Tm.D, Ty.D, listAll] <;> (repeat' first | rfl | apply And.intro)); done)
  · intro f_sequentref02_Compare_l0 ih_sequentref02_Compare_l0 p r e t5_4 a0 a1 hp
    subst hp
    refine Runs.enter T_ok ?_; (conv => whnf)
    refine RunsL.runs (RunsL.weak (ih_sequentref02_Compare_l0 _ _ e _ _ _ _ rfl) ?_)
    repeat' first | exact wk.of_eq rfl | exact wk.pure rfl | exact wk.un _ | exact rfl | exact trivial | refine ⟨?_, ?_⟩ | (refine wk.of_eq ?_; (conv => lhs; whnf); (simp [Tm.Ds_all, Ty.Ds_all, Tm.D, Ty.D, listAll] <;> (repeat' first | rfl | apply And.intro)); done) | (refine wk.pure ?_; (conv => lhs; whnf); (simp [Tm.Ds_all, Ty.Ds_all, Tm.D, Ty.D, listAll] <;> (repeat' first | rfl | apply And.intro)); done) | ((simp [Tm.Ds_all, Ty.Ds_all, Tm.D, Ty.D, listAll] <;> (repeat' first | rfl | apply And.intro)); done)
  · intro f_sequentref02_Compare f_sequentref02_Compare_l0 ih_sequentref02_Compare ih_sequentref02_Compare_l0 p r e t5_0 t6_0 a0 a1 hp
    subst hp
    refine RunsL.of_awp (js := [4, 6, 8, 10]) T_ok ?_; (conv => whnf)
    refine ⟨⟨fun h11 => ?_, fun h11 => ?_⟩⟩
    · replace e := ifp h11 e; (conv => whnf)
      refine ⟨⟨fun h12 => ?_, fun h12 => ?_⟩⟩
      · replace e := ifp (by first | exact h12 | simpa [Tm.Ds_all, Ty.Ds_all, Tm.D, Ty.D, listAll] using h12) e; (conv => whnf)
        refine draw_rule T_ok mixed sequentref02_Compare_pl13 (by decide +kernel) ?_; (conv => whnf)
        obtain ⟨v13, qv13, e⟩ := bnd e
        obtain ⟨qv13k, qv13a, qv13b⟩ := geti_some qv13
        refine ⟨qv13k, _, qv13a, Tm.Ds_get qv13b, ?_⟩; (conv => whnf)
        refine ⟨Tm.Ds_fit _ rfl rfl, ?_⟩; (conv => whnf)
        obtain ⟨v14, qv14, e⟩ := bnd e
        obtain ⟨qv14k, qv14a, qv14b⟩ := geti_some qv14
        refine ⟨qv14k, _, qv14a, Tm.Ds_get qv14b, ?_⟩; (conv => whnf)
        refine ⟨Tm.Ds_fit _ rfl rfl, ?_⟩; (conv => whnf)
        obtain ⟨v15, qv15, e⟩ := bnd e
        refine said_pure (ih_sequentref02_Compare _ _ qv15 _ _ rfl) rfl ⟨rfl, ?_⟩; (conv => whnf)
        obtain ⟨v16, qv16, e⟩ := bnd e
        refine ⟨v16, sm qv16, ?_⟩; (conv => whnf)
        refine (RunsL.weak (ih_sequentref02_Compare_l0 _ _ e _ _ _ _ rfl) ?_)
        repeat' first | exact wk.of_eq rfl | exact wk.pure rfl | exact wk.un _ | exact rfl | exact trivial | refine ⟨?_, ?_⟩ | (refine wk.of_eq ?_; (conv => lhs; whnf); (simp [Tm.Ds_all, Ty.Ds_all, Tm.D, Ty.D, listAll] <;> (repeat' first | rfl | apply And.intro)); done) | (refine wk.pure ?_; (conv => lhs; whnf); (simp [Tm.Ds_all, Ty.Ds_all, Tm.D, Ty.D, listAll] <;> (repeat' first | rfl | apply And.intro)); done) | ((simp [Tm.Ds_all, Ty.Ds_all, Tm.D, Ty.D, listAll] <;> (repeat' first | rfl | apply And.intro)); done)
      · replace e := ifn (by first | exact h12 | simpa [Tm.Ds_all, Ty.Ds_all, Tm.D, Ty.D, listAll] using h12) e; (conv => whnf)
        obtain rfl := sm e
        repeat' first | exact rfl | exact trivial | refine ⟨?_, ?_⟩
    · replace e := ifn h11 e; (conv => whnf)
      obtain rfl := sm e
      repeat' first | exact rfl | exact trivial | refine ⟨?_, ?_⟩
theorem P_sequentref02_Compare {a0 : Tm} {a1 : Tm} {r : Int} (e : sequentref02_Compare a0 a1 = some r) : Pure Try.prog 60 [(Tm.D a0), (Tm.D a1)] (.int .i64 r) := G_sequentref02_Compare.1 _ _ e _ _ rfl
theorem P_sequentref02_Compare_j0 {t5_1 : Int} {a0 : Tm} {a1 : Tm} {r : Int} (e : sequentref02_Compare_j0 t5_1 a0 a1 = some r) : Runs Try.prog Try.f60.ntmps [] (codeAt [1, 1, 1, 0, 0] (bodyOf Try.f60)) (qAt T Try.prog Try.f60.ntmps [] [4, 6, 8, 10] [1, 1, 1, 0, 0] (bodyOf Try.f60) (EndPure T Try.f60.results.toList (.int .i64 r))) [(2, .ptr 0 0 0), (3, .ptr 0 1 0), (5, .d (.int .i64 t5_1))] [[.cells [.d (.int .u8 a0.kind), .d (.str a0.name), .d (.bool a0.ty.v), .d (.str a0.ty.name), .d (.slice 3 (Ty.Ds a0.ty.args)), .d (.int .i64 a0.index), .d (.slice 7 (Tm.Ds a0.sub))], .cells [.d (.int .u8 a1.kind), .d (.str a1.name), .d (.bool a1.ty.v), .d (.str a1.ty.name), .d (.slice 3 (Ty.Ds a1.ty.args)), .d (.int .i64 a1.index), .d (.slice 7 (Tm.Ds a1.sub))]]] := G_sequentref02_Compare.2.1 _ _ e _ _ _ rfl
theorem P_sequentref02_Compare_j1 {t5_2 : Int} {a0 : Tm} {a1 : Tm} {r : Int} (e : sequentref02_Compare_j1 t5_2 a0 a1 = some r) : Runs Try.prog Try.f60.ntmps [] (codeAt [1, 1, 1, 1, 0, 0] (bodyOf Try.f60)) (qAt T Try.prog Try.f60.ntmps [] [4, 6, 8, 10] [1, 1, 1, 1, 0, 0] (bodyOf Try.f60) (EndPure T Try.f60.results.toList (.int .i64 r))) [(2, .ptr 0 0 0), (3, .ptr 0 1 0), (5, .d (.int .i64 t5_2))] [[.cells [.d (.int .u8 a0.kind), .d (.str a0.name), .d (.bool a0.ty.v), .d (.str a0.ty.name), .d (.slice 3 (Ty.Ds a0.ty.args)), .d (.int .i64 a0.index), .d (.slice 7 (Tm.Ds a0.sub))], .cells [.d (.int .u8 a1.kind), .d (.str a1.name), .d (.bool a1.ty.v), .d (.str a1.ty.name), .d (.slice 3 (Ty.Ds a1.ty.args)), .d (.int .i64 a1.index), .d (.slice 7 (Tm.Ds a1.sub))]]] := G_sequentref02_Compare.2.2.1 _ _ e _ _ _ rfl
theorem P_sequentref02_Compare_j2 {t5_3 : Int} {a0 : Tm} {a1 : Tm} {r : Int} (e : sequentref02_Compare_j2 t5_3 a0 a1 = some r) : Runs Try.prog Try.f60.ntmps [] (codeAt [1, 1, 1, 1, 1, 0, 0] (bodyOf Try.f60)) (qAt T Try.prog Try.f60.ntmps [] [4, 6, 8, 10] [1, 1, 1, 1, 1, 0, 0] (bodyOf Try.f60) (EndPure T Try.f60.results.toList (.int .i64 r))) [(2, .ptr 0 0 0), (3, .ptr 0 1 0), (5, .d (.int .i64 t5_3))] [[.cells [.d (.int .u8 a0.kind), .d (.str a0.name), .d (.bool a0.ty.v), .d (.str a0.ty.name), .d (.slice 3 (Ty.Ds a0.ty.args)), .d (.int .i64 a0.index), .d (.slice 7 (Tm.Ds a0.sub))], .cells [.d (.int .u8 a1.kind), .d (.str a1.name), .d (.bool a1.ty.v), .d (.str a1.ty.name), .d (.slice 3 (Ty.Ds a1.ty.args)), .d (.int .i64 a1.index), .d (.slice 7 (Tm.Ds a1.sub))]]] := G_sequentref02_Compare.2.2.2.1 _ _ e _ _ _ rfl
theorem P_sequentref02_Compare_j3 {t5_4 : Int} {a0 : Tm} {a1 : Tm} {r : Int} (e : sequentref02_Compare_j3 t5_4 a0 a1 = some r) : Runs Try.prog Try.f60.ntmps [] (codeAt [1, 1, 1, 1, 1, 1, 0, 0] (bodyOf Try.f60)) (qAt T Try.prog Try.f60.ntmps [] [4, 6, 8, 10] [1, 1, 1, 1, 1, 1, 0, 0] (bodyOf Try.f60) (EndPure T Try.f60.results.toList (.int .i64 r))) [(2, .ptr 0 0 0), (3, .ptr 0 1 0), (5, .d (.int .i64 t5_4))] [[.cells [.d (.int .u8 a0.kind), .d (.str a0.name), .d (.bool a0.ty.v), .d (.str a0.ty.name), .d (.slice 3 (Ty.Ds a0.ty.args)), .d (.int .i64 a0.index), .d (.slice 7 (Tm.Ds a0.sub))], .cells [.d (.int .u8 a1.kind), .d (.str a1.name), .d (.bool a1.ty.v), .d (.str a1.ty.name), .d (.slice 3 (Ty.Ds a1.ty.args)), .d (.int .i64 a1.index), .d (.slice 7 (Tm.Ds a1.sub))]]] := G_sequentref02_Compare.2.2.2.2.1 _ _ e _ _ _ rfl
theorem P_sequentref02_Compare_l0 {t5_0 : Int} {t6_0 : Int} {a0 : Tm} {a1 : Tm} {r : Int} (e : sequentref02_Compare_l0 t5_0 t6_0 a0 a1 = some r) : RunsL Try.prog Try.f60.ntmps [] (codeAt [1, 1, 1, 1, 1, 1, 0, 1, 0, 0] (bodyOf Try.f60)) (qAt T Try.prog Try.f60.ntmps [] [4, 6, 8, 10] [1, 1, 1, 1, 1, 1, 0, 1, 0] (bodyOf Try.f60) (EndPure T Try.f60.results.toList (.int .i64 r))) [(2, .ptr 0 0 0), (3, .ptr 0 1 0), (5, .d (.int .i64 t5_0)), (6, .d (.int .i64 t6_0))] [[.cells [.d (.int .u8 a0.kind), .d (.str a0.name), .d (.bool a0.ty.v), .d (.str a0.ty.name), .d (.slice 3 (Ty.Ds a0.ty.args)), .d (.int .i64 a0.index), .d (.slice 7 (Tm.Ds a0.sub))], .cells [.d (.int .u8 a1.kind), .d (.str a1.name), .d (.bool a1.ty.v), .d (.str a1.ty.name), .d (.slice 3 (Ty.Ds a1.ty.args)), .d (.int .i64 a1.index), .d (.slice 7 (Tm.Ds a1.sub))]]] := G_sequentref02_Compare.2.2.2.2.2 _ _ e _ _ _ _ rfl

theorem P_sequentref02_Same {a0 : Tm} {a1 : Tm} {r : Bool} (e : sequentref02_Same a0 a1 = some r) : Pure Try.prog 20 [(Tm.D a0), (Tm.D a1)] (.bool r) := by
  unfold sequentref02_Same at e
  refine pure_of_awp (js := []) T_ok Try.func20 rfl (by decide +kernel) rfl ?_; (conv => whnf)
  obtain ⟨v1, qv1, e⟩ := bnd e
  refine said_pure (P_sequentref02_Compare qv1) rfl ?_; (conv => whnf)
  refine test.dec ?_; (conv => whnf)
  obtain rfl := sm e
  repeat' first | exact rfl | exact trivial | refine ⟨?_, ?_⟩

theorem P_sequentref01_Same {a0 : Ty} {a1 : Ty} {r : Bool} (e : sequentref01_Same a0 a1 = some r) : Pure Try.prog 118 [(Ty.D a0), (Ty.D a1)] (.bool r) := by
  unfold sequentref01_Same at e
  refine pure_of_awp (js := []) T_ok Try.func118 rfl (by decide +kernel) rfl ?_; (conv => whnf)
  obtain ⟨v1, qv1, e⟩ := bnd e
  refine said_pure (P_sequentref01_Compare qv1) rfl ?_; (conv => whnf)
  refine test.dec ?_; (conv => whnf)
  obtain rfl := sm e
  repeat' first | exact rfl | exact trivial | refine ⟨?_, ?_⟩

def M_sequentref01_Depth (p : Ty) (r : Int) : Prop := ∀ (a0 : Ty), a0 = p → Pure Try.prog 173 [(Ty.D a0)] (.int .i64 r)
def M_sequentref01_Depth_l0 (p : ((List Ty) × Int)) (r : Int) : Prop := ∀ (rest0 : (List Ty)) (t3_0 : Int), (rest0, t3_0) = p → ∀ (a0 : Ty) (k0 : Nat) (hd0 : rest0 = a0.args.drop k0), RunsL Try.prog Try.f173.ntmps [] (codeAt [1, 1, 0, 1, 0, 0] (bodyOf Try.f173)) (qAt T Try.prog Try.f173.ntmps [] [] [1, 1, 0, 1, 0] (bodyOf Try.f173) (EndPure T Try.f173.results.toList (.int .i64 r))) [(1, .ptr 0 0 0), (3, .d (.int .i64 t3_0)), (4, .d (.int .i64 (k0 : Int)))] [[.cells [.d (.bool a0.v), .d (.str a0.name), .d (.slice 3 (Ty.Ds a0.args))]]]
theorem G_sequentref01_Depth : (∀ p r, sequentref01_Depth' p = some r → M_sequentref01_Depth p r) ∧
    (∀ p r, sequentref01_Depth_l0' p = some r → M_sequentref01_Depth_l0 p r) := by
  refine sequentref01_Depth'.mutual_partial_correctness M_sequentref01_Depth M_sequentref01_Depth_l0 ?_ ?_
  · intro f_sequentref01_Depth_l0 ih_sequentref01_Depth_l0 p r e a0 hp
    subst hp
    refine pure_of_awp (js := []) T_ok Try.func173 rfl (by decide +kernel) rfl ?_; (conv => whnf)
    refine RunsL.runs (RunsL.weak ((ih_sequentref01_Depth_l0 _ _ e _ _ rfl) a0 0 (by simp)) ?_)
    repeat' first | exact wk.of_eq rfl | exact wk.pure rfl | exact wk.un _ | exact rfl | exact trivial | refine ⟨?_, ?_⟩ | (refine wk.of_eq ?_; (conv => lhs; whnf); (simp [Ty.Ds_all, Ty.D, listAll] <;> (repeat' first | rfl | apply And.intro)); done) | (refine wk.pure ?_; (conv => lhs; whnf); (simp [Ty.Ds_all, Ty.D, listAll] <;> (repeat' first | rfl | apply And.intro)); done) | ((simp [Ty.Ds_all, Ty.D, listAll] <;> (repeat' first | rfl | apply And.intro)); done)
  · intro f_sequentref01_Depth f_sequentref01_Depth_l0 ih_sequentref01_Depth ih_sequentref01_Depth_l0 p r e rest0 t3_0 hp
    subst hp
    intro a0 k0 hd0
    refine RunsL.len_cell 0 2 rfl rfl rfl fun hlenk0 => ?_
    refine RunsL.of_awp (js := []) T_ok ?_; (conv => whnf)
    have hls := Ty.Ds_len a0.args
    cases rest0 with
    | nil =>
      have hk := drop_nil hd0
      refine ⟨⟨fun h => absurd h (by omega), fun _ => ?_⟩⟩; (conv => whnf)
      obtain ⟨v3, qv3, e⟩ := bnd e
      refine ⟨v3, sm qv3, ?_⟩; (conv => whnf)
      obtain rfl := sm e
      repeat' first | exact rfl | exact trivial | refine ⟨?_, ?_⟩
    | cons v1 rest0 =>
      obtain ⟨hxv1, hd0, hltv1⟩ := drop_head hd0
      refine ⟨⟨fun _ => ?_, fun h => absurd (by omega) h⟩⟩; (conv => whnf)
      refine ⟨k0, _, rfl, Ty.Ds_get hxv1, ?_⟩; (conv => whnf)
      refine ⟨Ty.Ds_fit _ rfl rfl, ?_⟩; (conv => whnf)
      obtain ⟨v2, qv2, e⟩ := bnd e
      refine said_pure (ih_sequentref01_Depth _ _ qv2 _ rfl) rfl ?_; (conv => whnf)
      refine ⟨((k0 + 1 : Nat) : Int), wrap64e (by omega) (by omega) (by omega), ?_⟩; (conv => whnf)
      refine (RunsL.weak ((ih_sequentref01_Depth_l0 _ _ e _ _ rfl) a0 (k0 + 1) hd0) ?_)
      repeat' first | exact wk.of_eq rfl | exact wk.pure rfl | exact wk.un _ | exact rfl | exact trivial | refine ⟨?_, ?_⟩ | (refine wk.of_eq ?_; (conv => lhs; whnf); (simp [Ty.Ds_all, Ty.D, listAll] <;> (repeat' first | rfl | apply And.intro)); done) | (refine wk.pure ?_; (conv => lhs; whnf); (simp [Ty.Ds_all, Ty.D, listAll] <;> (repeat' first | rfl | apply And.intro)); done) | ((simp [Ty.Ds_all, Ty.D, listAll] <;> (repeat' first | rfl | apply And.intro)); done)
theorem P_sequentref01_Depth {a0 : Ty} {r : Int} (e : sequentref01_Depth a0 = some r) : Pure Try.prog 173 [(Ty.D a0)] (.int .i64 r) := G_sequentref01_Depth.1 _ _ e _ rfl
theorem P_sequentref01_Depth_l0 {rest0 : (List Ty)} {t3_0 : Int} {r : Int} (e : sequentref01_Depth_l0 rest0 t3_0 = some r) : ∀ (a0 : Ty) (k0 : Nat) (hd0 : rest0 = a0.args.drop k0), RunsL Try.prog Try.f173.ntmps [] (codeAt [1, 1, 0, 1, 0, 0] (bodyOf Try.f173)) (qAt T Try.prog Try.f173.ntmps [] [] [1, 1, 0, 1, 0] (bodyOf Try.f173) (EndPure T Try.f173.results.toList (.int .i64 r))) [(1, .ptr 0 0 0), (3, .d (.int .i64 t3_0)), (4, .d (.int .i64 (k0 : Int)))] [[.cells [.d (.bool a0.v), .d (.str a0.name), .d (.slice 3 (Ty.Ds a0.args))]]] := G_sequentref01_Depth.2 _ _ e _ _ rfl

def M_sequentref01_Size (p : Ty) (r : Int) : Prop := ∀ (a0 : Ty), a0 = p → Pure Try.prog 170 [(Ty.D a0)] (.int .i64 r)
def M_sequentref01_Size_l0 (p : ((List Ty) × Int)) (r : Int) : Prop := ∀ (rest0 : (List Ty)) (t3_0 : Int), (rest0, t3_0) = p → ∀ (a0 : Ty) (k0 : Nat) (hd0 : rest0 = a0.args.drop k0), RunsL Try.prog Try.f170.ntmps [] (codeAt [1, 1, 0, 1, 0, 0] (bodyOf Try.f170)) (qAt T Try.prog Try.f170.ntmps [] [] [1, 1, 0, 1, 0] (bodyOf Try.f170) (EndPure T Try.f170.results.toList (.int .i64 r))) [(1, .ptr 0 0 0), (3, .d (.int .i64 t3_0)), (4, .d (.int .i64 (k0 : Int)))] [[.cells [.d (.bool a0.v), .d (.str a0.name), .d (.slice 3 (Ty.Ds a0.args))]]]
theorem G_sequentref01_Size : (∀ p r, sequentref01_Size' p = some r → M_sequentref01_Size p r) ∧
    (∀ p r, sequentref01_Size_l0' p = some r → M_sequentref01_Size_l0 p r) := by
  refine sequentref01_Size'.mutual_partial_correctness M_sequentref01_Size M_sequentref01_Size_l0 ?_ ?_
  · intro f_sequentref01_Size_l0 ih_sequentref01_Size_l0 p r e a0 hp
    subst hp
    refine pure_of_awp (js := []) T_ok Try.func170 rfl (by decide +kernel) rfl ?_; (conv => whnf)
    refine RunsL.runs (RunsL.weak ((ih_sequentref01_Size_l0 _ _ e _ _ rfl) a0 0 (by simp)) ?_)
    repeat' first | exact wk.of_eq rfl | exact wk.pure rfl | exact wk.un _ | exact rfl | exact trivial | refine ⟨?_, ?_⟩ | (refine wk.of_eq ?_; (conv => lhs; whnf); (simp [Ty.Ds_all, Ty.D, listAll] <;> (repeat' first | rfl | apply And.intro)); done) | (refine wk.pure ?_; (conv => lhs; whnf); (simp [Ty.Ds_all, Ty.D, listAll] <;> (repeat' first | rfl | apply And.intro)); done) | ((simp [Ty.Ds_all, Ty.D, listAll] <;> (repeat' first | rfl | apply And.intro)); done)
  · intro f_sequentref01_Size f_sequentref01_Size_l0 ih_sequentref01_Size ih_sequentref01_Size_l0 p r e rest0 t3_0 hp
    subst hp
    intro a0 k0 hd0
    refine RunsL.len_cell 0 2 rfl rfl rfl fun hlenk0 => ?_
    refine RunsL.of_awp (js := []) T_ok ?_; (conv => whnf)
    have hls := Ty.Ds_len a0.args
    cases rest0 with
    | nil =>
      have hk := drop_nil hd0
      refine ⟨⟨fun h => absurd h (by omega), fun _ => ?_⟩⟩; (conv => whnf)
      obtain rfl := sm e
      repeat' first | exact rfl | exact trivial | refine ⟨?_, ?_⟩
    | cons v1 rest0 =>
      obtain ⟨hxv1, hd0, hltv1⟩ := drop_head hd0
      refine ⟨⟨fun _ => ?_, fun h => absurd (by omega) h⟩⟩; (conv => whnf)
      refine ⟨k0, _, rfl, Ty.Ds_get hxv1, ?_⟩; (conv => whnf)
      refine ⟨Ty.Ds_fit _ rfl rfl, ?_⟩; (conv => whnf)
      obtain ⟨v2, qv2, e⟩ := bnd e
      refine said_pure (ih_sequentref01_Size _ _ qv2 _ rfl) rfl ?_; (conv => whnf)
      obtain ⟨v3, qv3, e⟩ := bnd e
      refine ⟨v3, sm qv3, ?_⟩; (conv => whnf)
      refine ⟨((k0 + 1 : Nat) : Int), wrap64e (by omega) (by omega) (by omega), ?_⟩; (conv => whnf)
      refine (RunsL.weak ((ih_sequentref01_Size_l0 _ _ e _ _ rfl) a0 (k0 + 1) hd0) ?_)
      repeat' first | exact wk.of_eq rfl | exact wk.pure rfl | exact wk.un _ | exact rfl | exact trivial | refine ⟨?_, ?_⟩ | (refine wk.of_eq ?_; (conv => lhs; whnf); (simp [Ty.Ds_all, Ty.D, listAll] <;> (repeat' first | rfl | apply And.intro)); done) | (refine wk.pure ?_; (conv => lhs; whnf); (simp [Ty.Ds_all, Ty.D, listAll] <;> (repeat' first | rfl | apply And.intro)); done) | ((simp [Ty.Ds_all, Ty.D, listAll] <;> (repeat' first | rfl | apply And.intro)); done)
theorem P_sequentref01_Size {a0 : Ty} {r : Int} (e : sequentref01_Size a0 = some r) : Pure Try.prog 170 [(Ty.D a0)] (.int .i64 r) := G_sequentref01_Size.1 _ _ e _ rfl
theorem P_sequentref01_Size_l0 {rest0 : (List Ty)} {t3_0 : Int} {r : Int} (e : sequentref01_Size_l0 rest0 t3_0 = some r) : ∀ (a0 : Ty) (k0 : Nat) (hd0 : rest0 = a0.args.drop k0), RunsL Try.prog Try.f170.ntmps [] (codeAt [1, 1, 0, 1, 0, 0] (bodyOf Try.f170)) (qAt T Try.prog Try.f170.ntmps [] [] [1, 1, 0, 1, 0] (bodyOf Try.f170) (EndPure T Try.f170.results.toList (.int .i64 r))) [(1, .ptr 0 0 0), (3, .d (.int .i64 t3_0)), (4, .d (.int .i64 (k0 : Int)))] [[.cells [.d (.bool a0.v), .d (.str a0.name), .d (.slice 3 (Ty.Ds a0.args))]]] := G_sequentref01_Size.2 _ _ e _ _ rfl

theorem P_sequentref01_Small {a0 : Ty} {r : Bool} (e : sequentref01_Small a0 = some r) : Pure Try.prog 168 [(Ty.D a0)] (.bool r) := by
  unfold sequentref01_Small at e
  refine pure_of_awp (js := []) T_ok Try.func168 rfl (by decide +kernel) rfl ?_; (conv => whnf)
  obtain ⟨v1, qv1, e⟩ := bnd e
  refine said_pure (P_sequentref01_Size qv1) rfl ?_; (conv => whnf)
  refine ⟨⟨fun h2 => ?_, fun h2 => ?_⟩⟩
  · replace e := ifp h2 e; (conv => whnf)
    obtain ⟨v3, qv3, e⟩ := bnd e
    refine said_pure (P_sequentref01_Depth qv3) rfl ?_; (conv => whnf)
    refine test.dec ?_; (conv => whnf)
    obtain rfl := sm e
    repeat' first | exact rfl | exact trivial | refine ⟨?_, ?_⟩
  · replace e := ifn h2 e; (conv => whnf)
    obtain rfl := sm e
    repeat' first | exact rfl | exact trivial | refine ⟨?_, ?_⟩

def M_sequentref01_Name_l0 (p : (Int × ByteArray)) (r : Bool) : Prop := ∀ (t3_0 : Int) (a0 : ByteArray), (t3_0, a0) = p → RunsL Try.prog Try.f167.ntmps [] (codeAt [1, 1, 0, 1, 0, 0] (bodyOf Try.f167)) (qAt T Try.prog Try.f167.ntmps [] [] [1, 1, 0, 1, 0] (bodyOf Try.f167) (EndPure T Try.f167.results.toList (.bool r))) [(0, .d (.str a0)), (3, .d (.int .i64 t3_0))] [[]]
theorem G_sequentref01_Name_l0 : (∀ p r, sequentref01_Name_l0' p = some r → M_sequentref01_Name_l0 p r) := by
  refine sequentref01_Name_l0'.partial_correctness M_sequentref01_Name_l0 ?_
  · intro f_sequentref01_Name_l0 ih_sequentref01_Name_l0 p r e t3_0 a0 hp
    subst hp
    refine RunsL.of_awp (js := []) T_ok ?_; (conv => whnf)
    refine ⟨⟨fun h3 => ?_, fun h3 => ?_⟩⟩
    · replace e := ifp h3 e; (conv => whnf)
      obtain ⟨v4, qv4, e⟩ := bnd e
      obtain ⟨qv4k, qv4q, qv4a, qv4b, qv4c⟩ := getb_some qv4
      refine ⟨qv4k, qv4q, qv4a, qv4b, ?_⟩; rw [qv4c]; (conv => whnf)
      refine ⟨⟨fun h5 => ?_, fun h5 => ?_⟩⟩
      · replace e := ifp h5 e; (conv => whnf)
        obtain rfl := sm e
        repeat' first | exact rfl | exact trivial | refine ⟨?_, ?_⟩
      · replace e := ifn h5 e; (conv => whnf)
        refine ⟨⟨fun h6 => ?_, fun h6 => ?_⟩⟩
        · replace e := ifp h6 e; (conv => whnf)
          obtain rfl := sm e
          repeat' first | exact rfl | exact trivial | refine ⟨?_, ?_⟩
        · replace e := ifn h6 e; (conv => whnf)
          refine ⟨⟨fun h7 => ?_, fun h7 => ?_⟩⟩
          · replace e := ifp h7 e; (conv => whnf)
            obtain rfl := sm e
            repeat' first | exact rfl | exact trivial | refine ⟨?_, ?_⟩
          · replace e := ifn h7 e; (conv => whnf)
            refine ⟨⟨fun h8 => ?_, fun h8 => ?_⟩⟩
            · replace e := ifp h8 e; (conv => whnf)
              obtain rfl := sm e
              repeat' first | exact rfl | exact trivial | refine ⟨?_, ?_⟩
            · replace e := ifn h8 e; (conv => whnf)
              refine ⟨⟨fun h9 => ?_, fun h9 => ?_⟩⟩
              · replace e := ifp h9 e; (conv => whnf)
                obtain rfl := sm e
                repeat' first | exact rfl | exact trivial | refine ⟨?_, ?_⟩
              · replace e := ifn h9 e; (conv => whnf)
                refine ⟨⟨fun h10 => ?_, fun h10 => ?_⟩⟩
                · replace e := ifp h10 e; (conv => whnf)
                  obtain rfl := sm e
                  repeat' first | exact rfl | exact trivial | refine ⟨?_, ?_⟩
                · replace e := ifn h10 e; (conv => whnf)
                  refine ⟨⟨fun h11 => ?_, fun h11 => ?_⟩⟩
                  · replace e := ifp h11 e; (conv => whnf)
                    obtain rfl := sm e
                    repeat' first | exact rfl | exact trivial | refine ⟨?_, ?_⟩
                  · replace e := ifn h11 e; (conv => whnf)
                    refine ⟨⟨fun h12 => ?_, fun h12 => ?_⟩⟩
                    · replace e := ifp h12 e; (conv => whnf)
                      obtain rfl := sm e
                      repeat' first | exact rfl | exact trivial | refine ⟨?_, ?_⟩
                    · replace e := ifn h12 e; (conv => whnf)
                      refine ⟨⟨fun h13 => ?_, fun h13 => ?_⟩⟩
                      · replace e := ifp h13 e; (conv => whnf)
                        obtain rfl := sm e
                        repeat' first | exact rfl | exact trivial | refine ⟨?_, ?_⟩
                      · replace e := ifn h13 e; (conv => whnf)
                        obtain ⟨v14, qv14, e⟩ := bnd e
                        refine ⟨v14, sm qv14, ?_⟩; (conv => whnf)
                        refine (RunsL.weak (ih_sequentref01_Name_l0 _ _ e _ _ rfl) ?_)
                        repeat' first | exact wk.of_eq rfl | exact wk.pure rfl | exact wk.un _ | exact rfl | exact trivial | refine ⟨?_, ?_⟩ | (refine wk.of_eq ?_; (conv => lhs; whnf); (simp [listAll] <;> (repeat' first | rfl | apply And.intro)); done) | (refine wk.pure ?_; (conv => lhs; whnf); (simp [listAll] <;> (repeat' first | rfl | apply And.intro)); done) | ((simp [listAll] <;> (repeat' first | rfl | apply And.intro)); done)
    · replace e := ifn h3 e; (conv => whnf)
      obtain rfl := sm e
      repeat' first | exact rfl | exact trivial | refine ⟨?_, ?_⟩
theorem P_sequentref01_Name_l0 {t3_0 : Int} {a0 : ByteArray} {r : Bool} (e : sequentref01_Name_l0 t3_0 a0 = some r) : RunsL Try.prog Try.f167.ntmps [] (codeAt [1, 1, 0, 1, 0, 0] (bodyOf Try.f167)) (qAt T Try.prog Try.f167.ntmps [] [] [1, 1, 0, 1, 0] (bodyOf Try.f167) (EndPure T Try.f167.results.toList (.bool r))) [(0, .d (.str a0)), (3, .d (.int .i64 t3_0))] [[]] := G_sequentref01_Name_l0 _ _ e _ _ rfl

theorem P_sequentref01_Name {a0 : ByteArray} {r : Bool} (e : sequentref01_Name a0 = some r) : Pure Try.prog 167 [(.str a0)] (.bool r) := by
  unfold sequentref01_Name at e
  refine pure_of_awp (js := []) T_ok Try.func167 rfl (by decide +kernel) rfl ?_; (conv => whnf)
  refine ⟨⟨fun h1 => ?_, fun h1 => ?_⟩⟩
  · replace e := ifp h1 e; (conv => whnf)
    obtain rfl := sm e
    repeat' first | exact rfl | exact trivial | refine ⟨?_, ?_⟩
  · replace e := ifn h1 e; (conv => whnf)
    refine ⟨⟨fun h2 => ?_, fun h2 => ?_⟩⟩
    · replace e := ifp h2 e; (conv => whnf)
      obtain rfl := sm e
      repeat' first | exact rfl | exact trivial | refine ⟨?_, ?_⟩
    · replace e := ifn h2 e; (conv => whnf)
      refine RunsL.runs (RunsL.weak (P_sequentref01_Name_l0 e) ?_)
      repeat' first | exact wk.of_eq rfl | exact wk.pure rfl | exact wk.un _ | exact rfl | exact trivial | refine ⟨?_, ?_⟩ | (refine wk.of_eq ?_; (conv => lhs; whnf); (simp [listAll] <;> (repeat' first | rfl | apply And.intro)); done) | (refine wk.pure ?_; (conv => lhs; whnf); (simp [listAll] <;> (repeat' first | rfl | apply And.intro)); done) | ((simp [listAll] <;> (repeat' first | rfl | apply And.intro)); done)
end Go.Proofs.Ytdjmibbgoajcaaa.Fw
