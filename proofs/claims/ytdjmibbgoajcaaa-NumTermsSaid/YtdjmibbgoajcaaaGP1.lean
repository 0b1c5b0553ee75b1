/- The code computes the functions. -/
import Derived.Test.YtdjmibbgoajcaaaGP0
set_option autoImplicit false
set_option linter.unusedVariables false
set_option linter.unusedSimpArgs false
namespace Go.Proofs.Ytdjmibbgoajcaaa.Fw
open Go Go.Proofs Go.RowKit
def M_sequentref01_shape (p : Ty) (r : Bool) : Prop := ∀ (a0 : Ty), a0 = p → Pure Try.prog 169 [(Ty.D a0)] (.bool r)
def M_sequentref01_shape_j0 (p : Ty) (r : Bool) : Prop := ∀ (a0 : Ty), a0 = p → Runs Try.prog Try.f169.ntmps [] (codeAt [1, 1, 0, 0] (bodyOf Try.f169)) (qAt T Try.prog Try.f169.ntmps [] [3] [1, 1, 0, 0] (bodyOf Try.f169) (EndPure T Try.f169.results.toList (.bool r))) [(1, .ptr 0 0 0)] [[.cells [.d (.bool a0.v), .d (.str a0.name), .d (.slice 3 (Ty.Ds a0.args))]]]
def M_sequentref01_shape_l0 (p : (List Ty)) (r : Bool) : Prop := ∀ (rest0 : (List Ty)), rest0 = p → ∀ (a0 : Ty) (k0 : Nat) (hd0 : rest0 = a0.args.drop k0), RunsL Try.prog Try.f169.ntmps [] (codeAt [1, 1, 0, 1, 0, 0] (bodyOf Try.f169)) (qAt T Try.prog Try.f169.ntmps [] [3] [1, 1, 0, 1, 0] (bodyOf Try.f169) (EndPure T Try.f169.results.toList (.bool r))) [(1, .ptr 0 0 0), (3, .d (.int .i64 (k0 : Int)))] [[.cells [.d (.bool a0.v), .d (.str a0.name), .d (.slice 3 (Ty.Ds a0.args))]]]
theorem G_sequentref01_shape : (∀ p r, sequentref01_shape' p = some r → M_sequentref01_shape p r) ∧
    (∀ p r, sequentref01_shape_j0' p = some r → M_sequentref01_shape_j0 p r) ∧
    (∀ p r, sequentref01_shape_l0' p = some r → M_sequentref01_shape_l0 p r) := by
  refine sequentref01_shape'.mutual_partial_correctness M_sequentref01_shape M_sequentref01_shape_j0 M_sequentref01_shape_l0 ?_ ?_ ?_
  · intro f_sequentref01_shape_j0 ih_sequentref01_shape_j0 p r e a0 hp
    subst hp
    refine pure_of_awp (js := [3]) T_ok Try.func169 rfl (by decide +kernel) rfl ?_; (conv => whnf)
    refine draw_rule T_ok mixed sequentref01_shape_pl1 (by decide +kernel) ?_; (conv => whnf)
    obtain ⟨v1, qv1, e⟩ := bnd e
    refine said_pure (P_sequentref01_Name qv1) rfl ⟨rfl, ?_⟩; (conv => whnf)
    refine brK.nsplit (fun hb2 => ?_) (fun hb2 => ?_)
    · replace e := ifpb hb2 e; (conv => whnf)
      refine brK.ntt hb2 ?_; (conv => whnf)
      refine brK.ntt hb2 ?_; (conv => whnf)
      refine brK.ntt hb2 ?_; (conv => whnf)
      refine brK.ntt hb2 ?_; (conv => whnf)
      obtain ⟨v3, qv3, e⟩ := bnd e
      obtain ⟨qv3k, qv3q, qv3a, qv3b, qv3c⟩ := getb_some qv3
      refine ⟨qv3k, qv3q, qv3a, qv3b, ?_⟩; rw [qv3c]; (conv => whnf)
      refine brK.ntt hb2 ?_; (conv => whnf)
      refine test.dec ?_; (conv => whnf)
      refine brK.ntt hb2 ?_; (conv => whnf)
      refine ⟨⟨fun h4 => ?_, fun h4 => ?_⟩⟩
      · replace e := ifp h4 e; (conv => whnf)
        refine brK.ntt hb2 ?_; (conv => whnf)
        obtain rfl := sm e
        repeat' first | exact rfl | exact trivial | refine ⟨?_, ?_⟩
      · replace e := ifn h4 e; (conv => whnf)
        refine brK.ntt hb2 ?_; (conv => whnf)
        refine brK.split (fun hb5 => ?_) (fun hb5 => ?_)
        · replace e := ifpb hb5 e; (conv => whnf)
          refine brK.tt hb5 ?_; (conv => whnf)
          refine brK.tt hb5 ?_; (conv => whnf)
          refine brK.tt hb5 ?_; (conv => whnf)
          refine ⟨⟨fun h6 => ?_, fun h6 => ?_⟩⟩
          · replace e := ifp (by first | exact h6 | simpa [Ty.Ds_all, Ty.D, listAll] using h6) e; (conv => whnf)
            refine brK.tt hb5 ?_; (conv => whnf)
            obtain rfl := sm e
            repeat' first | exact rfl | exact trivial | refine ⟨?_, ?_⟩
          · replace e := ifn (by first | exact h6 | simpa [Ty.Ds_all, Ty.D, listAll] using h6) e; (conv => whnf)
            refine brK.tt hb5 ?_; (conv => whnf)
            refine ⟨⟨fun h7 => ?_, fun h7 => ?_⟩⟩
            · replace e := ifp (by first | exact h7 | simpa [Ty.Ds_all, Ty.D, listAll] using h7) e; (conv => whnf)
              obtain rfl := sm e
              repeat' first | exact rfl | exact trivial | refine ⟨?_, ?_⟩
            · replace e := ifn (by first | exact h7 | simpa [Ty.Ds_all, Ty.D, listAll] using h7) e; (conv => whnf)
              refine Runs.weak (ih_sequentref01_shape_j0 _ _ e _ rfl) ?_
              repeat' first | exact wk.of_eq rfl | exact wk.pure rfl | exact wk.un _ | exact rfl | exact trivial | refine ⟨?_, ?_⟩ | (refine wk.of_eq ?_; (conv => lhs; whnf); (simp [Ty.Ds_all, Ty.D, listAll] <;> (repeat' first | rfl | apply And.intro)); done) | (refine wk.pure ?_; (conv => lhs; whnf); (simp [Ty.Ds_all, Ty.D, listAll] <;> (repeat' first | rfl | apply And.intro)); done) | ((simp [Ty.Ds_all, Ty.D, listAll] <;> (repeat' first | rfl | apply And.intro)); done)
        · replace e := ifnb hb5 e; (conv => whnf)
          refine brK.ff hb5 ?_; (conv => whnf)
          refine brK.ff hb5 ?_; (conv => whnf)
          refine brK.ff hb5 ?_; (conv => whnf)
          refine brK.ff hb5 ?_; (conv => whnf)
          refine ⟨⟨fun h11 => ?_, fun h11 => ?_⟩⟩
          · replace e := ifp (by first | exact h11 | simpa [Ty.Ds_all, Ty.D, listAll] using h11) e; (conv => whnf)
            obtain rfl := sm e
            repeat' first | exact rfl | exact trivial | refine ⟨?_, ?_⟩
          · replace e := ifn (by first | exact h11 | simpa [Ty.Ds_all, Ty.D, listAll] using h11) e; (conv => whnf)
            refine Runs.weak (ih_sequentref01_shape_j0 _ _ e _ rfl) ?_
            repeat' first | exact wk.of_eq rfl | exact wk.pure rfl | exact wk.un _ | exact rfl | exact trivial | refine ⟨?_, ?_⟩ | (refine wk.of_eq ?_; (conv => lhs; whnf); (simp [Ty.Ds_all, Ty.D, listAll] <;> (repeat' first | rfl | apply And.intro)); done) | (refine wk.pure ?_; (conv => lhs; whnf); (simp [Ty.Ds_all, Ty.D, listAll] <;> (repeat' first | rfl | apply And.intro)); done) | ((simp [Ty.Ds_all, Ty.D, listAll] <;> (repeat' first | rfl | apply And.intro)); done)
    · replace e := ifnb hb2 e; (conv => whnf)
      refine brK.nff hb2 ?_; (conv => whnf)
      refine brK.nff hb2 ?_; (conv => whnf)
      refine brK.nff hb2 ?_; (conv => whnf)
      refine brK.nff hb2 ?_; (conv => whnf)
      refine brK.nff hb2 ?_; (conv => whnf)
      refine brK.nff hb2 ?_; (conv => whnf)
      refine brK.nff hb2 ?_; (conv => whnf)
      obtain rfl := sm e
      repeat' first | exact rfl | exact trivial | refine ⟨?_, ?_⟩
  · intro f_sequentref01_shape_l0 ih_sequentref01_shape_l0 p r e a0 hp
    subst hp
    refine Runs.enter T_ok ?_; (conv => whnf)
    refine RunsL.runs (RunsL.weak ((ih_sequentref01_shape_l0 _ _ e _ rfl) a0 0 (by simp)) ?_)
    repeat' first | exact wk.of_eq rfl | exact wk.pure rfl | exact wk.un _ | exact rfl | exact trivial | refine ⟨?_, ?_⟩ | (refine wk.of_eq ?_; (conv => lhs; whnf); (simp [Ty.Ds_all, Ty.D, listAll] <;> (repeat' first | rfl | apply And.intro)); done) | (refine wk.pure ?_; (conv => lhs; whnf); (simp [Ty.Ds_all, Ty.D, listAll] <;> (repeat' first | rfl | apply And.intro)); done) | ((simp [Ty.Ds_all, Ty.D, listAll] <;> (repeat' first | rfl | apply And.intro)); done)
  · intro f_sequentref01_shape f_sequentref01_shape_l0 ih_sequentref01_shape ih_sequentref01_shape_l0 p r e rest0 hp
    subst hp
    intro a0 k0 hd0
    refine RunsL.len_cell 0 2 rfl rfl rfl fun hlenk0 => ?_
    refine RunsL.of_awp (js := [3]) T_ok ?_; (conv => whnf)
    have hls := Ty.Ds_len a0.args
    cases rest0 with
    | nil =>
      have hk := drop_nil hd0
      refine ⟨⟨fun h => absurd h (by omega), fun _ => ?_⟩⟩; (conv => whnf)
      obtain rfl := sm e
      repeat' first | exact rfl | exact trivial | refine ⟨?_, ?_⟩
    | cons v8 rest0 =>
      obtain ⟨hxv8, hd0, hltv8⟩ := drop_head hd0
      refine ⟨⟨fun _ => ?_, fun h => absurd (by omega) h⟩⟩; (conv => whnf)
      refine ⟨k0, _, rfl, Ty.Ds_get hxv8, ?_⟩; (conv => whnf)
      refine ⟨Ty.Ds_fit _ rfl rfl, ?_⟩; (conv => whnf)
      obtain ⟨v9, qv9, e⟩ := bnd e
      refine said_pure (ih_sequentref01_shape _ _ qv9 _ rfl) rfl ?_; (conv => whnf)
      refine brK.nsplit (fun hb10 => ?_) (fun hb10 => ?_)
      · replace e := ifpb hb10 e; (conv => whnf)
        refine ⟨((k0 + 1 : Nat) : Int), wrap64e (by omega) (by omega) (by omega), ?_⟩; (conv => whnf)
        refine (RunsL.weak ((ih_sequentref01_shape_l0 _ _ e _ rfl) a0 (k0 + 1) hd0) ?_)
        repeat' first | exact wk.of_eq rfl | exact wk.pure rfl | exact wk.un _ | exact rfl | exact trivial | refine ⟨?_, ?_⟩ | (refine wk.of_eq ?_; (conv => lhs; whnf); (simp [Ty.Ds_all, Ty.D, listAll] <;> (repeat' first | rfl | apply And.intro)); done) | (refine wk.pure ?_; (conv => lhs; whnf); (simp [Ty.Ds_all, Ty.D, listAll] <;> (repeat' first | rfl | apply And.intro)); done) | ((simp [Ty.Ds_all, Ty.D, listAll] <;> (repeat' first | rfl | apply And.intro)); done)
      · replace e := ifnb hb10 e; (conv => whnf)
        obtain rfl := sm e
        repeat' first | exact rfl | exact trivial | refine ⟨?_, ?_⟩
theorem P_sequentref01_shape {a0 : Ty} {r : Bool} (e : sequentref01_shape a0 = some r) : Pure Try.prog 169 [(Ty.D a0)] (.bool r) := G_sequentref01_shape.1 _ _ e _ rfl
theorem P_sequentref01_shape_j0 {a0 : Ty} {r : Bool} (e : sequentref01_shape_j0 a0 = some r) : Runs Try.prog Try.f169.ntmps [] (codeAt [1, 1, 0, 0] (bodyOf Try.f169)) (qAt T Try.prog Try.f169.ntmps [] [3] [1, 1, 0, 0] (bodyOf Try.f169) (EndPure T Try.f169.results.toList (.bool r))) [(1, .ptr 0 0 0)] [[.cells [.d (.bool a0.v), .d (.str a0.name), .d (.slice 3 (Ty.Ds a0.args))]]] := G_sequentref01_shape.2.1 _ _ e _ rfl
theorem P_sequentref01_shape_l0 {rest0 : (List Ty)} {r : Bool} (e : sequentref01_shape_l0 rest0 = some r) : ∀ (a0 : Ty) (k0 : Nat) (hd0 : rest0 = a0.args.drop k0), RunsL Try.prog Try.f169.ntmps [] (codeAt [1, 1, 0, 1, 0, 0] (bodyOf Try.f169)) (qAt T Try.prog Try.f169.ntmps [] [3] [1, 1, 0, 1, 0] (bodyOf Try.f169) (EndPure T Try.f169.results.toList (.bool r))) [(1, .ptr 0 0 0), (3, .d (.int .i64 (k0 : Int)))] [[.cells [.d (.bool a0.v), .d (.str a0.name), .d (.slice 3 (Ty.Ds a0.args))]]] := G_sequentref01_shape.2.2 _ _ e _ rfl

theorem P_sequentref01_Valid {a0 : Ty} {r : Bool} (e : sequentref01_Valid a0 = some r) : Pure Try.prog 153 [(Ty.D a0)] (.bool r) := by
  unfold sequentref01_Valid at e
  refine pure_of_awp (js := []) T_ok Try.func153 rfl (by decide +kernel) rfl ?_; (conv => whnf)
  obtain ⟨v1, qv1, e⟩ := bnd e
  refine said_pure (P_sequentref01_Small qv1) rfl ?_; (conv => whnf)
  refine brK.split (fun hb2 => ?_) (fun hb2 => ?_)
  · replace e := ifpb hb2 e; (conv => whnf)
    refine brK.tt hb2 ?_; (conv => whnf)
    obtain ⟨v3, qv3, e⟩ := bnd e
    refine said_pure (P_sequentref01_shape qv3) rfl ?_; (conv => whnf)
    refine brK.tt hb2 ?_; (conv => whnf)
    obtain rfl := sm e
    repeat' first | exact rfl | exact trivial | refine ⟨?_, ?_⟩
  · replace e := ifnb hb2 e; (conv => whnf)
    refine brK.ff hb2 ?_; (conv => whnf)
    refine brK.ff hb2 ?_; (conv => whnf)
    obtain rfl := sm e
    repeat' first | exact rfl | exact trivial | refine ⟨?_, ?_⟩

def M_sequentref01_Twin (p : Ty) (r : Ty) : Prop := ∀ (a0 : Ty), a0 = p → Pure Try.prog 125 [(Ty.D a0)] (Ty.D r)
def M_sequentref01_Twin_l0 (p : ((List Ty) × (List Ty) × Ty)) (r : Ty) : Prop := ∀ (rest0 : (List Ty)) (c2_2_0 : (List Ty)) (a0 : Ty), (rest0, c2_2_0, a0) = p → (∀ (k0 : Nat) (hd0 : rest0 = a0.args.drop k0) (hn_c2_2_0 : c2_2_0 = []), RunsL Try.prog Try.f125.ntmps [] (codeAt [1, 1, 0, 1, 0, 0] (bodyOf Try.f125)) (qAt T Try.prog Try.f125.ntmps [] [] [1, 1, 0, 1, 0] (bodyOf Try.f125) (EndPure T Try.f125.results.toList (Ty.D r))) [(1, .ptr 0 0 0), (2, .ptr 0 1 0), (3, .ptr 0 2 0), (4, .d (.int .i64 (k0 : Int)))] [[.cells [.d (.bool a0.v), .d (.str a0.name), .d (.slice 3 (Ty.Ds a0.args))], .cells [.d (.bool false), .d (.str ByteArray.empty), .nil 3], .cells [.d (.bool a0.v), .d (.str a0.name), .nil 3]]]) ∧ (∀ (k0 : Nat) (hd0 : rest0 = a0.args.drop k0), RunsL Try.prog Try.f125.ntmps [] (codeAt [1, 1, 0, 1, 0, 0] (bodyOf Try.f125)) (qAt T Try.prog Try.f125.ntmps [] [] [1, 1, 0, 1, 0] (bodyOf Try.f125) (EndPure T Try.f125.results.toList (Ty.D r))) [(1, .ptr 0 0 0), (2, .ptr 0 1 0), (3, .ptr 0 2 0), (4, .d (.int .i64 (k0 : Int)))] [[.cells [.d (.bool a0.v), .d (.str a0.name), .d (.slice 3 (Ty.Ds a0.args))], .cells [.d (.bool false), .d (.str ByteArray.empty), .nil 3], .cells [.d (.bool a0.v), .d (.str a0.name), .own 0 3 3 (Ty.Ds c2_2_0)], .grow 3 (Ty.Ds c2_2_0).length]])
theorem G_sequentref01_Twin : (∀ p r, sequentref01_Twin' p = some r → M_sequentref01_Twin p r) ∧
    (∀ p r, sequentref01_Twin_l0' p = some r → M_sequentref01_Twin_l0 p r) := by
  refine sequentref01_Twin'.mutual_partial_correctness M_sequentref01_Twin M_sequentref01_Twin_l0 ?_ ?_
  · intro f_sequentref01_Twin_l0 ih_sequentref01_Twin_l0 p r e a0 hp
    subst hp
    refine pure_of_awp (js := []) T_ok Try.func125 rfl (by decide +kernel) rfl ?_; (conv => whnf)
    refine RunsL.runs (RunsL.weak ((ih_sequentref01_Twin_l0 _ _ e _ _ _ rfl).1 0 (by simp) rfl) ?_)
    repeat' first | exact wk.of_eq rfl | exact wk.pure rfl | exact wk.un _ | exact rfl | exact trivial | refine ⟨?_, ?_⟩ | (refine wk.of_eq ?_; (conv => lhs; whnf); (simp [Ty.Ds_all, Ty.D, listAll] <;> (repeat' first | rfl | apply And.intro)); done) | (refine wk.pure ?_; (conv => lhs; whnf); (simp [Ty.Ds_all, Ty.D, listAll] <;> (repeat' first | rfl | apply And.intro)); done) | ((simp [Ty.Ds_all, Ty.D, listAll] <;> (repeat' first | rfl | apply And.intro)); done)
  · intro f_sequentref01_Twin f_sequentref01_Twin_l0 ih_sequentref01_Twin ih_sequentref01_Twin_l0 p r e rest0 c2_2_0 a0 hp
    subst hp
    refine ⟨?_, ?_⟩
    · intro k0 hd0 hn_c2_2_0
      subst hn_c2_2_0
      refine RunsL.len_cell 0 2 rfl rfl rfl fun hlenk0 => ?_
      refine RunsL.of_awp (js := []) T_ok ?_; (conv => whnf)
      have hls := Ty.Ds_len a0.args
      cases rest0 with
      | nil =>
        have hk := drop_nil hd0
        refine ⟨⟨fun h => absurd h (by omega), fun _ => ?_⟩⟩; (conv => whnf)
        obtain rfl := sm e
        repeat' first | exact rfl | exact trivial | refine ⟨?_, ?_⟩
      | cons v1 rest0 =>
        obtain ⟨hxv1, hd0, hltv1⟩ := drop_head hd0
        refine ⟨⟨fun _ => ?_, fun h => absurd (by omega) h⟩⟩; (conv => whnf)
        refine draw_rule T_ok mixed sequentref01_Twin_pl5 (by decide +kernel) ?_; (conv => whnf)
        refine ⟨k0, _, rfl, Ty.Ds_get hxv1, ?_⟩; (conv => whnf)
        refine ⟨Ty.Ds_fit _ rfl rfl, ?_⟩; (conv => whnf)
        obtain ⟨v2, qv2, e⟩ := bnd e
        refine said_pure (ih_sequentref01_Twin _ _ qv2 _ rfl) rfl ⟨rfl, ?_⟩; (conv => whnf)
        refine ⟨⟨⟨rfl, rfl⟩, trivial⟩, ?_⟩; (conv => whnf)
        obtain ⟨v3, qv3, e⟩ := bnd e
        obtain ⟨qv3l, qv3e⟩ := app_some qv3
        refine ⟨(by first | exact qv3l | simpa [Ty.Ds_all, Ty.D, listAll] using qv3l), rfl, fun h => (by first | cases h | simp at h), fun _ => ?_⟩; (conv => whnf)
        refine ⟨((k0 + 1 : Nat) : Int), wrap64e (by omega) (by omega) (by omega), ?_⟩; (conv => whnf)
        refine (RunsL.weak ((ih_sequentref01_Twin_l0 _ _ e _ _ _ rfl).2 (k0 + 1) hd0) ?_)
        repeat' first | exact wk.of_eq rfl | exact wk.pure rfl | exact wk.un _ | exact rfl | exact trivial | refine ⟨?_, ?_⟩ | (refine wk.of_eq ?_; (conv => lhs; whnf); (simp [Ty.Ds_all, Ty.D, listAll, qv3e] <;> (repeat' first | rfl | apply And.intro)); done) | (refine wk.pure ?_; (conv => lhs; whnf); (simp [Ty.Ds_all, Ty.D, listAll, qv3e] <;> (repeat' first | rfl | apply And.intro)); done) | ((simp [Ty.Ds_all, Ty.D, listAll, qv3e] <;> (repeat' first | rfl | apply And.intro)); done)
    · intro k0 hd0
      refine RunsL.len_cell 0 2 rfl rfl rfl fun hlenk0 => ?_
      refine RunsL.of_awp (js := []) T_ok ?_; (conv => whnf)
      have hls := Ty.Ds_len a0.args
      cases rest0 with
      | nil =>
        have hk := drop_nil hd0
        refine ⟨⟨fun h => absurd h (by omega), fun _ => ?_⟩⟩; (conv => whnf)
        obtain rfl := sm e
        repeat' first | exact rfl | exact trivial | exact ⟨_, rfl, (by first | exact rfl | (simp [Ty.Ds_all, Ty.D, listAll] <;> (repeat' first | rfl | apply And.intro))), (by first | exact rfl | (simp [Ty.Ds_all, Ty.D, listAll] <;> (repeat' first | rfl | apply And.intro)))⟩ | refine ⟨?_, ?_⟩ | (simp [Ty.Ds_all, Ty.D, listAll] <;> (repeat' first | rfl | apply And.intro))
      | cons v4 rest0 =>
        obtain ⟨hxv4, hd0, hltv4⟩ := drop_head hd0
        refine ⟨⟨fun _ => ?_, fun h => absurd (by omega) h⟩⟩; (conv => whnf)
        refine draw_rule T_ok mixed sequentref01_Twin_pl5 (by decide +kernel) ?_; (conv => whnf)
        refine ⟨k0, _, rfl, Ty.Ds_get hxv4, ?_⟩; (conv => whnf)
        refine ⟨Ty.Ds_fit _ rfl rfl, ?_⟩; (conv => whnf)
        obtain ⟨v5, qv5, e⟩ := bnd e
        refine said_pure (ih_sequentref01_Twin _ _ qv5 _ rfl) rfl ⟨rfl, ?_⟩; (conv => whnf)
        refine ⟨⟨⟨rfl, rfl⟩, trivial⟩, ?_⟩; (conv => whnf)
        obtain ⟨v6, qv6, e⟩ := bnd e
        obtain ⟨qv6l, qv6e⟩ := app_some qv6
        refine ⟨(by first | exact qv6l | simpa [Ty.Ds_all, Ty.D, listAll] using qv6l), rfl, (by first | rfl | simp [Ty.Ds_all, Ty.D, listAll]), ?_⟩; (conv => whnf)
        refine ⟨((k0 + 1 : Nat) : Int), wrap64e (by omega) (by omega) (by omega), ?_⟩; (conv => whnf)
        refine (RunsL.weak ((ih_sequentref01_Twin_l0 _ _ e _ _ _ rfl).2 (k0 + 1) hd0) ?_)
        repeat' first | exact wk.of_eq rfl | exact wk.pure rfl | exact wk.un _ | exact rfl | exact trivial | refine ⟨?_, ?_⟩ | (refine wk.of_eq ?_; (conv => lhs; whnf); (simp [Ty.Ds_all, Ty.D, listAll, qv6e] <;> (repeat' first | rfl | apply And.intro)); done) | (refine wk.pure ?_; (conv => lhs; whnf); (simp [Ty.Ds_all, Ty.D, listAll, qv6e] <;> (repeat' first | rfl | apply And.intro)); done) | ((simp [Ty.Ds_all, Ty.D, listAll, qv6e] <;> (repeat' first | rfl | apply And.intro)); done)
theorem P_sequentref01_Twin {a0 : Ty} {r : Ty} (e : sequentref01_Twin a0 = some r) : Pure Try.prog 125 [(Ty.D a0)] (Ty.D r) := G_sequentref01_Twin.1 _ _ e _ rfl
theorem P_sequentref01_Twin_l0 {rest0 : (List Ty)} {c2_2_0 : (List Ty)} {a0 : Ty} {r : Ty} (e : sequentref01_Twin_l0 rest0 c2_2_0 a0 = some r) : (∀ (k0 : Nat) (hd0 : rest0 = a0.args.drop k0) (hn_c2_2_0 : c2_2_0 = []), RunsL Try.prog Try.f125.ntmps [] (codeAt [1, 1, 0, 1, 0, 0] (bodyOf Try.f125)) (qAt T Try.prog Try.f125.ntmps [] [] [1, 1, 0, 1, 0] (bodyOf Try.f125) (EndPure T Try.f125.results.toList (Ty.D r))) [(1, .ptr 0 0 0), (2, .ptr 0 1 0), (3, .ptr 0 2 0), (4, .d (.int .i64 (k0 : Int)))] [[.cells [.d (.bool a0.v), .d (.str a0.name), .d (.slice 3 (Ty.Ds a0.args))], .cells [.d (.bool false), .d (.str ByteArray.empty), .nil 3], .cells [.d (.bool a0.v), .d (.str a0.name), .nil 3]]]) ∧ (∀ (k0 : Nat) (hd0 : rest0 = a0.args.drop k0), RunsL Try.prog Try.f125.ntmps [] (codeAt [1, 1, 0, 1, 0, 0] (bodyOf Try.f125)) (qAt T Try.prog Try.f125.ntmps [] [] [1, 1, 0, 1, 0] (bodyOf Try.f125) (EndPure T Try.f125.results.toList (Ty.D r))) [(1, .ptr 0 0 0), (2, .ptr 0 1 0), (3, .ptr 0 2 0), (4, .d (.int .i64 (k0 : Int)))] [[.cells [.d (.bool a0.v), .d (.str a0.name), .d (.slice 3 (Ty.Ds a0.args))], .cells [.d (.bool false), .d (.str ByteArray.empty), .nil 3], .cells [.d (.bool a0.v), .d (.str a0.name), .own 0 3 3 (Ty.Ds c2_2_0)], .grow 3 (Ty.Ds c2_2_0).length]]) := G_sequentref01_Twin.2 _ _ e _ _ _ rfl

theorem P_sequentref01_Fun {a0 : Ty} {a1 : Ty} {r : Ty} (e : sequentref01_Fun a0 a1 = some r) : Pure Try.prog 121 [(Ty.D a0), (Ty.D a1)] (Ty.D r) := by
  unfold sequentref01_Fun at e
  refine pure_of_awp (js := []) T_ok Try.func121 rfl (by decide +kernel) rfl ?_; (conv => whnf)
  refine draw_rule T_ok mixed sequentref01_Fun_pl1 (by decide +kernel) ?_; (conv => whnf)
  obtain ⟨v1, qv1, e⟩ := bnd e
  refine said_pure (P_sequentref01_Twin qv1) rfl ⟨rfl, ?_⟩; (conv => whnf)
  obtain ⟨v2, qv2, e⟩ := bnd e
  refine said_pure (P_sequentref01_Twin qv2) rfl ⟨rfl, ?_⟩; (conv => whnf)
  refine ⟨⟨⟨rfl, rfl⟩, ⟨⟨rfl, rfl⟩, trivial⟩⟩, ?_⟩; (conv => whnf)
  obtain rfl := sm e
  repeat' first | exact rfl | exact trivial | exact ⟨_, rfl, (by first | exact rfl | (simp [Ty.Ds_all, Ty.D, listAll] <;> (repeat' first | rfl | apply And.intro))), (by first | exact rfl | (simp [Ty.Ds_all, Ty.D, listAll] <;> (repeat' first | rfl | apply And.intro)))⟩ | refine ⟨?_, ?_⟩ | (simp [Ty.Ds_all, Ty.D, listAll] <;> (repeat' first | rfl | apply And.intro))

theorem P_sequentref02_Formed_j0 {a0 : Tm} {v49 : (Ty × Bool)} {r : (Ty × Bool)} (e : sequentref02_Formed_j0 a0 v49 = some r) : (∀ (gn2 : Nat), Runs Try.prog Try.f137.ntmps [] (codeAt [1, 0, 1, 0, 1, 1, 1, 1, 1, 1, 1, 0, 1, 1, 0] (bodyOf Try.f137)) (qAt T Try.prog Try.f137.ntmps [] [21] [1, 0, 1, 0, 1, 1, 1, 1, 1, 1, 1, 0, 1, 1, 0] (bodyOf Try.f137) (EndPure T Try.f137.results.toList (.tuple [(Ty.D r.1), (.bool r.2)]))) [(2, .ptr 0 0 0), (4, .ptr 0 1 0), (10, .ptr 0 3 0), (11, .d (.bool v49.2))] [[.cells [.d (.int .u8 a0.kind), .d (.str a0.name), .d (.bool a0.ty.v), .d (.str a0.ty.name), .d (.slice 3 (Ty.Ds a0.ty.args)), .d (.int .i64 a0.index), .d (.slice 7 (Tm.Ds a0.sub))], .cells [.d (.bool false), .d (.str ByteArray.empty), .nil 3], .grow 3 gn2, .cells [.d (.bool v49.1.v), .d (.str v49.1.name), .d (.slice 3 (Ty.Ds v49.1.args))]]]) ∧ (Runs Try.prog Try.f137.ntmps [] (codeAt [1, 0, 1, 0, 1, 1, 1, 1, 1, 1, 1, 0, 1, 1, 0] (bodyOf Try.f137)) (qAt T Try.prog Try.f137.ntmps [] [21] [1, 0, 1, 0, 1, 1, 1, 1, 1, 1, 1, 0, 1, 1, 0] (bodyOf Try.f137) (EndPure T Try.f137.results.toList (.tuple [(Ty.D r.1), (.bool r.2)]))) [(2, .ptr 0 0 0), (4, .ptr 0 1 0), (10, .ptr 0 2 0), (11, .d (.bool v49.2))] [[.cells [.d (.int .u8 a0.kind), .d (.str a0.name), .d (.bool a0.ty.v), .d (.str a0.ty.name), .d (.slice 3 (Ty.Ds a0.ty.args)), .d (.int .i64 a0.index), .d (.slice 7 (Tm.Ds a0.sub))], .cells [.d (.bool false), .d (.str ByteArray.empty), .nil 3], .cells [.d (.bool v49.1.v), .d (.str v49.1.name), .d (.slice 3 (Ty.Ds v49.1.args))]]]) := by
  unfold sequentref02_Formed_j0 at e
  refine ⟨?_, ?_⟩
  · intro gn2
    refine Runs.enter T_ok ?_; (conv => whnf)
    obtain ⟨v50, qv50, e⟩ := bnd e
    refine said_pure (P_sequentref01_Fun qv50) rfl ?_; (conv => whnf)
    refine draw_rule T_ok mixed sequentref02_Formed_pl22 (by decide +kernel) ?_; (conv => whnf)
    refine brK.split (fun hb51 => ?_) (fun hb51 => ?_)
    · replace e := ifpb hb51 e; (conv => whnf)
      refine brK.tt hb51 ?_; (conv => whnf)
      obtain ⟨v52, qv52, e⟩ := bnd e
      refine said_pure (P_sequentref01_Valid qv52) rfl ⟨rfl, ?_⟩; (conv => whnf)
      refine brK.tt hb51 ?_; (conv => whnf)
      obtain rfl := sm e
      repeat' first | exact rfl | exact trivial | refine ⟨?_, ?_⟩
    · replace e := ifnb hb51 e; (conv => whnf)
      refine brK.ff hb51 ?_; (conv => whnf)
      refine brK.ff hb51 ?_; (conv => whnf)
      obtain rfl := sm e
      repeat' first | exact rfl | exact trivial | refine ⟨?_, ?_⟩
  · refine Runs.enter T_ok ?_; (conv => whnf)
    obtain ⟨v53, qv53, e⟩ := bnd e
    refine said_pure (P_sequentref01_Fun qv53) rfl ?_; (conv => whnf)
    refine draw_rule T_ok mixed sequentref02_Formed_pl22 (by decide +kernel) ?_; (conv => whnf)
    refine brK.split (fun hb54 => ?_) (fun hb54 => ?_)
    · replace e := ifpb hb54 e; (conv => whnf)
      refine brK.tt hb54 ?_; (conv => whnf)
      obtain ⟨v55, qv55, e⟩ := bnd e
      refine said_pure (P_sequentref01_Valid qv55) rfl ⟨rfl, ?_⟩; (conv => whnf)
      refine brK.tt hb54 ?_; (conv => whnf)
      obtain rfl := sm e
      repeat' first | exact rfl | exact trivial | refine ⟨?_, ?_⟩
    · replace e := ifnb hb54 e; (conv => whnf)
      refine brK.ff hb54 ?_; (conv => whnf)
      refine brK.ff hb54 ?_; (conv => whnf)
      obtain rfl := sm e
      repeat' first | exact rfl | exact trivial | refine ⟨?_, ?_⟩

theorem P_sequentref02_Name {a0 : ByteArray} {r : Bool} (e : sequentref02_Name a0 = some r) : Pure Try.prog 152 [(.str a0)] (.bool r) := by
  unfold sequentref02_Name at e
  refine pure_of_awp (js := []) T_ok Try.func152 rfl (by decide +kernel) rfl ?_; (conv => whnf)
  obtain ⟨v1, qv1, e⟩ := bnd e
  refine said_pure (P_sequentref01_Name qv1) rfl ?_; (conv => whnf)
  refine brK.split (fun hb2 => ?_) (fun hb2 => ?_)
  · replace e := ifpb hb2 e; (conv => whnf)
    refine brK.tt hb2 ?_; (conv => whnf)
    obtain ⟨v3, qv3, e⟩ := bnd e
    obtain ⟨qv3k, qv3q, qv3a, qv3b, qv3c⟩ := getb_some qv3
    refine ⟨qv3k, qv3q, qv3a, qv3b, ?_⟩; rw [qv3c]; (conv => whnf)
    refine brK.tt hb2 ?_; (conv => whnf)
    refine test.dec ?_; (conv => whnf)
    refine brK.tt hb2 ?_; (conv => whnf)
    obtain rfl := sm e
    repeat' first | exact rfl | exact trivial | refine ⟨?_, ?_⟩
  · replace e := ifnb hb2 e; (conv => whnf)
    refine brK.ff hb2 ?_; (conv => whnf)
    refine brK.ff hb2 ?_; (conv => whnf)
    refine brK.ff hb2 ?_; (conv => whnf)
    obtain rfl := sm e
    repeat' first | exact rfl | exact trivial | refine ⟨?_, ?_⟩

theorem P_sequentref02_none {a0 : Ty} {r : Bool} (e : sequentref02_none a0 = some r) : Pure Try.prog 154 [(Ty.D a0)] (.bool r) := by
  unfold sequentref02_none at e
  refine pure_of_awp (js := []) T_ok Try.func154 rfl (by decide +kernel) rfl ?_; (conv => whnf)
  refine brK.nsplit (fun hb1 => ?_) (fun hb1 => ?_)
  · replace e := ifpb hb1 e; (conv => whnf)
    refine brK.ntt hb1 ?_; (conv => whnf)
    refine brK.ntt hb1 ?_; (conv => whnf)
    refine brK.ntt hb1 ?_; (conv => whnf)
    obtain rfl := sm e
    repeat' first | exact rfl | exact trivial | refine ⟨?_, ?_⟩
  · replace e := ifnb hb1 e; (conv => whnf)
    refine brK.nff hb1 ?_; (conv => whnf)
    refine brK.nff hb1 ?_; (conv => whnf)
    refine ⟨⟨fun h2 => ?_, fun h2 => ?_⟩⟩
    · replace e := ifp h2 e; (conv => whnf)
      refine brK.nff hb1 ?_; (conv => whnf)
      refine test.dec ?_; (conv => whnf)
      obtain rfl := sm e
      repeat' first | exact rfl | exact trivial | refine ⟨?_, ?_⟩
    · replace e := ifn h2 e; (conv => whnf)
      refine brK.nff hb1 ?_; (conv => whnf)
      obtain rfl := sm e
      repeat' first | exact rfl | exact trivial | refine ⟨?_, ?_⟩

def M_sequentref02_Formed (p : (Tm × (List Ty))) (r : (Ty × Bool)) : Prop := ∀ (a0 : Tm) (a1 : (List Ty)), (a0, a1) = p → Pure Try.prog 137 [(Tm.D a0), (.slice 3 (Ty.Ds a1))] (.tuple [(Ty.D r.1), (.bool r.2)])
theorem G_sequentref02_Formed : (∀ p r, sequentref02_Formed' p = some r → M_sequentref02_Formed p r) := by
  refine sequentref02_Formed'.partial_correctness M_sequentref02_Formed ?_
  · intro f_sequentref02_Formed ih_sequentref02_Formed p r e a0 a1 hp
    subst hp
    refine pure_of_awp (js := [21]) T_ok Try.func137 rfl (by decide +kernel) rfl ?_; (conv => whnf)
    refine ⟨⟨fun h1 => ?_, fun h1 => ?_⟩⟩
    · replace e := ifp h1 e; (conv => whnf)
      refine draw_rule T_ok mixed sequentref02_Formed_pl4 (by decide +kernel) ?_; (conv => whnf)
      obtain ⟨v2, qv2, e⟩ := bnd e
      refine said_pure (P_sequentref02_Name qv2) rfl ⟨rfl, ?_⟩; (conv => whnf)
      refine brK.split (fun hb3 => ?_) (fun hb3 => ?_)
      · replace e := ifpb hb3 e; (conv => whnf)
        refine brK.tt hb3 ?_; (conv => whnf)
        refine brK.tt hb3 ?_; (conv => whnf)
        obtain ⟨v4, qv4, e⟩ := bnd e
        refine said_pure (P_sequentref01_Valid qv4) rfl ⟨rfl, ?_⟩; (conv => whnf)
        refine brK.tt hb3 ?_; (conv => whnf)
        refine brK.split (fun hb5 => ?_) (fun hb5 => ?_)
        · replace e := ifpb hb5 e; (conv => whnf)
          refine brK.tt hb5 ?_; (conv => whnf)
          refine brK.tt hb5 ?_; (conv => whnf)
          refine ⟨⟨fun h6 => ?_, fun h6 => ?_⟩⟩
          · replace e := ifp h6 e; (conv => whnf)
            refine brK.tt hb5 ?_; (conv => whnf)
            refine test.dec ?_; (conv => whnf)
            obtain rfl := sm e
            repeat' first | exact rfl | exact trivial | refine ⟨?_, ?_⟩
          · replace e := ifn h6 e; (conv => whnf)
            refine brK.tt hb5 ?_; (conv => whnf)
            obtain rfl := sm e
            repeat' first | exact rfl | exact trivial | refine ⟨?_, ?_⟩
        · replace e := ifnb hb5 e; (conv => whnf)
          refine brK.ff hb5 ?_; (conv => whnf)
          refine brK.ff hb5 ?_; (conv => whnf)
          refine brK.ff hb5 ?_; (conv => whnf)
          obtain rfl := sm e
          repeat' first | exact rfl | exact trivial | refine ⟨?_, ?_⟩
      · replace e := ifnb hb3 e; (conv => whnf)
        refine brK.ff hb3 ?_; (conv => whnf)
        refine brK.ff hb3 ?_; (conv => whnf)
        refine brK.ff hb3 ?_; (conv => whnf)
        obtain rfl := sm e
        repeat' first | exact rfl | exact trivial | refine ⟨?_, ?_⟩
    · replace e := ifn h1 e; (conv => whnf)
      refine ⟨⟨fun h7 => ?_, fun h7 => ?_⟩⟩
      · replace e := ifp h7 e; (conv => whnf)
        refine draw_rule T_ok mixed sequentref02_Formed_pl4 (by decide +kernel) ?_; (conv => whnf)
        obtain ⟨v8, qv8, e⟩ := bnd e
        refine said_pure (P_sequentref02_Name qv8) rfl ⟨rfl, ?_⟩; (conv => whnf)
        refine brK.split (fun hb9 => ?_) (fun hb9 => ?_)
        · replace e := ifpb hb9 e; (conv => whnf)
          refine brK.tt hb9 ?_; (conv => whnf)
          refine brK.tt hb9 ?_; (conv => whnf)
          obtain ⟨v10, qv10, e⟩ := bnd e
          refine said_pure (P_sequentref01_Valid qv10) rfl ⟨rfl, ?_⟩; (conv => whnf)
          refine brK.tt hb9 ?_; (conv => whnf)
          refine brK.split (fun hb11 => ?_) (fun hb11 => ?_)
          · replace e := ifpb hb11 e; (conv => whnf)
            refine brK.tt hb11 ?_; (conv => whnf)
            refine brK.tt hb11 ?_; (conv => whnf)
            refine ⟨⟨fun h12 => ?_, fun h12 => ?_⟩⟩
            · replace e := ifp h12 e; (conv => whnf)
              refine brK.tt hb11 ?_; (conv => whnf)
              refine test.dec ?_; (conv => whnf)
              obtain rfl := sm e
              repeat' first | exact rfl | exact trivial | refine ⟨?_, ?_⟩
            · replace e := ifn h12 e; (conv => whnf)
              refine brK.tt hb11 ?_; (conv => whnf)
              obtain rfl := sm e
              repeat' first | exact rfl | exact trivial | refine ⟨?_, ?_⟩
          · replace e := ifnb hb11 e; (conv => whnf)
            refine brK.ff hb11 ?_; (conv => whnf)
            refine brK.ff hb11 ?_; (conv => whnf)
            refine brK.ff hb11 ?_; (conv => whnf)
            obtain rfl := sm e
            repeat' first | exact rfl | exact trivial | refine ⟨?_, ?_⟩
        · replace e := ifnb hb9 e; (conv => whnf)
          refine brK.ff hb9 ?_; (conv => whnf)
          refine brK.ff hb9 ?_; (conv => whnf)
          refine brK.ff hb9 ?_; (conv => whnf)
          obtain rfl := sm e
          repeat' first | exact rfl | exact trivial | refine ⟨?_, ?_⟩
      · replace e := ifn h7 e; (conv => whnf)
        refine ⟨⟨fun h13 => ?_, fun h13 => ?_⟩⟩
        · replace e := ifp h13 e; (conv => whnf)
          refine ⟨⟨fun h14 => ?_, fun h14 => ?_⟩⟩
          · replace e := ifp h14 e; (conv => whnf)
            obtain rfl := sm e
            repeat' first | exact rfl | exact trivial | refine ⟨?_, ?_⟩
          · replace e := ifn h14 e; (conv => whnf)
            obtain ⟨v15, qv15, e⟩ := bnd e
            refine said_pure (P_sequentref02_none qv15) rfl ?_; (conv => whnf)
            refine brK.nsplit (fun hb16 => ?_) (fun hb16 => ?_)
            · replace e := ifpb hb16 e; (conv => whnf)
              refine brK.ntt hb16 ?_; (conv => whnf)
              refine brK.ntt hb16 ?_; (conv => whnf)
              refine brK.ntt hb16 ?_; (conv => whnf)
              refine ⟨⟨fun h17 => ?_, fun h17 => ?_⟩⟩
              · replace e := ifp (by first | exact h17 | simpa [Tm.Ds_all, Ty.Ds_all, Tm.D, Ty.D, listAll] using h17) e; (conv => whnf)
                refine brK.ntt hb16 ?_; (conv => whnf)
                obtain rfl := sm e
                repeat' first | exact rfl | exact trivial | refine ⟨?_, ?_⟩
              · replace e := ifn (by first | exact h17 | simpa [Tm.Ds_all, Ty.Ds_all, Tm.D, Ty.D, listAll] using h17) e; (conv => whnf)
                refine brK.ntt hb16 ?_; (conv => whnf)
                refine ⟨⟨fun h18 => ?_, fun h18 => ?_⟩⟩
                · replace e := ifp h18 e; (conv => whnf)
                  obtain rfl := sm e
                  repeat' first | exact rfl | exact trivial | refine ⟨?_, ?_⟩
                · replace e := ifn h18 e; (conv => whnf)
                  refine ⟨⟨fun h19 => ?_, fun h19 => ?_⟩⟩
                  · replace e := ifp (by first | exact h19 | simpa [Tm.Ds_all, Ty.Ds_all, Tm.D, Ty.D, listAll] using h19) e; (conv => whnf)
                    obtain rfl := sm e
                    repeat' first | exact rfl | exact trivial | refine ⟨?_, ?_⟩
                  · replace e := ifn (by first | exact h19 | simpa [Tm.Ds_all, Ty.Ds_all, Tm.D, Ty.D, listAll] using h19) e; (conv => whnf)
                    obtain ⟨v20, qv20, e⟩ := bnd e
                    obtain ⟨qv20k, qv20a, qv20b⟩ := geti_some qv20
                    refine ⟨qv20k, _, qv20a, Ty.Ds_get qv20b, ?_⟩; (conv => whnf)
                    refine ⟨Ty.Ds_fit _ rfl rfl, ?_⟩; (conv => whnf)
                    obtain rfl := sm e
                    repeat' first | exact rfl | exact trivial | refine ⟨?_, ?_⟩
            · replace e := ifnb hb16 e; (conv => whnf)
              refine brK.nff hb16 ?_; (conv => whnf)
              refine brK.nff hb16 ?_; (conv => whnf)
              refine brK.nff hb16 ?_; (conv => whnf)
              refine brK.nff hb16 ?_; (conv => whnf)
              obtain rfl := sm e
              repeat' first | exact rfl | exact trivial | refine ⟨?_, ?_⟩
        · replace e := ifn h13 e; (conv => whnf)
          refine ⟨⟨fun h21 => ?_, fun h21 => ?_⟩⟩
          · replace e := ifp h21 e; (conv => whnf)
            refine ⟨⟨fun h22 => ?_, fun h22 => ?_⟩⟩
            · replace e := ifp h22 e; (conv => whnf)
              obtain rfl := sm e
              repeat' first | exact rfl | exact trivial | refine ⟨?_, ?_⟩
            · replace e := ifn h22 e; (conv => whnf)
              obtain ⟨v23, qv23, e⟩ := bnd e
              refine said_pure (P_sequentref02_none qv23) rfl ?_; (conv => whnf)
              refine brK.nsplit (fun hb24 => ?_) (fun hb24 => ?_)
              · replace e := ifpb hb24 e; (conv => whnf)
                refine brK.ntt hb24 ?_; (conv => whnf)
                refine brK.ntt hb24 ?_; (conv => whnf)
                refine ⟨⟨fun h25 => ?_, fun h25 => ?_⟩⟩
                · replace e := ifp h25 e; (conv => whnf)
                  refine brK.ntt hb24 ?_; (conv => whnf)
                  obtain rfl := sm e
                  repeat' first | exact rfl | exact trivial | refine ⟨?_, ?_⟩
                · replace e := ifn h25 e; (conv => whnf)
                  refine brK.ntt hb24 ?_; (conv => whnf)
                  refine ⟨⟨fun h26 => ?_, fun h26 => ?_⟩⟩
                  · replace e := ifp (by first | exact h26 | simpa [Tm.Ds_all, Ty.Ds_all, Tm.D, Ty.D, listAll] using h26) e; (conv => whnf)
                    obtain rfl := sm e
                    repeat' first | exact rfl | exact trivial | refine ⟨?_, ?_⟩
                  · replace e := ifn (by first | exact h26 | simpa [Tm.Ds_all, Ty.Ds_all, Tm.D, Ty.D, listAll] using h26) e; (conv => whnf)
                    obtain ⟨v27, qv27, e⟩ := bnd e
                    obtain ⟨qv27k, qv27a, qv27b⟩ := geti_some qv27
                    refine ⟨qv27k, _, qv27a, Tm.Ds_get qv27b, ?_⟩; (conv => whnf)
                    refine ⟨Tm.Ds_fit _ rfl rfl, ?_⟩; (conv => whnf)
                    obtain ⟨v28, qv28, e⟩ := bnd e
                    refine said_pure (ih_sequentref02_Formed _ _ qv28 _ _ rfl) rfl ?_; (conv => whnf)
                    obtain ⟨v29, qv29, e⟩ := bnd e
                    obtain ⟨qv29k, qv29a, qv29b⟩ := geti_some qv29
                    refine ⟨qv29k, _, qv29a, Tm.Ds_get qv29b, ?_⟩; (conv => whnf)
                    refine ⟨Tm.Ds_fit _ rfl rfl, ?_⟩; (conv => whnf)
                    obtain ⟨v30, qv30, e⟩ := bnd e
                    refine said_pure (ih_sequentref02_Formed _ _ qv30 _ _ rfl) rfl ?_; (conv => whnf)
                    refine draw_rule T_ok mixed sequentref02_Formed_pl14 (by decide +kernel) ?_; (conv => whnf)
                    refine brK.nsplit (fun hb31 => ?_) (fun hb31 => ?_)
                    · replace e := ifpb hb31 e; (conv => whnf)
                      refine brK.ntt hb31 ?_; (conv => whnf)
                      refine brK.ntt hb31 ?_; (conv => whnf)
                      refine brK.nsplit (fun hb32 => ?_) (fun hb32 => ?_)
                      · replace e := ifpb hb32 e; (conv => whnf)
                        refine brK.ntt hb32 ?_; (conv => whnf)
                        refine brK.ntt hb32 ?_; (conv => whnf)
                        refine brK.split (fun hb33 => ?_) (fun hb33 => ?_)
                        · replace e := ifpb hb33 e; (conv => whnf)
                          refine brK.tt hb33 ?_; (conv => whnf)
                          refine brK.tt hb33 ?_; (conv => whnf)
                          refine brK.tt hb33 ?_; (conv => whnf)
                          obtain rfl := sm e
                          repeat' first | exact rfl | exact trivial | refine ⟨?_, ?_⟩
                        · replace e := ifnb hb33 e; (conv => whnf)
                          refine brK.ff hb33 ?_; (conv => whnf)
                          refine brK.ff hb33 ?_; (conv => whnf)
                          refine ⟨⟨fun h34 => ?_, fun h34 => ?_⟩⟩
                          · replace e := ifp h34 e; (conv => whnf)
                            refine brK.ff hb33 ?_; (conv => whnf)
                            obtain rfl := sm e
                            repeat' first | exact rfl | exact trivial | refine ⟨?_, ?_⟩
                          · replace e := ifn h34 e; (conv => whnf)
                            refine brK.ff hb33 ?_; (conv => whnf)
                            refine ⟨⟨fun h35 => ?_, fun h35 => ?_⟩⟩
                            · replace e := ifp (by first | exact h35 | simpa [Tm.Ds_all, Ty.Ds_all, Tm.D, Ty.D, listAll] using h35) e; (conv => whnf)
                              obtain rfl := sm e
                              repeat' first | exact rfl | exact trivial | refine ⟨?_, ?_⟩
                            · replace e := ifn (by first | exact h35 | simpa [Tm.Ds_all, Ty.Ds_all, Tm.D, Ty.D, listAll] using h35) e; (conv => whnf)
                              obtain ⟨v36, qv36, e⟩ := bnd e
                              obtain ⟨qv36k, qv36a, qv36b⟩ := geti_some qv36
                              refine ⟨qv36k, _, qv36a, Ty.Ds_get qv36b, ?_⟩; (conv => whnf)
                              refine ⟨Ty.Ds_fit _ rfl rfl, ?_⟩; (conv => whnf)
                              obtain ⟨v37, qv37, e⟩ := bnd e
                              refine said_pure (P_sequentref01_Same qv37) rfl ⟨rfl, ?_⟩; (conv => whnf)
                              refine brK.nsplit (fun hb38 => ?_) (fun hb38 => ?_)
                              · replace e := ifpb hb38 e; (conv => whnf)
                                obtain ⟨v39, qv39, e⟩ := bnd e
                                obtain ⟨qv39k, qv39a, qv39b⟩ := geti_some qv39
                                refine ⟨qv39k, _, qv39a, Ty.Ds_get qv39b, ?_⟩; (conv => whnf)
                                refine ⟨Ty.Ds_fit _ rfl rfl, ?_⟩; (conv => whnf)
                                obtain rfl := sm e
                                repeat' first | exact rfl | exact trivial | refine ⟨?_, ?_⟩
                              · replace e := ifnb hb38 e; (conv => whnf)
                                obtain rfl := sm e
                                repeat' first | exact rfl | exact trivial | refine ⟨?_, ?_⟩
                      · replace e := ifnb hb32 e; (conv => whnf)
                        refine brK.nff hb32 ?_; (conv => whnf)
                        refine brK.nff hb32 ?_; (conv => whnf)
                        obtain rfl := sm e
                        repeat' first | exact rfl | exact trivial | refine ⟨?_, ?_⟩
                    · replace e := ifnb hb31 e; (conv => whnf)
                      refine brK.nff hb31 ?_; (conv => whnf)
                      refine brK.nff hb31 ?_; (conv => whnf)
                      obtain rfl := sm e
                      repeat' first | exact rfl | exact trivial | refine ⟨?_, ?_⟩
              · replace e := ifnb hb24 e; (conv => whnf)
                refine brK.nff hb24 ?_; (conv => whnf)
                refine brK.nff hb24 ?_; (conv => whnf)
                refine brK.nff hb24 ?_; (conv => whnf)
                obtain rfl := sm e
                repeat' first | exact rfl | exact trivial | refine ⟨?_, ?_⟩
          · replace e := ifn h21 e; (conv => whnf)
            refine ⟨⟨fun h40 => ?_, fun h40 => ?_⟩⟩
            · replace e := ifp h40 e; (conv => whnf)
              obtain ⟨v41, qv41, e⟩ := bnd e
              refine said_pure (P_sequentref02_Name qv41) rfl ?_; (conv => whnf)
              refine brK.nsplit (fun hb42 => ?_) (fun hb42 => ?_)
              · replace e := ifpb hb42 e; (conv => whnf)
                refine brK.ntt hb42 ?_; (conv => whnf)
                refine brK.ntt hb42 ?_; (conv => whnf)
                obtain ⟨v43, qv43, e⟩ := bnd e
                refine said_pure (P_sequentref01_Valid qv43) rfl ?_; (conv => whnf)
                refine brK.ntt hb42 ?_; (conv => whnf)
                refine brK.ntt hb42 ?_; (conv => whnf)
                refine brK.nsplit (fun hb44 => ?_) (fun hb44 => ?_)
                · replace e := ifpb hb44 e; (conv => whnf)
                  refine brK.ntt hb44 ?_; (conv => whnf)
                  refine brK.ntt hb44 ?_; (conv => whnf)
                  refine ⟨⟨fun h45 => ?_, fun h45 => ?_⟩⟩
                  · replace e := ifp h45 e; (conv => whnf)
                    refine brK.ntt hb44 ?_; (conv => whnf)
                    obtain rfl := sm e
                    repeat' first | exact rfl | exact trivial | refine ⟨?_, ?_⟩
                  · replace e := ifn h45 e; (conv => whnf)
                    refine brK.ntt hb44 ?_; (conv => whnf)
                    refine ⟨⟨fun h46 => ?_, fun h46 => ?_⟩⟩
                    · replace e := ifp (by first | exact h46 | simpa [Tm.Ds_all, Ty.Ds_all, Tm.D, Ty.D, listAll] using h46) e; (conv => whnf)
                      obtain rfl := sm e
                      repeat' first | exact rfl | exact trivial | refine ⟨?_, ?_⟩
                    · replace e := ifn (by first | exact h46 | simpa [Tm.Ds_all, Ty.Ds_all, Tm.D, Ty.D, listAll] using h46) e; (conv => whnf)
                      refine draw_rule T_ok mixed sequentref02_Formed_pl20 (by decide +kernel) ?_; (conv => whnf)
                      obtain ⟨v47, qv47, e⟩ := bnd e
                      obtain ⟨qv47k, qv47a, qv47b⟩ := geti_some qv47
                      refine ⟨qv47k, _, qv47a, Tm.Ds_get qv47b, ?_⟩; (conv => whnf)
                      refine ⟨Tm.Ds_fit _ rfl rfl, ?_⟩; (conv => whnf)
                      refine ⟨⟨⟨rfl, rfl⟩, trivial⟩, ?_⟩; (conv => whnf)
                      obtain ⟨v48, qv48, e⟩ := bnd e
                      obtain ⟨v49, qv49, e⟩ := bnd e
                      refine ⟨?_, ?_⟩
                      · (conv => whnf)
                        obtain ⟨qv48l, qv48e⟩ := app_some qv48
                        refine ⟨(by first | exact qv48l | simpa [Tm.Ds_all, Ty.Ds_all, Tm.D, Ty.D, listAll] using qv48l), rfl, fun hz => ?_, fun hz => ?_⟩
                        · have hyv48 : a1 = [] := by simpa [Ty.Ds_map, List.map_eq_nil_iff, Tm.Ds_all, Ty.Ds_all, Tm.D, Ty.D, listAll] using hz
                          have hzv48 : v48 = [a0.ty] := by rw [qv48e, hyv48]; simp
                          (conv => whnf)
                          refine ⟨?_, ?_⟩
                          · (conv => whnf)
                            first | (refine said_pure (ih_sequentref02_Formed _ _ qv49 _ _ rfl) rfl ⟨rfl, ?_⟩) | (refine said_pure2 (ih_sequentref02_Formed _ _ qv49 _ _ rfl) rfl (by simp [Tm.Ds_all, Ty.Ds_all, Tm.D, Ty.D, listAll, hzv48] <;> (repeat' first | rfl | apply And.intro)) ⟨rfl, ?_⟩)
                            (conv => whnf)
                            refine Runs.weak (P_sequentref02_Formed_j0 e).2 ?_
                            repeat' first | exact wk.of_eq rfl | exact wk.pure rfl | exact wk.un _ | exact rfl | exact trivial | refine ⟨?_, ?_⟩ | (refine wk.of_eq ?_; (conv => lhs; whnf); (simp [Tm.Ds_all, Ty.Ds_all, Tm.D, Ty.D, listAll, hzv48] <;> (repeat' first | rfl | apply And.intro)); done) | (refine wk.pure ?_; (conv => lhs; whnf); (simp [Tm.Ds_all, Ty.Ds_all, Tm.D, Ty.D, listAll, hzv48] <;> (repeat' first | rfl | apply And.intro)); done) | ((simp [Tm.Ds_all, Ty.Ds_all, Tm.D, Ty.D, listAll, hzv48] <;> (repeat' first | rfl | apply And.intro)); done)
                          · (conv => whnf)
                            first | (refine said_pure (ih_sequentref02_Formed _ _ qv49 _ _ rfl) rfl ⟨rfl, ?_⟩) | (refine said_pure2 (ih_sequentref02_Formed _ _ qv49 _ _ rfl) rfl (by simp [Tm.Ds_all, Ty.Ds_all, Tm.D, Ty.D, listAll, hzv48] <;> (repeat' first | rfl | apply And.intro)) ⟨rfl, ?_⟩)
                            (conv => whnf)
                            refine Runs.weak (P_sequentref02_Formed_j0 e).2 ?_
                            repeat' first | exact wk.of_eq rfl | exact wk.pure rfl | exact wk.un _ | exact rfl | exact trivial | refine ⟨?_, ?_⟩ | (refine wk.of_eq ?_; (conv => lhs; whnf); (simp [Tm.Ds_all, Ty.Ds_all, Tm.D, Ty.D, listAll, hzv48] <;> (repeat' first | rfl | apply And.intro)); done) | (refine wk.pure ?_; (conv => lhs; whnf); (simp [Tm.Ds_all, Ty.Ds_all, Tm.D, Ty.D, listAll, hzv48] <;> (repeat' first | rfl | apply And.intro)); done) | ((simp [Tm.Ds_all, Ty.Ds_all, Tm.D, Ty.D, listAll, hzv48] <;> (repeat' first | rfl | apply And.intro)); done)
                        · (conv => whnf)
                          refine ⟨?_, ?_⟩
                          · (conv => whnf)
                            first | (refine said_pure (ih_sequentref02_Formed _ _ qv49 _ _ rfl) rfl ⟨rfl, ?_⟩) | (refine said_pure2 (ih_sequentref02_Formed _ _ qv49 _ _ rfl) rfl (by simp [Tm.Ds_all, Ty.Ds_all, Tm.D, Ty.D, listAll, qv48e] <;> (repeat' first | rfl | apply And.intro)) ⟨rfl, ?_⟩)
                            (conv => whnf)
                            refine Runs.weak ((P_sequentref02_Formed_j0 e).1 ?_) ?_
                            repeat' first | exact wk.of_eq rfl | exact wk.pure rfl | exact wk.un _ | exact rfl | exact trivial | refine ⟨?_, ?_⟩ | (refine wk.of_eq ?_; (conv => lhs; whnf); (simp [Tm.Ds_all, Ty.Ds_all, Tm.D, Ty.D, listAll, qv48e] <;> (repeat' first | rfl | apply And.intro)); done) | (refine wk.pure ?_; (conv => lhs; whnf); (simp [Tm.Ds_all, Ty.Ds_all, Tm.D, Ty.D, listAll, qv48e] <;> (repeat' first | rfl | apply And.intro)); done) | ((simp [Tm.Ds_all, Ty.Ds_all, Tm.D, Ty.D, listAll, qv48e] <;> (repeat' first | rfl | apply And.intro)); done)
                          · (conv => whnf)
                            first | (refine said_pure (ih_sequentref02_Formed _ _ qv49 _ _ rfl) rfl ⟨rfl, ?_⟩) | (refine said_pure2 (ih_sequentref02_Formed _ _ qv49 _ _ rfl) rfl (by simp [Tm.Ds_all, Ty.Ds_all, Tm.D, Ty.D, listAll, qv48e] <;> (repeat' first | rfl | apply And.intro)) ⟨rfl, ?_⟩)
                            (conv => whnf)
                            refine Runs.weak ((P_sequentref02_Formed_j0 e).1 ?_) ?_
                            repeat' first | exact wk.of_eq rfl | exact wk.pure rfl | exact wk.un _ | exact rfl | exact trivial | refine ⟨?_, ?_⟩ | (refine wk.of_eq ?_; (conv => lhs; whnf); (simp [Tm.Ds_all, Ty.Ds_all, Tm.D, Ty.D, listAll, qv48e] <;> (repeat' first | rfl | apply And.intro)); done) | (refine wk.pure ?_; (conv => lhs; whnf); (simp [Tm.Ds_all, Ty.Ds_all, Tm.D, Ty.D, listAll, qv48e] <;> (repeat' first | rfl | apply And.intro)); done) | ((simp [Tm.Ds_all, Ty.Ds_all, Tm.D, Ty.D, listAll, qv48e] <;> (repeat' first | rfl | apply And.intro)); done)
                      · (conv => whnf)
                        obtain ⟨qv48l, qv48e⟩ := app_some qv48
                        refine ⟨(by first | exact qv48l | simpa [Tm.Ds_all, Ty.Ds_all, Tm.D, Ty.D, listAll] using qv48l), rfl, fun hz => ?_, fun hz => ?_⟩
                        · have hyv48 : a1 = [] := by simpa [Ty.Ds_map, List.map_eq_nil_iff, Tm.Ds_all, Ty.Ds_all, Tm.D, Ty.D, listAll] using hz
                          have hzv48 : v48 = [a0.ty] := by rw [qv48e, hyv48]; simp
                          (conv => whnf)
                          first | (refine said_pure (ih_sequentref02_Formed _ _ qv49 _ _ rfl) rfl ⟨rfl, ?_⟩) | (refine said_pure2 (ih_sequentref02_Formed _ _ qv49 _ _ rfl) rfl (by simp [Tm.Ds_all, Ty.Ds_all, Tm.D, Ty.D, listAll, hzv48] <;> (repeat' first | rfl | apply And.intro)) ⟨rfl, ?_⟩)
                          (conv => whnf)
                          refine Runs.weak (P_sequentref02_Formed_j0 e).2 ?_
                          repeat' first | exact wk.of_eq rfl | exact wk.pure rfl | exact wk.un _ | exact rfl | exact trivial | refine ⟨?_, ?_⟩ | (refine wk.of_eq ?_; (conv => lhs; whnf); (simp [Tm.Ds_all, Ty.Ds_all, Tm.D, Ty.D, listAll, hzv48] <;> (repeat' first | rfl | apply And.intro)); done) | (refine wk.pure ?_; (conv => lhs; whnf); (simp [Tm.Ds_all, Ty.Ds_all, Tm.D, Ty.D, listAll, hzv48] <;> (repeat' first | rfl | apply And.intro)); done) | ((simp [Tm.Ds_all, Ty.Ds_all, Tm.D, Ty.D, listAll, hzv48] <;> (repeat' first | rfl | apply And.intro)); done)
                        · (conv => whnf)
                          first | (refine said_pure (ih_sequentref02_Formed _ _ qv49 _ _ rfl) rfl ⟨rfl, ?_⟩) | (refine said_pure2 (ih_sequentref02_Formed _ _ qv49 _ _ rfl) rfl (by simp [Tm.Ds_all, Ty.Ds_all, Tm.D, Ty.D, listAll, qv48e] <;> (repeat' first | rfl | apply And.intro)) ⟨rfl, ?_⟩)
                          (conv => whnf)
                          refine Runs.weak (P_sequentref02_Formed_j0 e).2 ?_
                          repeat' first | exact wk.of_eq rfl | exact wk.pure rfl | exact wk.un _ | exact rfl | exact trivial | refine ⟨?_, ?_⟩ | (refine wk.of_eq ?_; (conv => lhs; whnf); (simp [Tm.Ds_all, Ty.Ds_all, Tm.D, Ty.D, listAll, qv48e] <;> (repeat' first | rfl | apply And.intro)); done) | (refine wk.pure ?_; (conv => lhs; whnf); (simp [Tm.Ds_all, Ty.Ds_all, Tm.D, Ty.D, listAll, qv48e] <;> (repeat' first | rfl | apply And.intro)); done) | ((simp [Tm.Ds_all, Ty.Ds_all, Tm.D, Ty.D, listAll, qv48e] <;> (repeat' first | rfl | apply And.intro)); done)
                · replace e := ifnb hb44 e; (conv => whnf)
                  refine brK.nff hb44 ?_; (conv => whnf)
                  refine brK.nff hb44 ?_; (conv => whnf)
                  refine brK.nff hb44 ?_; (conv => whnf)
                  obtain rfl := sm e
                  repeat' first | exact rfl | exact trivial | refine ⟨?_, ?_⟩
              · replace e := ifnb hb42 e; (conv => whnf)
                refine brK.nff hb42 ?_; (conv => whnf)
                refine brK.nff hb42 ?_; (conv => whnf)
                refine brK.nff hb42 ?_; (conv => whnf)
                refine brK.nff hb42 ?_; (conv => whnf)
                obtain rfl := sm e
                repeat' first | exact rfl | exact trivial | refine ⟨?_, ?_⟩
            · replace e := ifn h40 e; (conv => whnf)
              obtain rfl := sm e
              repeat' first | exact rfl | exact trivial | refine ⟨?_, ?_⟩
theorem P_sequentref02_Formed {a0 : Tm} {a1 : (List Ty)} {r : (Ty × Bool)} (e : sequentref02_Formed a0 a1 = some r) : Pure Try.prog 137 [(Tm.D a0), (.slice 3 (Ty.Ds a1))] (.tuple [(Ty.D r.1), (.bool r.2)]) := G_sequentref02_Formed _ _ e _ _ rfl

theorem P_sequentref02_Check {a0 : Tm} {r : Int} (e : sequentref02_Check a0 = some r) : Pure Try.prog 97 [(Tm.D a0)] (.int .i64 r) := by
  unfold sequentref02_Check at e
  refine pure_of_awp (js := []) T_ok Try.func97 rfl (by decide +kernel) rfl ?_; (conv => whnf)
  obtain ⟨v1, qv1, e⟩ := bnd e
  refine said_pure (P_sequentref02_Small qv1) rfl ?_; (conv => whnf)
  refine brK.nsplit (fun hb2 => ?_) (fun hb2 => ?_)
  · replace e := ifpb hb2 e; (conv => whnf)
    obtain ⟨v3, qv3, e⟩ := bnd e
    refine said_pure (P_sequentref02_Formed qv3) rfl ?_; (conv => whnf)
    refine brK.nsplit (fun hb4 => ?_) (fun hb4 => ?_)
    · replace e := ifpb hb4 e; (conv => whnf)
      obtain rfl := sm e
      repeat' first | exact rfl | exact trivial | refine ⟨?_, ?_⟩
    · replace e := ifnb hb4 e; (conv => whnf)
      obtain rfl := sm e
      repeat' first | exact rfl | exact trivial | refine ⟨?_, ?_⟩
  · replace e := ifnb hb2 e; (conv => whnf)
    obtain rfl := sm e
    repeat' first | exact rfl | exact trivial | refine ⟨?_, ?_⟩

theorem P_sequentref08_thin_j0 {a0 : Tm} {v16 : (Ty × Bool)} {r : (Ty × Bool)} (e : sequentref08_thin_j0 a0 v16 = some r) : (∀ (gn3 : Nat), Runs Try.prog Try.f155.ntmps [] (codeAt [1, 1, 0, 1, 0, 1, 1, 1, 1, 1, 0, 1, 0, 0] (bodyOf Try.f155)) (qAt T Try.prog Try.f155.ntmps [] [13] [1, 1, 0, 1, 0, 1, 1, 1, 1, 1, 0, 1, 0, 0] (bodyOf Try.f155) (EndPure T Try.f155.results.toList (.tuple [(Ty.D r.1), (.bool r.2)]))) [(2, .ptr 0 0 0), (4, .ptr 0 1 0), (6, .ptr 0 2 0), (11, .ptr 0 4 0), (12, .d (.bool v16.2))] [[.cells [.d (.int .u8 a0.kind), .d (.str a0.name), .d (.bool a0.ty.v), .d (.str a0.ty.name), .d (.slice 3 (Ty.Ds a0.ty.args)), .d (.int .i64 a0.index), .d (.slice 7 (Tm.Ds a0.sub))], .cells [.d (.bool false), .d (.str ByteArray.empty), .nil 3], .cells [.d (.bool a0.ty.v), .d (.str a0.ty.name), .d (.slice 3 (Ty.Ds a0.ty.args))], .grow 3 gn3, .cells [.d (.bool v16.1.v), .d (.str v16.1.name), .d (.slice 3 (Ty.Ds v16.1.args))]]]) ∧ (Runs Try.prog Try.f155.ntmps [] (codeAt [1, 1, 0, 1, 0, 1, 1, 1, 1, 1, 0, 1, 0, 0] (bodyOf Try.f155)) (qAt T Try.prog Try.f155.ntmps [] [13] [1, 1, 0, 1, 0, 1, 1, 1, 1, 1, 0, 1, 0, 0] (bodyOf Try.f155) (EndPure T Try.f155.results.toList (.tuple [(Ty.D r.1), (.bool r.2)]))) [(2, .ptr 0 0 0), (4, .ptr 0 1 0), (6, .ptr 0 2 0), (11, .ptr 0 3 0), (12, .d (.bool v16.2))] [[.cells [.d (.int .u8 a0.kind), .d (.str a0.name), .d (.bool a0.ty.v), .d (.str a0.ty.name), .d (.slice 3 (Ty.Ds a0.ty.args)), .d (.int .i64 a0.index), .d (.slice 7 (Tm.Ds a0.sub))], .cells [.d (.bool false), .d (.str ByteArray.empty), .nil 3], .cells [.d (.bool a0.ty.v), .d (.str a0.ty.name), .d (.slice 3 (Ty.Ds a0.ty.args))], .cells [.d (.bool v16.1.v), .d (.str v16.1.name), .d (.slice 3 (Ty.Ds v16.1.args))]]]) := by
  unfold sequentref08_thin_j0 at e
  refine ⟨?_, ?_⟩
  · intro gn3
    refine Runs.enter T_ok ?_; (conv => whnf)
    refine brK.nsplit (fun hb17 => ?_) (fun hb17 => ?_)
    · replace e := ifpb hb17 e; (conv => whnf)
      obtain ⟨v18, qv18, e⟩ := bnd e
      refine said_pure (P_sequentref01_Fun qv18) rfl ?_; (conv => whnf)
      refine draw_rule T_ok mixed sequentref08_thin_pl16 (by decide +kernel) ?_; (conv => whnf)
      obtain ⟨v19, qv19, e⟩ := bnd e
      refine said_pure (P_sequentref01_Size qv19) rfl ⟨rfl, ?_⟩; (conv => whnf)
      refine test.dec ?_; (conv => whnf)
      obtain rfl := sm e
      repeat' first | exact rfl | exact trivial | refine ⟨?_, ?_⟩
    · replace e := ifnb hb17 e; (conv => whnf)
      obtain rfl := sm e
      repeat' first | exact rfl | exact trivial | refine ⟨?_, ?_⟩
  · refine Runs.enter T_ok ?_; (conv => whnf)
    refine brK.nsplit (fun hb20 => ?_) (fun hb20 => ?_)
    · replace e := ifpb hb20 e; (conv => whnf)
      obtain ⟨v21, qv21, e⟩ := bnd e
      refine said_pure (P_sequentref01_Fun qv21) rfl ?_; (conv => whnf)
      refine draw_rule T_ok mixed sequentref08_thin_pl16 (by decide +kernel) ?_; (conv => whnf)
      obtain ⟨v22, qv22, e⟩ := bnd e
      refine said_pure (P_sequentref01_Size qv22) rfl ⟨rfl, ?_⟩; (conv => whnf)
      refine test.dec ?_; (conv => whnf)
      obtain rfl := sm e
      repeat' first | exact rfl | exact trivial | refine ⟨?_, ?_⟩
    · replace e := ifnb hb20 e; (conv => whnf)
      obtain rfl := sm e
      repeat' first | exact rfl | exact trivial | refine ⟨?_, ?_⟩

def M_sequentref08_thin (p : (Tm × (List Ty))) (r : (Ty × Bool)) : Prop := ∀ (a0 : Tm) (a1 : (List Ty)), (a0, a1) = p → Pure Try.prog 155 [(Tm.D a0), (.slice 3 (Ty.Ds a1))] (.tuple [(Ty.D r.1), (.bool r.2)])
theorem G_sequentref08_thin : (∀ p r, sequentref08_thin' p = some r → M_sequentref08_thin p r) := by
  refine sequentref08_thin'.partial_correctness M_sequentref08_thin ?_
  · intro f_sequentref08_thin ih_sequentref08_thin p r e a0 a1 hp
    subst hp
    refine pure_of_awp (js := [13]) T_ok Try.func155 rfl (by decide +kernel) rfl ?_; (conv => whnf)
    refine ⟨⟨fun h1 => ?_, fun h1 => ?_⟩⟩
    · replace e := ifp h1 e; (conv => whnf)
      obtain ⟨v2, qv2, e⟩ := bnd e
      obtain ⟨qv2k, qv2a, qv2b⟩ := geti_some qv2
      refine ⟨qv2k, _, qv2a, Ty.Ds_get qv2b, ?_⟩; (conv => whnf)
      refine ⟨Ty.Ds_fit _ rfl rfl, ?_⟩; (conv => whnf)
      refine draw_rule T_ok mixed sequentref08_thin_pl16 (by decide +kernel) ?_; (conv => whnf)
      obtain ⟨v3, qv3, e⟩ := bnd e
      refine said_pure (P_sequentref01_Size qv3) rfl ⟨rfl, ?_⟩; (conv => whnf)
      refine test.dec ?_; (conv => whnf)
      obtain rfl := sm e
      repeat' first | exact rfl | exact trivial | refine ⟨?_, ?_⟩
    · replace e := ifn h1 e; (conv => whnf)
      refine ⟨⟨fun h4 => ?_, fun h4 => ?_⟩⟩
      · replace e := ifp h4 e; (conv => whnf)
        obtain ⟨v5, qv5, e⟩ := bnd e
        obtain ⟨qv5k, qv5a, qv5b⟩ := geti_some qv5
        refine ⟨qv5k, _, qv5a, Tm.Ds_get qv5b, ?_⟩; (conv => whnf)
        refine ⟨Tm.Ds_fit _ rfl rfl, ?_⟩; (conv => whnf)
        obtain ⟨v6, qv6, e⟩ := bnd e
        refine said_pure (ih_sequentref08_thin _ _ qv6 _ _ rfl) rfl ?_; (conv => whnf)
        obtain ⟨v7, qv7, e⟩ := bnd e
        obtain ⟨qv7k, qv7a, qv7b⟩ := geti_some qv7
        refine ⟨qv7k, _, qv7a, Tm.Ds_get qv7b, ?_⟩; (conv => whnf)
        refine ⟨Tm.Ds_fit _ rfl rfl, ?_⟩; (conv => whnf)
        obtain ⟨v8, qv8, e⟩ := bnd e
        refine said_pure (ih_sequentref08_thin _ _ qv8 _ _ rfl) rfl ?_; (conv => whnf)
        refine brK.nsplit (fun hb9 => ?_) (fun hb9 => ?_)
        · replace e := ifpb hb9 e; (conv => whnf)
          refine brK.ntt hb9 ?_; (conv => whnf)
          refine brK.ntt hb9 ?_; (conv => whnf)
          refine brK.nsplit (fun hb10 => ?_) (fun hb10 => ?_)
          · replace e := ifpb hb10 e; (conv => whnf)
            obtain ⟨v11, qv11, e⟩ := bnd e
            obtain ⟨qv11k, qv11a, qv11b⟩ := geti_some qv11
            refine ⟨qv11k, _, qv11a, Ty.Ds_get qv11b, ?_⟩; (conv => whnf)
            refine ⟨Ty.Ds_fit _ rfl rfl, ?_⟩; (conv => whnf)
            refine draw_rule T_ok mixed sequentref08_thin_pl16 (by decide +kernel) ?_; (conv => whnf)
            obtain ⟨v12, qv12, e⟩ := bnd e
            refine said_pure (P_sequentref01_Size qv12) rfl ⟨rfl, ?_⟩; (conv => whnf)
            refine test.dec ?_; (conv => whnf)
            obtain rfl := sm e
            repeat' first | exact rfl | exact trivial | refine ⟨?_, ?_⟩
          · replace e := ifnb hb10 e; (conv => whnf)
            obtain rfl := sm e
            repeat' first | exact rfl | exact trivial | refine ⟨?_, ?_⟩
        · replace e := ifnb hb9 e; (conv => whnf)
          refine brK.nff hb9 ?_; (conv => whnf)
          refine brK.nff hb9 ?_; (conv => whnf)
          obtain rfl := sm e
          repeat' first | exact rfl | exact trivial | refine ⟨?_, ?_⟩
      · replace e := ifn h4 e; (conv => whnf)
        refine ⟨⟨fun h13 => ?_, fun h13 => ?_⟩⟩
        · replace e := ifp h13 e; (conv => whnf)
          refine draw_rule T_ok mixed sequentref08_thin_pl12 (by decide +kernel) ?_; (conv => whnf)
          obtain ⟨v14, qv14, e⟩ := bnd e
          obtain ⟨qv14k, qv14a, qv14b⟩ := geti_some qv14
          refine ⟨qv14k, _, qv14a, Tm.Ds_get qv14b, ?_⟩; (conv => whnf)
          refine ⟨Tm.Ds_fit _ rfl rfl, ?_⟩; (conv => whnf)
          refine ⟨⟨⟨rfl, rfl⟩, trivial⟩, ?_⟩; (conv => whnf)
          obtain ⟨v15, qv15, e⟩ := bnd e
          obtain ⟨v16, qv16, e⟩ := bnd e
          refine ⟨?_, ?_⟩
          · (conv => whnf)
            obtain ⟨qv15l, qv15e⟩ := app_some qv15
            refine ⟨(by first | exact qv15l | simpa [Tm.Ds_all, Ty.Ds_all, Tm.D, Ty.D, listAll] using qv15l), rfl, fun hz => ?_, fun hz => ?_⟩
            · have hyv15 : a1 = [] := by simpa [Ty.Ds_map, List.map_eq_nil_iff, Tm.Ds_all, Ty.Ds_all, Tm.D, Ty.D, listAll] using hz
              have hzv15 : v15 = [a0.ty] := by rw [qv15e, hyv15]; simp
              (conv => whnf)
              refine ⟨?_, ?_⟩
              · (conv => whnf)
                first | (refine said_pure (ih_sequentref08_thin _ _ qv16 _ _ rfl) rfl ⟨rfl, ?_⟩) | (refine said_pure2 (ih_sequentref08_thin _ _ qv16 _ _ rfl) rfl (by simp [Tm.Ds_all, Ty.Ds_all, Tm.D, Ty.D, listAll, hzv15] <;> (repeat' first | rfl | apply And.intro)) ⟨rfl, ?_⟩)
                (conv => whnf)
                refine Runs.weak (P_sequentref08_thin_j0 e).2 ?_
                repeat' first | exact wk.of_eq rfl | exact wk.pure rfl | exact wk.un _ | exact rfl | exact trivial | refine ⟨?_, ?_⟩ | (refine wk.of_eq ?_; (conv => lhs; whnf); (simp [Tm.Ds_all, Ty.Ds_all, Tm.D, Ty.D, listAll, hzv15] <;> (repeat' first | rfl | apply And.intro)); done) | (refine wk.pure ?_; (conv => lhs; whnf); (simp [Tm.Ds_all, Ty.Ds_all, Tm.D, Ty.D, listAll, hzv15] <;> (repeat' first | rfl | apply And.intro)); done) | ((simp [Tm.Ds_all, Ty.Ds_all, Tm.D, Ty.D, listAll, hzv15] <;> (repeat' first | rfl | apply And.intro)); done)
              · (conv => whnf)
                first | (refine said_pure (ih_sequentref08_thin _ _ qv16 _ _ rfl) rfl ⟨rfl, ?_⟩) | (refine said_pure2 (ih_sequentref08_thin _ _ qv16 _ _ rfl) rfl (by simp [Tm.Ds_all, Ty.Ds_all, Tm.D, Ty.D, listAll, hzv15] <;> (repeat' first | rfl | apply And.intro)) ⟨rfl, ?_⟩)
                (conv => whnf)
                refine Runs.weak (P_sequentref08_thin_j0 e).2 ?_
                repeat' first | exact wk.of_eq rfl | exact wk.pure rfl | exact wk.un _ | exact rfl | exact trivial | refine ⟨?_, ?_⟩ | (refine wk.of_eq ?_; (conv => lhs; whnf); (simp [Tm.Ds_all, Ty.Ds_all, Tm.D, Ty.D, listAll, hzv15] <;> (repeat' first | rfl | apply And.intro)); done) | (refine wk.pure ?_; (conv => lhs; whnf); (simp [Tm.Ds_all, Ty.Ds_all, Tm.D, Ty.D, listAll, hzv15] <;> (repeat' first | rfl | apply And.intro)); done) | ((simp [Tm.Ds_all, Ty.Ds_all, Tm.D, Ty.D, listAll, hzv15] <;> (repeat' first | rfl | apply And.intro)); done)
            · (conv => whnf)
              refine ⟨?_, ?_⟩
              · (conv => whnf)
                first | (refine said_pure (ih_sequentref08_thin _ _ qv16 _ _ rfl) rfl ⟨rfl, ?_⟩) | (refine said_pure2 (ih_sequentref08_thin _ _ qv16 _ _ rfl) rfl (by simp [Tm.Ds_all, Ty.Ds_all, Tm.D, Ty.D, listAll, qv15e] <;> (repeat' first | rfl | apply And.intro)) ⟨rfl, ?_⟩)
                (conv => whnf)
                refine Runs.weak ((P_sequentref08_thin_j0 e).1 ?_) ?_
                repeat' first | exact wk.of_eq rfl | exact wk.pure rfl | exact wk.un _ | exact rfl | exact trivial | refine ⟨?_, ?_⟩ | (refine wk.of_eq ?_; (conv => lhs; whnf); (simp [Tm.Ds_all, Ty.Ds_all, Tm.D, Ty.D, listAll, qv15e] <;> (repeat' first | rfl | apply And.intro)); done) | (refine wk.pure ?_; (conv => lhs; whnf); (simp [Tm.Ds_all, Ty.Ds_all, Tm.D, Ty.D, listAll, qv15e] <;> (repeat' first | rfl | apply And.intro)); done) | ((simp [Tm.Ds_all, Ty.Ds_all, Tm.D, Ty.D, listAll, qv15e] <;> (repeat' first | rfl | apply And.intro)); done)
              · (conv => whnf)
                first | (refine said_pure (ih_sequentref08_thin _ _ qv16 _ _ rfl) rfl ⟨rfl, ?_⟩) | (refine said_pure2 (ih_sequentref08_thin _ _ qv16 _ _ rfl) rfl (by simp [Tm.Ds_all, Ty.Ds_all, Tm.D, Ty.D, listAll, qv15e] <;> (repeat' first | rfl | apply And.intro)) ⟨rfl, ?_⟩)
                (conv => whnf)
                refine Runs.weak ((P_sequentref08_thin_j0 e).1 ?_) ?_
                repeat' first | exact wk.of_eq rfl | exact wk.pure rfl | exact wk.un _ | exact rfl | exact trivial | refine ⟨?_, ?_⟩ | (refine wk.of_eq ?_; (conv => lhs; whnf); (simp [Tm.Ds_all, Ty.Ds_all, Tm.D, Ty.D, listAll, qv15e] <;> (repeat' first | rfl | apply And.intro)); done) | (refine wk.pure ?_; (conv => lhs; whnf); (simp [Tm.Ds_all, Ty.Ds_all, Tm.D, Ty.D, listAll, qv15e] <;> (repeat' first | rfl | apply And.intro)); done) | ((simp [Tm.Ds_all, Ty.Ds_all, Tm.D, Ty.D, listAll, qv15e] <;> (repeat' first | rfl | apply And.intro)); done)
          · (conv => whnf)
            obtain ⟨qv15l, qv15e⟩ := app_some qv15
            refine ⟨(by first | exact qv15l | simpa [Tm.Ds_all, Ty.Ds_all, Tm.D, Ty.D, listAll] using qv15l), rfl, fun hz => ?_, fun hz => ?_⟩
            · have hyv15 : a1 = [] := by simpa [Ty.Ds_map, List.map_eq_nil_iff, Tm.Ds_all, Ty.Ds_all, Tm.D, Ty.D, listAll] using hz
              have hzv15 : v15 = [a0.ty] := by rw [qv15e, hyv15]; simp
              (conv => whnf)
              first | (refine said_pure (ih_sequentref08_thin _ _ qv16 _ _ rfl) rfl ⟨rfl, ?_⟩) | (refine said_pure2 (ih_sequentref08_thin _ _ qv16 _ _ rfl) rfl (by simp [Tm.Ds_all, Ty.Ds_all, Tm.D, Ty.D, listAll, hzv15] <;> (repeat' first | rfl | apply And.intro)) ⟨rfl, ?_⟩)
              (conv => whnf)
              refine Runs.weak (P_sequentref08_thin_j0 e).2 ?_
              repeat' first | exact wk.of_eq rfl | exact wk.pure rfl | exact wk.un _ | exact rfl | exact trivial | refine ⟨?_, ?_⟩ | (refine wk.of_eq ?_; (conv => lhs; whnf); (simp [Tm.Ds_all, Ty.Ds_all, Tm.D, Ty.D, listAll, hzv15] <;> (repeat' first | rfl | apply And.intro)); done) | (refine wk.pure ?_; (conv => lhs; whnf); (simp [Tm.Ds_all, Ty.Ds_all, Tm.D, Ty.D, listAll, hzv15] <;> (repeat' first | rfl | apply And.intro)); done) | ((simp [Tm.Ds_all, Ty.Ds_all, Tm.D, Ty.D, listAll, hzv15] <;> (repeat' first | rfl | apply And.intro)); done)
            · (conv => whnf)
              first | (refine said_pure (ih_sequentref08_thin _ _ qv16 _ _ rfl) rfl ⟨rfl, ?_⟩) | (refine said_pure2 (ih_sequentref08_thin _ _ qv16 _ _ rfl) rfl (by simp [Tm.Ds_all, Ty.Ds_all, Tm.D, Ty.D, listAll, qv15e] <;> (repeat' first | rfl | apply And.intro)) ⟨rfl, ?_⟩)
              (conv => whnf)
              refine Runs.weak (P_sequentref08_thin_j0 e).2 ?_
              repeat' first | exact wk.of_eq rfl | exact wk.pure rfl | exact wk.un _ | exact rfl | exact trivial | refine ⟨?_, ?_⟩ | (refine wk.of_eq ?_; (conv => lhs; whnf); (simp [Tm.Ds_all, Ty.Ds_all, Tm.D, Ty.D, listAll, qv15e] <;> (repeat' first | rfl | apply And.intro)); done) | (refine wk.pure ?_; (conv => lhs; whnf); (simp [Tm.Ds_all, Ty.Ds_all, Tm.D, Ty.D, listAll, qv15e] <;> (repeat' first | rfl | apply And.intro)); done) | ((simp [Tm.Ds_all, Ty.Ds_all, Tm.D, Ty.D, listAll, qv15e] <;> (repeat' first | rfl | apply And.intro)); done)
        · replace e := ifn h13 e; (conv => whnf)
          refine draw_rule T_ok mixed sequentref08_thin_pl16 (by decide +kernel) ?_; (conv => whnf)
          obtain ⟨v23, qv23, e⟩ := bnd e
          refine said_pure (P_sequentref01_Size qv23) rfl ⟨rfl, ?_⟩; (conv => whnf)
          refine test.dec ?_; (conv => whnf)
          obtain rfl := sm e
          repeat' first | exact rfl | exact trivial | refine ⟨?_, ?_⟩
theorem P_sequentref08_thin {a0 : Tm} {a1 : (List Ty)} {r : (Ty × Bool)} (e : sequentref08_thin a0 a1 = some r) : Pure Try.prog 155 [(Tm.D a0), (.slice 3 (Ty.Ds a1))] (.tuple [(Ty.D r.1), (.bool r.2)]) := G_sequentref08_thin _ _ e _ _ rfl

theorem P_sequentref08_Fits {a0 : Tm} {r : Bool} (e : sequentref08_Fits a0 = some r) : Pure Try.prog 138 [(Tm.D a0)] (.bool r) := by
  unfold sequentref08_Fits at e
  refine pure_of_awp (js := []) T_ok Try.func138 rfl (by decide +kernel) rfl ?_; (conv => whnf)
  obtain ⟨v1, qv1, e⟩ := bnd e
  refine said_pure (P_sequentref02_Size qv1) rfl ?_; (conv => whnf)
  refine ⟨⟨fun h2 => ?_, fun h2 => ?_⟩⟩
  · replace e := ifp h2 e; (conv => whnf)
    obtain rfl := sm e
    repeat' first | exact rfl | exact trivial | refine ⟨?_, ?_⟩
  · replace e := ifn h2 e; (conv => whnf)
    obtain ⟨v3, qv3, e⟩ := bnd e
    refine said_pure (P_sequentref02_Depth qv3) rfl ?_; (conv => whnf)
    refine ⟨⟨fun h4 => ?_, fun h4 => ?_⟩⟩
    · replace e := ifp h4 e; (conv => whnf)
      obtain rfl := sm e
      repeat' first | exact rfl | exact trivial | refine ⟨?_, ?_⟩
    · replace e := ifn h4 e; (conv => whnf)
      obtain ⟨v5, qv5, e⟩ := bnd e
      refine said_pure (P_sequentref08_thin qv5) rfl ?_; (conv => whnf)
      obtain rfl := sm e
      repeat' first | exact rfl | exact trivial | refine ⟨?_, ?_⟩

theorem P_sequentref08_CheckTerm {a0 : Tm} {r : Int} (e : sequentref08_CheckTerm a0 = some r) : Pure Try.prog 131 [(Tm.D a0)] (.int .i64 r) := by
  unfold sequentref08_CheckTerm at e
  refine pure_of_awp (js := []) T_ok Try.func131 rfl (by decide +kernel) rfl ?_; (conv => whnf)
  obtain ⟨v1, qv1, e⟩ := bnd e
  refine said_pure (P_sequentref02_Check qv1) rfl ?_; (conv => whnf)
  refine ⟨⟨fun h2 => ?_, fun h2 => ?_⟩⟩
  · replace e := ifp h2 e; (conv => whnf)
    obtain ⟨v3, qv3, e⟩ := bnd e
    refine said_pure (P_sequentref08_Fits qv3) rfl ?_; (conv => whnf)
    refine brK.nsplit (fun hb4 => ?_) (fun hb4 => ?_)
    · replace e := ifpb hb4 e; (conv => whnf)
      obtain rfl := sm e
      repeat' first | exact rfl | exact trivial | refine ⟨?_, ?_⟩
    · replace e := ifnb hb4 e; (conv => whnf)
      obtain rfl := sm e
      repeat' first | exact rfl | exact trivial | refine ⟨?_, ?_⟩
  · replace e := ifn h2 e; (conv => whnf)
    obtain rfl := sm e
    repeat' first | exact rfl | exact trivial | refine ⟨?_, ?_⟩

theorem P_sequentref02_Type {a0 : Tm} {r : Ty} (e : sequentref02_Type a0 = some r) : Pure Try.prog 119 [(Tm.D a0)] (Ty.D r) := by
  unfold sequentref02_Type at e
  refine pure_of_awp (js := []) T_ok Try.func119 rfl (by decide +kernel) rfl ?_; (conv => whnf)
  obtain ⟨v1, qv1, e⟩ := bnd e
  refine said_pure (P_sequentref02_Formed qv1) rfl ?_; (conv => whnf)
  obtain ⟨v2, qv2, e⟩ := bnd e
  refine said_pure (P_sequentref01_Twin qv2) rfl ?_; (conv => whnf)
  obtain rfl := sm e
  repeat' first | exact rfl | exact trivial | refine ⟨?_, ?_⟩

def M_sequentref21_Checks_l1 (p : ((List Tm) × Bool)) (r : Int) : Prop := ∀ (rest1 : (List Tm)) (a1 : Bool), (rest1, a1) = p → ∀ (a0 : (List Tm)) (k1 : Nat) (hd1 : rest1 = a0.drop k1), RunsL Try.prog Try.f82.ntmps [] (codeAt [1, 1, 0, 1, 0, 0] (bodyOf Try.f82)) (qAt T Try.prog Try.f82.ntmps [] [] [1, 1, 0, 1, 0] (bodyOf Try.f82) (EndPure T Try.f82.results.toList (.int .i64 r))) [(0, .d (.slice 7 (Tm.Ds a0))), (1, .d (.bool a1)), (7, .d (.int .i64 (k1 : Int)))] [[]]
theorem G_sequentref21_Checks_l1 : (∀ p r, sequentref21_Checks_l1' p = some r → M_sequentref21_Checks_l1 p r) := by
  refine sequentref21_Checks_l1'.partial_correctness M_sequentref21_Checks_l1 ?_
  · intro f_sequentref21_Checks_l1 ih_sequentref21_Checks_l1 p r e rest1 a1 hp
    subst hp
    intro a0 k1 hd1
    refine RunsL.len_tmp 0 rfl fun hlenk1 => ?_
    refine RunsL.of_awp (js := []) T_ok ?_; (conv => whnf)
    have hls := Tm.Ds_len a0
    cases rest1 with
    | nil =>
      have hk := drop_nil hd1
      refine ⟨⟨fun h => absurd h (by omega), fun _ => ?_⟩⟩; (conv => whnf)
      obtain rfl := sm e
      repeat' first | exact rfl | exact trivial | refine ⟨?_, ?_⟩
    | cons v4 rest1 =>
      obtain ⟨hxv4, hd1, hltv4⟩ := drop_head hd1
      refine ⟨⟨fun _ => ?_, fun h => absurd (by omega) h⟩⟩; (conv => whnf)
      refine brK.split (fun hb5 => ?_) (fun hb5 => ?_)
      · replace e := ifpb hb5 e; (conv => whnf)
        refine ⟨k1, _, rfl, Tm.Ds_get hxv4, ?_⟩; (conv => whnf)
        refine ⟨Tm.Ds_fit _ rfl rfl, ?_⟩; (conv => whnf)
        obtain ⟨v6, qv6, e⟩ := bnd e
        refine said_pure (P_sequentref02_Type qv6) rfl ?_; (conv => whnf)
        obtain ⟨v7, qv7, e⟩ := bnd e
        refine said_pure (P_sequentref21_N qv7) rfl ?_; (conv => whnf)
        obtain ⟨v8, qv8, e⟩ := bnd e
        refine said_pure (P_sequentref01_Same qv8) rfl ?_; (conv => whnf)
        refine brK.nsplit (fun hb9 => ?_) (fun hb9 => ?_)
        · replace e := ifpb hb9 e; (conv => whnf)
          refine ⟨((k1 + 1 : Nat) : Int), wrap64e (by omega) (by omega) (by omega), ?_⟩; (conv => whnf)
          refine (RunsL.weak ((ih_sequentref21_Checks_l1 _ _ e _ _ rfl) a0 (k1 + 1) hd1) ?_)
          repeat' first | exact wk.of_eq rfl | exact wk.pure rfl | exact wk.un _ | exact rfl | exact trivial | refine ⟨?_, ?_⟩ | (refine wk.of_eq ?_; (conv => lhs; whnf); (simp [Tm.Ds_all, Ty.Ds_all, Tm.D, Ty.D, listAll] <;> (repeat' first | rfl | apply And.intro)); done) | (refine wk.pure ?_; (conv => lhs; whnf); (simp [Tm.Ds_all, Ty.Ds_all, Tm.D, Ty.D, listAll] <;> (repeat' first | rfl | apply And.intro)); done) | ((simp [Tm.Ds_all, Ty.Ds_all, Tm.D, Ty.D, listAll] <;> (repeat' first | rfl | apply And.intro)); done)
        · replace e := ifnb hb9 e; (conv => whnf)
          obtain rfl := sm e
          repeat' first | exact rfl | exact trivial | refine ⟨?_, ?_⟩
      · replace e := ifnb hb5 e; (conv => whnf)
        obtain rfl := sm e
        repeat' first | exact rfl | exact trivial | refine ⟨?_, ?_⟩
theorem P_sequentref21_Checks_l1 {rest1 : (List Tm)} {a1 : Bool} {r : Int} (e : sequentref21_Checks_l1 rest1 a1 = some r) : ∀ (a0 : (List Tm)) (k1 : Nat) (hd1 : rest1 = a0.drop k1), RunsL Try.prog Try.f82.ntmps [] (codeAt [1, 1, 0, 1, 0, 0] (bodyOf Try.f82)) (qAt T Try.prog Try.f82.ntmps [] [] [1, 1, 0, 1, 0] (bodyOf Try.f82) (EndPure T Try.f82.results.toList (.int .i64 r))) [(0, .d (.slice 7 (Tm.Ds a0))), (1, .d (.bool a1)), (7, .d (.int .i64 (k1 : Int)))] [[]] := G_sequentref21_Checks_l1 _ _ e _ _ rfl

def M_sequentref21_Checks_l0 (p : ((List Tm) × (List Tm) × Bool)) (r : Int) : Prop := ∀ (rest0 : (List Tm)) (a0 : (List Tm)) (a1 : Bool), (rest0, a0, a1) = p → ∀ (k0 : Nat) (hd0 : rest0 = a0.drop k0), RunsL Try.prog Try.f82.ntmps [] (codeAt [1, 0, 1, 0, 0] (bodyOf Try.f82)) (qAt T Try.prog Try.f82.ntmps [] [] [1, 0, 1, 0] (bodyOf Try.f82) (EndPure T Try.f82.results.toList (.int .i64 r))) [(0, .d (.slice 7 (Tm.Ds a0))), (1, .d (.bool a1)), (5, .d (.int .i64 (k0 : Int)))] [[]]
theorem G_sequentref21_Checks_l0 : (∀ p r, sequentref21_Checks_l0' p = some r → M_sequentref21_Checks_l0 p r) := by
  refine sequentref21_Checks_l0'.partial_correctness M_sequentref21_Checks_l0 ?_
  · intro f_sequentref21_Checks_l0 ih_sequentref21_Checks_l0 p r e rest0 a0 a1 hp
    subst hp
    intro k0 hd0
    refine RunsL.len_tmp 0 rfl fun hlenk0 => ?_
    refine RunsL.of_awp (js := []) T_ok ?_; (conv => whnf)
    have hls := Tm.Ds_len a0
    cases rest0 with
    | nil =>
      have hk := drop_nil hd0
      refine ⟨⟨fun h => absurd h (by omega), fun _ => ?_⟩⟩; (conv => whnf)
      refine RunsL.runs (RunsL.weak ((P_sequentref21_Checks_l1 e) a0 0 (by simp)) ?_)
      repeat' first | exact wk.of_eq rfl | exact wk.pure rfl | exact wk.un _ | exact rfl | exact trivial | refine ⟨?_, ?_⟩ | (refine wk.of_eq ?_; (conv => lhs; whnf); (simp [Tm.Ds_all, Ty.Ds_all, Tm.D, Ty.D, listAll] <;> (repeat' first | rfl | apply And.intro)); done) | (refine wk.pure ?_; (conv => lhs; whnf); (simp [Tm.Ds_all, Ty.Ds_all, Tm.D, Ty.D, listAll] <;> (repeat' first | rfl | apply And.intro)); done) | ((simp [Tm.Ds_all, Ty.Ds_all, Tm.D, Ty.D, listAll] <;> (repeat' first | rfl | apply And.intro)); done)
    | cons v1 rest0 =>
      obtain ⟨hxv1, hd0, hltv1⟩ := drop_head hd0
      refine ⟨⟨fun _ => ?_, fun h => absurd (by omega) h⟩⟩; (conv => whnf)
      refine ⟨k0, _, rfl, Tm.Ds_get hxv1, ?_⟩; (conv => whnf)
      refine ⟨Tm.Ds_fit _ rfl rfl, ?_⟩; (conv => whnf)
      obtain ⟨v2, qv2, e⟩ := bnd e
      refine said_pure (P_sequentref08_CheckTerm qv2) rfl ?_; (conv => whnf)
      refine ⟨⟨fun h3 => ?_, fun h3 => ?_⟩⟩
      · replace e := ifp h3 e; (conv => whnf)
        obtain rfl := sm e
        repeat' first | exact rfl | exact trivial | refine ⟨?_, ?_⟩
      · replace e := ifn h3 e; (conv => whnf)
        refine ⟨((k0 + 1 : Nat) : Int), wrap64e (by omega) (by omega) (by omega), ?_⟩; (conv => whnf)
        refine (RunsL.weak ((ih_sequentref21_Checks_l0 _ _ e _ _ _ rfl) (k0 + 1) hd0) ?_)
        repeat' first | exact wk.of_eq rfl | exact wk.pure rfl | exact wk.un _ | exact rfl | exact trivial | refine ⟨?_, ?_⟩ | (refine wk.of_eq ?_; (conv => lhs; whnf); (simp [Tm.Ds_all, Ty.Ds_all, Tm.D, Ty.D, listAll] <;> (repeat' first | rfl | apply And.intro)); done) | (refine wk.pure ?_; (conv => lhs; whnf); (simp [Tm.Ds_all, Ty.Ds_all, Tm.D, Ty.D, listAll] <;> (repeat' first | rfl | apply And.intro)); done) | ((simp [Tm.Ds_all, Ty.Ds_all, Tm.D, Ty.D, listAll] <;> (repeat' first | rfl | apply And.intro)); done)
theorem P_sequentref21_Checks_l0 {rest0 : (List Tm)} {a0 : (List Tm)} {a1 : Bool} {r : Int} (e : sequentref21_Checks_l0 rest0 a0 a1 = some r) : ∀ (k0 : Nat) (hd0 : rest0 = a0.drop k0), RunsL Try.prog Try.f82.ntmps [] (codeAt [1, 0, 1, 0, 0] (bodyOf Try.f82)) (qAt T Try.prog Try.f82.ntmps [] [] [1, 0, 1, 0] (bodyOf Try.f82) (EndPure T Try.f82.results.toList (.int .i64 r))) [(0, .d (.slice 7 (Tm.Ds a0))), (1, .d (.bool a1)), (5, .d (.int .i64 (k0 : Int)))] [[]] := G_sequentref21_Checks_l0 _ _ e _ _ _ rfl

theorem P_sequentref21_Checks {a0 : (List Tm)} {a1 : Bool} {r : Int} (e : sequentref21_Checks a0 a1 = some r) : Pure Try.prog 82 [(.slice 7 (Tm.Ds a0)), (.bool a1)] (.int .i64 r) := by
  unfold sequentref21_Checks at e
  refine pure_of_awp (js := []) T_ok Try.func82 rfl (by decide +kernel) rfl ?_; (conv => whnf)
  refine RunsL.runs (RunsL.weak ((P_sequentref21_Checks_l0 e) 0 (by simp)) ?_)
  repeat' first | exact wk.of_eq rfl | exact wk.pure rfl | exact wk.un _ | exact rfl | exact trivial | refine ⟨?_, ?_⟩ | (refine wk.of_eq ?_; (conv => lhs; whnf); (simp [Tm.Ds_all, Ty.Ds_all, Tm.D, Ty.D, listAll] <;> (repeat' first | rfl | apply And.intro)); done) | (refine wk.pure ?_; (conv => lhs; whnf); (simp [Tm.Ds_all, Ty.Ds_all, Tm.D, Ty.D, listAll] <;> (repeat' first | rfl | apply And.intro)); done) | ((simp [Tm.Ds_all, Ty.Ds_all, Tm.D, Ty.D, listAll] <;> (repeat' first | rfl | apply And.intro)); done)

theorem P_sequentref21_IsOp {a0 : ByteArray} {r : Bool} (e : sequentref21_IsOp a0 = some r) : Pure Try.prog 85 [(.str a0)] (.bool r) := by
  unfold sequentref21_IsOp at e
  refine pure_of_awp (js := []) T_ok Try.func85 rfl (by decide +kernel) rfl ?_; (conv => whnf)
  refine ⟨⟨fun h1 => ?_, fun h1 => ?_⟩⟩
  · replace e := ifp h1 e; (conv => whnf)
    obtain rfl := sm e
    repeat' first | exact rfl | exact trivial | refine ⟨?_, ?_⟩
  · replace e := ifn h1 e; (conv => whnf)
    refine ⟨⟨fun h2 => ?_, fun h2 => ?_⟩⟩
    · replace e := ifp h2 e; (conv => whnf)
      obtain rfl := sm e
      repeat' first | exact rfl | exact trivial | refine ⟨?_, ?_⟩
    · replace e := ifn h2 e; (conv => whnf)
      refine ⟨⟨fun h3 => ?_, fun h3 => ?_⟩⟩
      · replace e := ifp h3 e; (conv => whnf)
        obtain rfl := sm e
        repeat' first | exact rfl | exact trivial | refine ⟨?_, ?_⟩
      · replace e := ifn h3 e; (conv => whnf)
        refine test.dec ?_; (conv => whnf)
        obtain rfl := sm e
        repeat' first | exact rfl | exact trivial | refine ⟨?_, ?_⟩

theorem P_sequentref02_App {a0 : Tm} {a1 : Tm} {r : Tm} (e : sequentref02_App a0 a1 = some r) : Pure Try.prog 114 [(Tm.D a0), (Tm.D a1)] (Tm.D r) := by
  unfold sequentref02_App at e
  refine pure_of_awp (js := []) T_ok Try.func114 rfl (by decide +kernel) rfl ?_; (conv => whnf)
  refine ⟨⟨⟨rfl, rfl⟩, ⟨⟨rfl, rfl⟩, trivial⟩⟩, ?_⟩; (conv => whnf)
  obtain rfl := sm e
  repeat' first | exact rfl | exact trivial | exact ⟨_, rfl, (by first | exact rfl | (simp [Tm.Ds_all, Ty.Ds_all, Tm.D, Ty.D, listAll] <;> (repeat' first | rfl | apply And.intro))), (by first | exact rfl | (simp [Tm.Ds_all, Ty.Ds_all, Tm.D, Ty.D, listAll] <;> (repeat' first | rfl | apply And.intro)))⟩ | refine ⟨?_, ?_⟩ | (simp [Tm.Ds_all, Ty.Ds_all, Tm.D, Ty.D, listAll] <;> (repeat' first | rfl | apply And.intro))

theorem P_sequentref21_Op_j0 {c3_0_0 : Bool} {c3_1_0 : ByteArray} {c3_2_0 : (List Ty)} {a0 : ByteArray} {a1 : Tm} {a2 : Tm} {r : Tm} (e : sequentref21_Op_j0 c3_0_0 c3_1_0 c3_2_0 a0 a1 a2 = some r) : Runs Try.prog Try.f86.ntmps [] (codeAt [1, 1, 1, 0] (bodyOf Try.f86)) (qAt T Try.prog Try.f86.ntmps [] [4] [1, 1, 1, 0] (bodyOf Try.f86) (EndPure T Try.f86.results.toList (Tm.D r))) [(0, .d (.str a0)), (4, .ptr 0 0 0), (5, .ptr 0 1 0), (6, .ptr 0 2 0), (7, .ptr 0 3 0)] [[.cells [.d (.int .u8 a1.kind), .d (.str a1.name), .d (.bool a1.ty.v), .d (.str a1.ty.name), .d (.slice 3 (Ty.Ds a1.ty.args)), .d (.int .i64 a1.index), .d (.slice 7 (Tm.Ds a1.sub))], .cells [.d (.int .u8 a2.kind), .d (.str a2.name), .d (.bool a2.ty.v), .d (.str a2.ty.name), .d (.slice 3 (Ty.Ds a2.ty.args)), .d (.int .i64 a2.index), .d (.slice 7 (Tm.Ds a2.sub))], .cells [.d (.int .u8 0), .d (.str ByteArray.empty), .d (.bool false), .d (.str ByteArray.empty), .nil 3, .d (.int .i64 0), .nil 7], .cells [.d (.bool c3_0_0), .d (.str c3_1_0), .d (.slice 3 (Ty.Ds c3_2_0))]]] := by
  unfold sequentref21_Op_j0 at e
  refine Runs.enter T_ok ?_; (conv => whnf)
  refine draw_rule T_ok mixed sequentref21_Op_pl4 (by decide +kernel) ?_; (conv => whnf)
  obtain ⟨v4, qv4, e⟩ := bnd e
  obtain ⟨v5, qv5, e⟩ := bnd e
  obtain ⟨v6, qv6, e⟩ := bnd e
  obtain ⟨v7, qv7, e⟩ := bnd e
  obtain ⟨v8, qv8, e⟩ := bnd e
  refine ⟨?_, ?_⟩
  · (conv => whnf)
    refine said_pure (P_sequentref21_N qv4) rfl ⟨rfl, ?_⟩; (conv => whnf)
    refine ⟨?_, ?_⟩
    · (conv => whnf)
      refine said_pure (P_sequentref21_N qv5) rfl ⟨rfl, ?_⟩; (conv => whnf)
      refine ⟨?_, ?_⟩
      · (conv => whnf)
        refine said_pure (P_sequentref01_Fun qv6) rfl ⟨rfl, ?_⟩; (conv => whnf)
        refine ⟨?_, ?_⟩
        · (conv => whnf)
          refine said_pure (P_sequentref01_Fun qv7) rfl ⟨rfl, ?_⟩; (conv => whnf)
          refine ⟨?_, ?_⟩
          · (conv => whnf)
            refine said_pure (P_sequentref09_Constant qv8) rfl ⟨rfl, ?_⟩; (conv => whnf)
            refine draw_rule T_ok mixed sequentref21_Op_pl5 (by decide +kernel) ?_; (conv => whnf)
            obtain ⟨v9, qv9, e⟩ := bnd e
            refine said_pure (P_sequentref02_App qv9) rfl ⟨rfl, ?_⟩; (conv => whnf)
            obtain ⟨v10, qv10, e⟩ := bnd e
            refine said_pure (P_sequentref02_App qv10) rfl ⟨rfl, ?_⟩; (conv => whnf)
            obtain rfl := sm e
            repeat' first | exact rfl | exact trivial | refine ⟨?_, ?_⟩
          · (conv => whnf)
            refine said_pure (P_sequentref09_Constant qv8) rfl ⟨rfl, ?_⟩; (conv => whnf)
            refine draw_rule T_ok mixed sequentref21_Op_pl5 (by decide +kernel) ?_; (conv => whnf)
            obtain ⟨v11, qv11, e⟩ := bnd e
            refine said_pure (P_sequentref02_App qv11) rfl ⟨rfl, ?_⟩; (conv => whnf)
            obtain ⟨v12, qv12, e⟩ := bnd e
            refine said_pure (P_sequentref02_App qv12) rfl ⟨rfl, ?_⟩; (conv => whnf)
            obtain rfl := sm e
            repeat' first | exact rfl | exact trivial | refine ⟨?_, ?_⟩
        · (conv => whnf)
          refine said_pure (P_sequentref01_Fun qv7) rfl ⟨rfl, ?_⟩; (conv => whnf)
          refine said_pure (P_sequentref09_Constant qv8) rfl ⟨rfl, ?_⟩; (conv => whnf)
          refine draw_rule T_ok mixed sequentref21_Op_pl5 (by decide +kernel) ?_; (conv => whnf)
          obtain ⟨v13, qv13, e⟩ := bnd e
          refine said_pure (P_sequentref02_App qv13) rfl ⟨rfl, ?_⟩; (conv => whnf)
          obtain ⟨v14, qv14, e⟩ := bnd e
          refine said_pure (P_sequentref02_App qv14) rfl ⟨rfl, ?_⟩; (conv => whnf)
          obtain rfl := sm e
          repeat' first | exact rfl | exact trivial | refine ⟨?_, ?_⟩
      · (conv => whnf)
        refine said_pure (P_sequentref01_Fun qv6) rfl ⟨rfl, ?_⟩; (conv => whnf)
        refine said_pure (P_sequentref01_Fun qv7) rfl ⟨rfl, ?_⟩; (conv => whnf)
        refine said_pure (P_sequentref09_Constant qv8) rfl ⟨rfl, ?_⟩; (conv => whnf)
        refine draw_rule T_ok mixed sequentref21_Op_pl5 (by decide +kernel) ?_; (conv => whnf)
        obtain ⟨v15, qv15, e⟩ := bnd e
        refine said_pure (P_sequentref02_App qv15) rfl ⟨rfl, ?_⟩; (conv => whnf)
        obtain ⟨v16, qv16, e⟩ := bnd e
        refine said_pure (P_sequentref02_App qv16) rfl ⟨rfl, ?_⟩; (conv => whnf)
        obtain rfl := sm e
        repeat' first | exact rfl | exact trivial | refine ⟨?_, ?_⟩
    · (conv => whnf)
      refine said_pure (P_sequentref21_N qv5) rfl ⟨rfl, ?_⟩; (conv => whnf)
      refine said_pure (P_sequentref01_Fun qv6) rfl ⟨rfl, ?_⟩; (conv => whnf)
      refine said_pure (P_sequentref01_Fun qv7) rfl ⟨rfl, ?_⟩; (conv => whnf)
      refine said_pure (P_sequentref09_Constant qv8) rfl ⟨rfl, ?_⟩; (conv => whnf)
      refine draw_rule T_ok mixed sequentref21_Op_pl5 (by decide +kernel) ?_; (conv => whnf)
      obtain ⟨v17, qv17, e⟩ := bnd e
      refine said_pure (P_sequentref02_App qv17) rfl ⟨rfl, ?_⟩; (conv => whnf)
      obtain ⟨v18, qv18, e⟩ := bnd e
      refine said_pure (P_sequentref02_App qv18) rfl ⟨rfl, ?_⟩; (conv => whnf)
      obtain rfl := sm e
      repeat' first | exact rfl | exact trivial | refine ⟨?_, ?_⟩
  · (conv => whnf)
    refine said_pure (P_sequentref21_N qv4) rfl ⟨rfl, ?_⟩; (conv => whnf)
    refine said_pure (P_sequentref21_N qv5) rfl ⟨rfl, ?_⟩; (conv => whnf)
    refine said_pure (P_sequentref01_Fun qv6) rfl ⟨rfl, ?_⟩; (conv => whnf)
    refine said_pure (P_sequentref01_Fun qv7) rfl ⟨rfl, ?_⟩; (conv => whnf)
    refine said_pure (P_sequentref09_Constant qv8) rfl ⟨rfl, ?_⟩; (conv => whnf)
    refine draw_rule T_ok mixed sequentref21_Op_pl5 (by decide +kernel) ?_; (conv => whnf)
    obtain ⟨v19, qv19, e⟩ := bnd e
    refine said_pure (P_sequentref02_App qv19) rfl ⟨rfl, ?_⟩; (conv => whnf)
    obtain ⟨v20, qv20, e⟩ := bnd e
    refine said_pure (P_sequentref02_App qv20) rfl ⟨rfl, ?_⟩; (conv => whnf)
    obtain rfl := sm e
    repeat' first | exact rfl | exact trivial | refine ⟨?_, ?_⟩

theorem P_sequentref21_Op {a0 : ByteArray} {a1 : Tm} {a2 : Tm} {r : Tm} (e : sequentref21_Op a0 a1 a2 = some r) : Pure Try.prog 86 [(.str a0), (Tm.D a1), (Tm.D a2)] (Tm.D r) := by
  unfold sequentref21_Op at e
  refine pure_of_awp (js := [4]) T_ok Try.func86 rfl (by decide +kernel) rfl ?_; (conv => whnf)
  obtain ⟨v1, qv1, e⟩ := bnd e
  refine said_pure (P_sequentref21_N qv1) rfl ?_; (conv => whnf)
  refine ⟨⟨fun h2 => ?_, fun h2 => ?_⟩⟩
  · replace e := ifp h2 e; (conv => whnf)
    obtain ⟨v3, qv3, e⟩ := bnd e
    refine said_pure (P_sequentref01_Bool qv3) rfl ?_; (conv => whnf)
    refine Runs.weak (P_sequentref21_Op_j0 e) ?_
    repeat' first | exact wk.of_eq rfl | exact wk.pure rfl | exact wk.un _ | exact rfl | exact trivial | refine ⟨?_, ?_⟩ | (refine wk.of_eq ?_; (conv => lhs; whnf); (simp [Tm.Ds_all, Ty.Ds_all, Tm.D, Ty.D, listAll] <;> (repeat' first | rfl | apply And.intro)); done) | (refine wk.pure ?_; (conv => lhs; whnf); (simp [Tm.Ds_all, Ty.Ds_all, Tm.D, Ty.D, listAll] <;> (repeat' first | rfl | apply And.intro)); done) | ((simp [Tm.Ds_all, Ty.Ds_all, Tm.D, Ty.D, listAll] <;> (repeat' first | rfl | apply And.intro)); done)
  · replace e := ifn h2 e; (conv => whnf)
    refine ⟨⟨fun h21 => ?_, fun h21 => ?_⟩⟩
    · replace e := ifp h21 e; (conv => whnf)
      obtain ⟨v22, qv22, e⟩ := bnd e
      refine said_pure (P_sequentref01_Bool qv22) rfl ?_; (conv => whnf)
      refine Runs.weak (P_sequentref21_Op_j0 e) ?_
      repeat' first | exact wk.of_eq rfl | exact wk.pure rfl | exact wk.un _ | exact rfl | exact trivial | refine ⟨?_, ?_⟩ | (refine wk.of_eq ?_; (conv => lhs; whnf); (simp [Tm.Ds_all, Ty.Ds_all, Tm.D, Ty.D, listAll] <;> (repeat' first | rfl | apply And.intro)); done) | (refine wk.pure ?_; (conv => lhs; whnf); (simp [Tm.Ds_all, Ty.Ds_all, Tm.D, Ty.D, listAll] <;> (repeat' first | rfl | apply And.intro)); done) | ((simp [Tm.Ds_all, Ty.Ds_all, Tm.D, Ty.D, listAll] <;> (repeat' first | rfl | apply And.intro)); done)
    · replace e := ifn h21 e; (conv => whnf)
      refine Runs.weak (P_sequentref21_Op_j0 e) ?_
      repeat' first | exact wk.of_eq rfl | exact wk.pure rfl | exact wk.un _ | exact rfl | exact trivial | refine ⟨?_, ?_⟩ | (refine wk.of_eq ?_; (conv => lhs; whnf); (simp [Tm.Ds_all, Ty.Ds_all, Tm.D, Ty.D, listAll] <;> (repeat' first | rfl | apply And.intro)); done) | (refine wk.pure ?_; (conv => lhs; whnf); (simp [Tm.Ds_all, Ty.Ds_all, Tm.D, Ty.D, listAll] <;> (repeat' first | rfl | apply And.intro)); done) | ((simp [Tm.Ds_all, Ty.Ds_all, Tm.D, Ty.D, listAll] <;> (repeat' first | rfl | apply And.intro)); done)

theorem P_sequentref21_Mk_j1 {t8_1 : Int} {a0 : ByteArray} {a1 : Tm} {a2 : Tm} {r : (Tm × Int)} (e : sequentref21_Mk_j1 t8_1 a0 a1 a2 = some r) : Runs Try.prog Try.f38.ntmps [] (codeAt [1, 1, 1, 1, 0, 0] (bodyOf Try.f38)) (qAt T Try.prog Try.f38.ntmps [] [4, 6] [1, 1, 1, 1, 0, 0] (bodyOf Try.f38) (EndPure T Try.f38.results.toList (.tuple [(Tm.D r.1), (.int .i64 r.2)]))) [(0, .d (.str a0)), (4, .ptr 0 0 0), (5, .ptr 0 1 0), (6, .ptr 0 2 0), (8, .d (.int .i64 t8_1))] [[.cells [.d (.int .u8 a1.kind), .d (.str a1.name), .d (.bool a1.ty.v), .d (.str a1.ty.name), .d (.slice 3 (Ty.Ds a1.ty.args)), .d (.int .i64 a1.index), .d (.slice 7 (Tm.Ds a1.sub))], .cells [.d (.int .u8 a2.kind), .d (.str a2.name), .d (.bool a2.ty.v), .d (.str a2.ty.name), .d (.slice 3 (Ty.Ds a2.ty.args)), .d (.int .i64 a2.index), .d (.slice 7 (Tm.Ds a2.sub))], .cells [.d (.int .u8 0), .d (.str ByteArray.empty), .d (.bool false), .d (.str ByteArray.empty), .nil 3, .d (.int .i64 0), .nil 7]]] := by
  unfold sequentref21_Mk_j1 at e
  refine Runs.enter T_ok ?_; (conv => whnf)
  refine ⟨⟨fun h7 => ?_, fun h7 => ?_⟩⟩
  · replace e := ifp h7 e; (conv => whnf)
    obtain rfl := sm e
    repeat' first | exact rfl | exact trivial | refine ⟨?_, ?_⟩
  · replace e := ifn h7 e; (conv => whnf)
    obtain ⟨v8, qv8, e⟩ := bnd e
    refine said_pure (P_sequentref21_Op qv8) rfl ?_; (conv => whnf)
    obtain rfl := sm e
    repeat' first | exact rfl | exact trivial | refine ⟨?_, ?_⟩

theorem P_sequentref21_Mk_j0 {t8_0 : Int} {a0 : ByteArray} {a1 : Tm} {a2 : Tm} {r : (Tm × Int)} (e : sequentref21_Mk_j0 t8_0 a0 a1 a2 = some r) : Runs Try.prog Try.f38.ntmps [] (codeAt [1, 1, 1, 0, 0] (bodyOf Try.f38)) (qAt T Try.prog Try.f38.ntmps [] [4, 6] [1, 1, 1, 0, 0] (bodyOf Try.f38) (EndPure T Try.f38.results.toList (.tuple [(Tm.D r.1), (.int .i64 r.2)]))) [(0, .d (.str a0)), (4, .ptr 0 0 0), (5, .ptr 0 1 0), (6, .ptr 0 2 0), (8, .d (.int .i64 t8_0))] [[.cells [.d (.int .u8 a1.kind), .d (.str a1.name), .d (.bool a1.ty.v), .d (.str a1.ty.name), .d (.slice 3 (Ty.Ds a1.ty.args)), .d (.int .i64 a1.index), .d (.slice 7 (Tm.Ds a1.sub))], .cells [.d (.int .u8 a2.kind), .d (.str a2.name), .d (.bool a2.ty.v), .d (.str a2.ty.name), .d (.slice 3 (Ty.Ds a2.ty.args)), .d (.int .i64 a2.index), .d (.slice 7 (Tm.Ds a2.sub))], .cells [.d (.int .u8 0), .d (.str ByteArray.empty), .d (.bool false), .d (.str ByteArray.empty), .nil 3, .d (.int .i64 0), .nil 7]]] := by
  unfold sequentref21_Mk_j0 at e
  refine Runs.enter T_ok ?_; (conv => whnf)
  refine ⟨⟨fun h5 => ?_, fun h5 => ?_⟩⟩
  · replace e := ifp h5 e; (conv => whnf)
    refine ⟨⟨⟨rfl, rfl⟩, ⟨⟨rfl, rfl⟩, trivial⟩⟩, ?_⟩; (conv => whnf)
    obtain ⟨v6, qv6, e⟩ := bnd e
    first | (refine said_pure (P_sequentref21_Checks qv6) rfl ?_) | (refine said_pure2 (P_sequentref21_Checks qv6) rfl (by simp [Tm.Ds_all, Ty.Ds_all, Tm.D, Ty.D, listAll] <;> (repeat' first | rfl | apply And.intro)) ?_)
    (conv => whnf)
    refine Runs.weak (P_sequentref21_Mk_j1 e) ?_
    repeat' first | exact wk.of_eq rfl | exact wk.pure rfl | exact wk.un _ | exact rfl | exact trivial | refine ⟨?_, ?_⟩ | (refine wk.of_eq ?_; (conv => lhs; whnf); (simp [Tm.Ds_all, Ty.Ds_all, Tm.D, Ty.D, listAll] <;> (repeat' first | rfl | apply And.intro)); done) | (refine wk.pure ?_; (conv => lhs; whnf); (simp [Tm.Ds_all, Ty.Ds_all, Tm.D, Ty.D, listAll] <;> (repeat' first | rfl | apply And.intro)); done) | ((simp [Tm.Ds_all, Ty.Ds_all, Tm.D, Ty.D, listAll] <;> (repeat' first | rfl | apply And.intro)); done)
  · replace e := ifn h5 e; (conv => whnf)
    refine Runs.weak (P_sequentref21_Mk_j1 e) ?_
    repeat' first | exact wk.of_eq rfl | exact wk.pure rfl | exact wk.un _ | exact rfl | exact trivial | refine ⟨?_, ?_⟩ | (refine wk.of_eq ?_; (conv => lhs; whnf); (simp [Tm.Ds_all, Ty.Ds_all, Tm.D, Ty.D, listAll] <;> (repeat' first | rfl | apply And.intro)); done) | (refine wk.pure ?_; (conv => lhs; whnf); (simp [Tm.Ds_all, Ty.Ds_all, Tm.D, Ty.D, listAll] <;> (repeat' first | rfl | apply And.intro)); done) | ((simp [Tm.Ds_all, Ty.Ds_all, Tm.D, Ty.D, listAll] <;> (repeat' first | rfl | apply And.intro)); done)

theorem P_sequentref21_Mk {a0 : ByteArray} {a1 : Tm} {a2 : Tm} {r : (Tm × Int)} (e : sequentref21_Mk a0 a1 a2 = some r) : Pure Try.prog 38 [(.str a0), (Tm.D a1), (Tm.D a2)] (.tuple [(Tm.D r.1), (.int .i64 r.2)]) := by
  unfold sequentref21_Mk at e
  refine pure_of_awp (js := [4, 6]) T_ok Try.func38 rfl (by decide +kernel) rfl ?_; (conv => whnf)
  refine ⟨⟨⟨rfl, rfl⟩, ⟨⟨rfl, rfl⟩, trivial⟩⟩, ?_⟩; (conv => whnf)
  obtain ⟨v1, qv1, e⟩ := bnd e
  first | (refine said_pure (P_sequentref21_Checks qv1) rfl ?_) | (refine said_pure2 (P_sequentref21_Checks qv1) rfl (by simp [Tm.Ds_all, Ty.Ds_all, Tm.D, Ty.D, listAll] <;> (repeat' first | rfl | apply And.intro)) ?_)
  (conv => whnf)
  refine ⟨⟨fun h2 => ?_, fun h2 => ?_⟩⟩
  · replace e := ifp h2 e; (conv => whnf)
    obtain ⟨v3, qv3, e⟩ := bnd e
    refine said_pure (P_sequentref21_IsOp qv3) rfl ?_; (conv => whnf)
    refine brK.nsplit (fun hb4 => ?_) (fun hb4 => ?_)
    · replace e := ifpb hb4 e; (conv => whnf)
      refine Runs.weak (P_sequentref21_Mk_j0 e) ?_
      repeat' first | exact wk.of_eq rfl | exact wk.pure rfl | exact wk.un _ | exact rfl | exact trivial | refine ⟨?_, ?_⟩ | (refine wk.of_eq ?_; (conv => lhs; whnf); (simp [Tm.Ds_all, Ty.Ds_all, Tm.D, Ty.D, listAll] <;> (repeat' first | rfl | apply And.intro)); done) | (refine wk.pure ?_; (conv => lhs; whnf); (simp [Tm.Ds_all, Ty.Ds_all, Tm.D, Ty.D, listAll] <;> (repeat' first | rfl | apply And.intro)); done) | ((simp [Tm.Ds_all, Ty.Ds_all, Tm.D, Ty.D, listAll] <;> (repeat' first | rfl | apply And.intro)); done)
    · replace e := ifnb hb4 e; (conv => whnf)
      refine Runs.weak (P_sequentref21_Mk_j0 e) ?_
      repeat' first | exact wk.of_eq rfl | exact wk.pure rfl | exact wk.un _ | exact rfl | exact trivial | refine ⟨?_, ?_⟩ | (refine wk.of_eq ?_; (conv => lhs; whnf); (simp [Tm.Ds_all, Ty.Ds_all, Tm.D, Ty.D, listAll] <;> (repeat' first | rfl | apply And.intro)); done) | (refine wk.pure ?_; (conv => lhs; whnf); (simp [Tm.Ds_all, Ty.Ds_all, Tm.D, Ty.D, listAll] <;> (repeat' first | rfl | apply And.intro)); done) | ((simp [Tm.Ds_all, Ty.Ds_all, Tm.D, Ty.D, listAll] <;> (repeat' first | rfl | apply And.intro)); done)
  · replace e := ifn h2 e; (conv => whnf)
    refine Runs.weak (P_sequentref21_Mk_j0 e) ?_
    repeat' first | exact wk.of_eq rfl | exact wk.pure rfl | exact wk.un _ | exact rfl | exact trivial | refine ⟨?_, ?_⟩ | (refine wk.of_eq ?_; (conv => lhs; whnf); (simp [Tm.Ds_all, Ty.Ds_all, Tm.D, Ty.D, listAll] <;> (repeat' first | rfl | apply And.intro)); done) | (refine wk.pure ?_; (conv => lhs; whnf); (simp [Tm.Ds_all, Ty.Ds_all, Tm.D, Ty.D, listAll] <;> (repeat' first | rfl | apply And.intro)); done) | ((simp [Tm.Ds_all, Ty.Ds_all, Tm.D, Ty.D, listAll] <;> (repeat' first | rfl | apply And.intro)); done)

theorem P_sequentref21_Suc {a0 : Tm} {r : Tm} (e : sequentref21_Suc a0 = some r) : Pure Try.prog 83 [(Tm.D a0)] (Tm.D r) := by
  unfold sequentref21_Suc at e
  refine pure_of_awp (js := []) T_ok Try.func83 rfl (by decide +kernel) rfl ?_; (conv => whnf)
  refine draw_rule T_ok mixed sequentref21_Suc_pl1 (by decide +kernel) ?_; (conv => whnf)
  obtain ⟨v1, qv1, e⟩ := bnd e
  refine said_pure (P_sequentref21_N qv1) rfl ⟨rfl, ?_⟩; (conv => whnf)
  obtain ⟨v2, qv2, e⟩ := bnd e
  refine said_pure (P_sequentref21_N qv2) rfl ⟨rfl, ?_⟩; (conv => whnf)
  obtain ⟨v3, qv3, e⟩ := bnd e
  refine said_pure (P_sequentref01_Fun qv3) rfl ⟨rfl, ?_⟩; (conv => whnf)
  obtain ⟨v4, qv4, e⟩ := bnd e
  refine said_pure (P_sequentref09_Constant qv4) rfl ⟨rfl, ?_⟩; (conv => whnf)
  obtain ⟨v5, qv5, e⟩ := bnd e
  refine said_pure (P_sequentref02_App qv5) rfl ⟨rfl, ?_⟩; (conv => whnf)
  obtain rfl := sm e
  repeat' first | exact rfl | exact trivial | refine ⟨?_, ?_⟩

theorem P_sequentref21_MkSuc {a0 : Tm} {r : (Tm × Int)} (e : sequentref21_MkSuc a0 = some r) : Pure Try.prog 36 [(Tm.D a0)] (.tuple [(Tm.D r.1), (.int .i64 r.2)]) := by
  unfold sequentref21_MkSuc at e
  refine pure_of_awp (js := []) T_ok Try.func36 rfl (by decide +kernel) rfl ?_; (conv => whnf)
  refine ⟨⟨⟨rfl, rfl⟩, trivial⟩, ?_⟩; (conv => whnf)
  obtain ⟨v1, qv1, e⟩ := bnd e
  first | (refine said_pure (P_sequentref21_Checks qv1) rfl ?_) | (refine said_pure2 (P_sequentref21_Checks qv1) rfl (by simp [Tm.Ds_all, Ty.Ds_all, Tm.D, Ty.D, listAll] <;> (repeat' first | rfl | apply And.intro)) ?_)
  (conv => whnf)
  refine ⟨⟨fun h2 => ?_, fun h2 => ?_⟩⟩
  · replace e := ifp h2 e; (conv => whnf)
    obtain rfl := sm e
    repeat' first | exact rfl | exact trivial | refine ⟨?_, ?_⟩
  · replace e := ifn h2 e; (conv => whnf)
    obtain ⟨v3, qv3, e⟩ := bnd e
    refine said_pure (P_sequentref21_Suc qv3) rfl ?_; (conv => whnf)
    obtain rfl := sm e
    repeat' first | exact rfl | exact trivial | refine ⟨?_, ?_⟩

theorem P_sequentlaw21_NumTerms {a0 : ByteArray} {a1 : Tm} {a2 : Tm} {r : Bool} (e : sequentlaw21_NumTerms a0 a1 a2 = some r) : Pure Try.prog 6 [(.str a0), (Tm.D a1), (Tm.D a2)] (.bool r) := by
  unfold sequentlaw21_NumTerms at e
  refine pure_of_awp (js := []) T_ok Try.func6 rfl (by decide +kernel) rfl ?_; (conv => whnf)
  refine ⟨⟨fun h1 => ?_, fun h1 => ?_⟩⟩
  · replace e := ifp h1 e; (conv => whnf)
    obtain ⟨v2, qv2, e⟩ := bnd e
    refine said_pure (P_sequentlaw21_woke qv2) rfl ?_; (conv => whnf)
    obtain rfl := sm e
    repeat' first | exact rfl | exact trivial | refine ⟨?_, ?_⟩
  · replace e := ifn h1 e; (conv => whnf)
    obtain ⟨v3, qv3, e⟩ := bnd e
    refine said_pure (P_sequentref02_Great qv3) rfl ?_; (conv => whnf)
    refine brK.split (fun hb4 => ?_) (fun hb4 => ?_)
    · replace e := ifpb hb4 e; (conv => whnf)
      refine brK.tt hb4 ?_; (conv => whnf)
      refine brK.tt hb4 ?_; (conv => whnf)
      obtain ⟨v5, qv5, e⟩ := bnd e
      refine said_pure (P_sequentlaw21_woke qv5) rfl ?_; (conv => whnf)
      obtain rfl := sm e
      repeat' first | exact rfl | exact trivial | refine ⟨?_, ?_⟩
    · replace e := ifnb hb4 e; (conv => whnf)
      refine brK.ff hb4 ?_; (conv => whnf)
      obtain ⟨v6, qv6, e⟩ := bnd e
      refine said_pure (P_sequentref02_Great qv6) rfl ?_; (conv => whnf)
      refine brK.ff hb4 ?_; (conv => whnf)
      refine brK.split (fun hb7 => ?_) (fun hb7 => ?_)
      · replace e := ifpb hb7 e; (conv => whnf)
        obtain ⟨v8, qv8, e⟩ := bnd e
        refine said_pure (P_sequentlaw21_woke qv8) rfl ?_; (conv => whnf)
        obtain rfl := sm e
        repeat' first | exact rfl | exact trivial | refine ⟨?_, ?_⟩
      · replace e := ifnb hb7 e; (conv => whnf)
        obtain ⟨v9, qv9, e⟩ := bnd e
        refine said_pure (P_num_MkSuc qv9) rfl ?_; (conv => whnf)
        obtain ⟨v10, qv10, e⟩ := bnd e
        refine said_pure (P_sequentref21_MkSuc qv10) rfl ?_; (conv => whnf)
        obtain ⟨v11, qv11, e⟩ := bnd e
        refine said_pure (P_num_Mk qv11) rfl ?_; (conv => whnf)
        obtain ⟨v12, qv12, e⟩ := bnd e
        refine said_pure (P_sequentref21_Mk qv12) rfl ?_; (conv => whnf)
        obtain ⟨v13, qv13, e⟩ := bnd e
        refine said_pure (P_sequentref02_Same qv13) rfl ?_; (conv => whnf)
        refine brK.split (fun hb14 => ?_) (fun hb14 => ?_)
        · replace e := ifpb hb14 e; (conv => whnf)
          refine brK.tt hb14 ?_; (conv => whnf)
          refine brK.tt hb14 ?_; (conv => whnf)
          refine ⟨⟨fun h15 => ?_, fun h15 => ?_⟩⟩
          · replace e := ifp h15 e; (conv => whnf)
            refine brK.tt hb14 ?_; (conv => whnf)
            obtain ⟨v16, qv16, e⟩ := bnd e
            refine said_pure (P_sequentref02_Same qv16) rfl ?_; (conv => whnf)
            refine brK.split (fun hb17 => ?_) (fun hb17 => ?_)
            · replace e := ifpb hb17 e; (conv => whnf)
              refine brK.tt hb17 ?_; (conv => whnf)
              refine brK.tt hb17 ?_; (conv => whnf)
              refine ⟨⟨fun h18 => ?_, fun h18 => ?_⟩⟩
              · replace e := ifp h18 e; (conv => whnf)
                refine brK.tt hb17 ?_; (conv => whnf)
                obtain ⟨v19, qv19, e⟩ := bnd e
                refine said_pure (P_sequentlaw21_woke qv19) rfl ?_; (conv => whnf)
                obtain rfl := sm e
                repeat' first | exact rfl | exact trivial | refine ⟨?_, ?_⟩
              · replace e := ifn h18 e; (conv => whnf)
                refine brK.tt hb17 ?_; (conv => whnf)
                obtain rfl := sm e
                repeat' first | exact rfl | exact trivial | refine ⟨?_, ?_⟩
            · replace e := ifnb hb17 e; (conv => whnf)
              refine brK.ff hb17 ?_; (conv => whnf)
              refine brK.ff hb17 ?_; (conv => whnf)
              refine brK.ff hb17 ?_; (conv => whnf)
              obtain rfl := sm e
              repeat' first | exact rfl | exact trivial | refine ⟨?_, ?_⟩
          · replace e := ifn h15 e; (conv => whnf)
            refine brK.tt hb14 ?_; (conv => whnf)
            obtain rfl := sm e
            repeat' first | exact rfl | exact trivial | refine ⟨?_, ?_⟩
        · replace e := ifnb hb14 e; (conv => whnf)
          refine brK.ff hb14 ?_; (conv => whnf)
          refine brK.ff hb14 ?_; (conv => whnf)
          refine brK.ff hb14 ?_; (conv => whnf)
          obtain rfl := sm e
          repeat' first | exact rfl | exact trivial | refine ⟨?_, ?_⟩

end Go.Proofs.Ytdjmibbgoajcaaa.Fw
