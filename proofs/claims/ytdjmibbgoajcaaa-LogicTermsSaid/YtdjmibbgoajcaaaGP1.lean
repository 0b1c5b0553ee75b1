/- The code computes the functions. -/
import Derived.Test.YtdjmibbgoajcaaaGP0
set_option autoImplicit false
set_option linter.unusedVariables false
set_option linter.unusedSimpArgs false
namespace Go.Proofs.Ytdjmibbgoajcaaa.Fw
open Go Go.Proofs Go.RowKit
def M_sequentref02_Twin (p : Tm) (r : Tm) : Prop := ∀ (a0 : Tm), a0 = p → Pure Try.prog 74 [(Tm.D a0)] (Tm.D r)
def M_sequentref02_Twin_j0 (p : (Tm × Ty)) (r : Tm) : Prop := ∀ (a0 : Tm) (v1 : Ty), (a0, v1) = p → Runs Try.prog Try.f74.ntmps [] (codeAt [1, 1, 0, 0] (bodyOf Try.f74)) (qAt T Try.prog Try.f74.ntmps [] [2] [1, 1, 0, 0] (bodyOf Try.f74) (EndPure T Try.f74.results.toList (Tm.D r))) [(1, .ptr 0 0 0), (2, .ptr 0 1 0), (3, .ptr 0 2 0)] [[.cells [.d (.int .u8 a0.kind), .d (.str a0.name), .d (.bool a0.ty.v), .d (.str a0.ty.name), .d (.slice 3 (Ty.Ds a0.ty.args)), .d (.int .i64 a0.index), .d (.slice 7 (Tm.Ds a0.sub))], .cells [.d (.int .u8 0), .d (.str ByteArray.empty), .d (.bool false), .d (.str ByteArray.empty), .nil 3, .d (.int .i64 0), .nil 7], .cells [.d (.int .u8 a0.kind), .d (.str a0.name), .d (.bool v1.v), .d (.str v1.name), .d (.slice 3 (Ty.Ds v1.args)), .d (.int .i64 a0.index), .nil 7]]]
def M_sequentref02_Twin_l0 (p : ((List Tm) × (List Tm) × Tm × Ty)) (r : Tm) : Prop := ∀ (rest0 : (List Tm)) (c2_6_0 : (List Tm)) (a0 : Tm) (v1 : Ty), (rest0, c2_6_0, a0, v1) = p → (∀ (k0 : Nat) (hd0 : rest0 = a0.sub.drop k0) (hn_c2_6_0 : c2_6_0 = []), RunsL Try.prog Try.f74.ntmps [] (codeAt [1, 1, 0, 1, 0, 0] (bodyOf Try.f74)) (qAt T Try.prog Try.f74.ntmps [] [2] [1, 1, 0, 1, 0] (bodyOf Try.f74) (EndPure T Try.f74.results.toList (Tm.D r))) [(1, .ptr 0 0 0), (2, .ptr 0 1 0), (3, .ptr 0 2 0), (4, .d (.int .i64 (k0 : Int)))] [[.cells [.d (.int .u8 a0.kind), .d (.str a0.name), .d (.bool a0.ty.v), .d (.str a0.ty.name), .d (.slice 3 (Ty.Ds a0.ty.args)), .d (.int .i64 a0.index), .d (.slice 7 (Tm.Ds a0.sub))], .cells [.d (.int .u8 0), .d (.str ByteArray.empty), .d (.bool false), .d (.str ByteArray.empty), .nil 3, .d (.int .i64 0), .nil 7], .cells [.d (.int .u8 a0.kind), .d (.str a0.name), .d (.bool v1.v), .d (.str v1.name), .d (.slice 3 (Ty.Ds v1.args)), .d (.int .i64 a0.index), .nil 7]]]) ∧ (∀ (k0 : Nat) (hd0 : rest0 = a0.sub.drop k0), RunsL Try.prog Try.f74.ntmps [] (codeAt [1, 1, 0, 1, 0, 0] (bodyOf Try.f74)) (qAt T Try.prog Try.f74.ntmps [] [2] [1, 1, 0, 1, 0] (bodyOf Try.f74) (EndPure T Try.f74.results.toList (Tm.D r))) [(1, .ptr 0 0 0), (2, .ptr 0 1 0), (3, .ptr 0 2 0), (4, .d (.int .i64 (k0 : Int)))] [[.cells [.d (.int .u8 a0.kind), .d (.str a0.name), .d (.bool a0.ty.v), .d (.str a0.ty.name), .d (.slice 3 (Ty.Ds a0.ty.args)), .d (.int .i64 a0.index), .d (.slice 7 (Tm.Ds a0.sub))], .cells [.d (.int .u8 0), .d (.str ByteArray.empty), .d (.bool false), .d (.str ByteArray.empty), .nil 3, .d (.int .i64 0), .nil 7], .cells [.d (.int .u8 a0.kind), .d (.str a0.name), .d (.bool v1.v), .d (.str v1.name), .d (.slice 3 (Ty.Ds v1.args)), .d (.int .i64 a0.index), .own 0 3 7 (Tm.Ds c2_6_0)], .grow 7 (Tm.Ds c2_6_0).length]])
theorem G_sequentref02_Twin : (∀ p r, sequentref02_Twin' p = some r → M_sequentref02_Twin p r) ∧
    (∀ p r, sequentref02_Twin_j0' p = some r → M_sequentref02_Twin_j0 p r) ∧
    (∀ p r, sequentref02_Twin_l0' p = some r → M_sequentref02_Twin_l0 p r) := by
  refine sequentref02_Twin'.mutual_partial_correctness M_sequentref02_Twin M_sequentref02_Twin_j0 M_sequentref02_Twin_l0 ?_ ?_ ?_
  · intro f_sequentref02_Twin_j0 ih_sequentref02_Twin_j0 p r e a0 hp
    subst hp
    refine pure_of_awp (js := [2]) T_ok Try.func74 rfl (by decide +kernel) rfl ?_; (conv => whnf)
    refine draw_rule T_ok mixed sequentref02_Twin_pl1 (by decide +kernel) ?_; (conv => whnf)
    obtain ⟨v1, qv1, e⟩ := bnd e
    refine ⟨?_, ?_⟩
    · (conv => whnf)
      refine said_pure (P_sequentref01_Twin qv1) rfl ⟨rfl, ?_⟩; (conv => whnf)
      refine Runs.weak (ih_sequentref02_Twin_j0 _ _ e _ _ rfl) ?_
      repeat' first | exact wk.of_eq rfl | exact wk.pure rfl | exact wk.un _ | exact rfl | exact trivial | refine ⟨?_, ?_⟩ | (refine wk.of_eq ?_; (conv => lhs; whnf); (simp [Tm.Ds_all, Ty.Ds_all, Tm.D, Ty.D, listAll] <;> (repeat' first | rfl | apply And.intro)); done) | (refine wk.pure ?_; (conv => lhs; whnf); (simp [Tm.Ds_all, Ty.Ds_all, Tm.D, Ty.D, listAll] <;> (repeat' first | rfl | apply And.intro)); done) | ((simp [Tm.Ds_all, Ty.Ds_all, Tm.D, Ty.D, listAll] <;> (repeat' first | rfl | apply And.intro)); done)
    · (conv => whnf)
      refine said_pure (P_sequentref01_Twin qv1) rfl ⟨rfl, ?_⟩; (conv => whnf)
      refine Runs.weak (ih_sequentref02_Twin_j0 _ _ e _ _ rfl) ?_
      repeat' first | exact wk.of_eq rfl | exact wk.pure rfl | exact wk.un _ | exact rfl | exact trivial | refine ⟨?_, ?_⟩ | (refine wk.of_eq ?_; (conv => lhs; whnf); (simp [Tm.Ds_all, Ty.Ds_all, Tm.D, Ty.D, listAll] <;> (repeat' first | rfl | apply And.intro)); done) | (refine wk.pure ?_; (conv => lhs; whnf); (simp [Tm.Ds_all, Ty.Ds_all, Tm.D, Ty.D, listAll] <;> (repeat' first | rfl | apply And.intro)); done) | ((simp [Tm.Ds_all, Ty.Ds_all, Tm.D, Ty.D, listAll] <;> (repeat' first | rfl | apply And.intro)); done)
  · intro f_sequentref02_Twin_l0 ih_sequentref02_Twin_l0 p r e a0 v1 hp
    subst hp
    refine Runs.enter T_ok ?_; (conv => whnf)
    refine RunsL.runs (RunsL.weak ((ih_sequentref02_Twin_l0 _ _ e _ _ _ _ rfl).1 0 (by simp) rfl) ?_)
    repeat' first | exact wk.of_eq rfl | exact wk.pure rfl | exact wk.un _ | exact rfl | exact trivial | refine ⟨?_, ?_⟩ | (refine wk.of_eq ?_; (conv => lhs; whnf); (simp [Tm.Ds_all, Ty.Ds_all, Tm.D, Ty.D, listAll] <;> (repeat' first | rfl | apply And.intro)); done) | (refine wk.pure ?_; (conv => lhs; whnf); (simp [Tm.Ds_all, Ty.Ds_all, Tm.D, Ty.D, listAll] <;> (repeat' first | rfl | apply And.intro)); done) | ((simp [Tm.Ds_all, Ty.Ds_all, Tm.D, Ty.D, listAll] <;> (repeat' first | rfl | apply And.intro)); done)
  · intro f_sequentref02_Twin f_sequentref02_Twin_l0 ih_sequentref02_Twin ih_sequentref02_Twin_l0 p r e rest0 c2_6_0 a0 v1 hp
    subst hp
    refine ⟨?_, ?_⟩
    · intro k0 hd0 hn_c2_6_0
      subst hn_c2_6_0
      refine RunsL.len_cell 0 6 rfl rfl rfl fun hlenk0 => ?_
      refine RunsL.of_awp (js := [2]) T_ok ?_; (conv => whnf)
      have hls := Tm.Ds_len a0.sub
      cases rest0 with
      | nil =>
        have hk := drop_nil hd0
        refine ⟨⟨fun h => absurd h (by omega), fun _ => ?_⟩⟩; (conv => whnf)
        obtain rfl := sm e
        repeat' first | exact rfl | exact trivial | refine ⟨?_, ?_⟩
      | cons v2 rest0 =>
        obtain ⟨hxv2, hd0, hltv2⟩ := drop_head hd0
        refine ⟨⟨fun _ => ?_, fun h => absurd (by omega) h⟩⟩; (conv => whnf)
        refine draw_rule T_ok mixed sequentref02_Twin_pl5 (by decide +kernel) ?_; (conv => whnf)
        refine ⟨k0, _, rfl, Tm.Ds_get hxv2, ?_⟩; (conv => whnf)
        refine ⟨Tm.Ds_fit _ rfl rfl, ?_⟩; (conv => whnf)
        obtain ⟨v3, qv3, e⟩ := bnd e
        refine said_pure (ih_sequentref02_Twin _ _ qv3 _ rfl) rfl ⟨rfl, ?_⟩; (conv => whnf)
        refine ⟨⟨⟨rfl, rfl⟩, trivial⟩, ?_⟩; (conv => whnf)
        obtain ⟨v4, qv4, e⟩ := bnd e
        obtain ⟨qv4l, qv4e⟩ := app_some qv4
        refine ⟨(by first | exact qv4l | simpa [Tm.Ds_all, Ty.Ds_all, Tm.D, Ty.D, listAll] using qv4l), rfl, fun h => (by first | cases h | simp at h), fun _ => ?_⟩; (conv => whnf)
        refine ⟨((k0 + 1 : Nat) : Int), wrap64e (by omega) (by omega) (by omega), ?_⟩; (conv => whnf)
        refine (RunsL.weak ((ih_sequentref02_Twin_l0 _ _ e _ _ _ _ rfl).2 (k0 + 1) hd0) ?_)
        repeat' first | exact wk.of_eq rfl | exact wk.pure rfl | exact wk.un _ | exact rfl | exact trivial | refine ⟨?_, ?_⟩ | (refine wk.of_eq ?_; (conv => lhs; whnf); (simp [Tm.Ds_all, Ty.Ds_all, Tm.D, Ty.D, listAll, qv4e] <;> (repeat' first | rfl | apply And.intro)); done) | (refine wk.pure ?_; (conv => lhs; whnf); (simp [Tm.Ds_all, Ty.Ds_all, Tm.D, Ty.D, listAll, qv4e] <;> (repeat' first | rfl | apply And.intro)); done) | ((simp [Tm.Ds_all, Ty.Ds_all, Tm.D, Ty.D, listAll, qv4e] <;> (repeat' first | rfl | apply And.intro)); done)
    · intro k0 hd0
      refine RunsL.len_cell 0 6 rfl rfl rfl fun hlenk0 => ?_
      refine RunsL.of_awp (js := [2]) T_ok ?_; (conv => whnf)
      have hls := Tm.Ds_len a0.sub
      cases rest0 with
      | nil =>
        have hk := drop_nil hd0
        refine ⟨⟨fun h => absurd h (by omega), fun _ => ?_⟩⟩; (conv => whnf)
        obtain rfl := sm e
        repeat' first | exact rfl | exact trivial | exact ⟨_, rfl, (by first | exact rfl | (simp [Tm.Ds_all, Ty.Ds_all, Tm.D, Ty.D, listAll] <;> (repeat' first | rfl | apply And.intro))), (by first | exact rfl | (simp [Tm.Ds_all, Ty.Ds_all, Tm.D, Ty.D, listAll] <;> (repeat' first | rfl | apply And.intro)))⟩ | refine ⟨?_, ?_⟩ | (simp [Tm.Ds_all, Ty.Ds_all, Tm.D, Ty.D, listAll] <;> (repeat' first | rfl | apply And.intro))
      | cons v5 rest0 =>
        obtain ⟨hxv5, hd0, hltv5⟩ := drop_head hd0
        refine ⟨⟨fun _ => ?_, fun h => absurd (by omega) h⟩⟩; (conv => whnf)
        refine draw_rule T_ok mixed sequentref02_Twin_pl5 (by decide +kernel) ?_; (conv => whnf)
        refine ⟨k0, _, rfl, Tm.Ds_get hxv5, ?_⟩; (conv => whnf)
        refine ⟨Tm.Ds_fit _ rfl rfl, ?_⟩; (conv => whnf)
        obtain ⟨v6, qv6, e⟩ := bnd e
        refine said_pure (ih_sequentref02_Twin _ _ qv6 _ rfl) rfl ⟨rfl, ?_⟩; (conv => whnf)
        refine ⟨⟨⟨rfl, rfl⟩, trivial⟩, ?_⟩; (conv => whnf)
        obtain ⟨v7, qv7, e⟩ := bnd e
        obtain ⟨qv7l, qv7e⟩ := app_some qv7
        refine ⟨(by first | exact qv7l | simpa [Tm.Ds_all, Ty.Ds_all, Tm.D, Ty.D, listAll] using qv7l), rfl, (by first | rfl | simp [Tm.Ds_all, Ty.Ds_all, Tm.D, Ty.D, listAll]), ?_⟩; (conv => whnf)
        refine ⟨((k0 + 1 : Nat) : Int), wrap64e (by omega) (by omega) (by omega), ?_⟩; (conv => whnf)
        refine (RunsL.weak ((ih_sequentref02_Twin_l0 _ _ e _ _ _ _ rfl).2 (k0 + 1) hd0) ?_)
        repeat' first | exact wk.of_eq rfl | exact wk.pure rfl | exact wk.un _ | exact rfl | exact trivial | refine ⟨?_, ?_⟩ | (refine wk.of_eq ?_; (conv => lhs; whnf); (simp [Tm.Ds_all, Ty.Ds_all, Tm.D, Ty.D, listAll, qv7e] <;> (repeat' first | rfl | apply And.intro)); done) | (refine wk.pure ?_; (conv => lhs; whnf); (simp [Tm.Ds_all, Ty.Ds_all, Tm.D, Ty.D, listAll, qv7e] <;> (repeat' first | rfl | apply And.intro)); done) | ((simp [Tm.Ds_all, Ty.Ds_all, Tm.D, Ty.D, listAll, qv7e] <;> (repeat' first | rfl | apply And.intro)); done)
theorem P_sequentref02_Twin {a0 : Tm} {r : Tm} (e : sequentref02_Twin a0 = some r) : Pure Try.prog 74 [(Tm.D a0)] (Tm.D r) := G_sequentref02_Twin.1 _ _ e _ rfl
theorem P_sequentref02_Twin_j0 {a0 : Tm} {v1 : Ty} {r : Tm} (e : sequentref02_Twin_j0 a0 v1 = some r) : Runs Try.prog Try.f74.ntmps [] (codeAt [1, 1, 0, 0] (bodyOf Try.f74)) (qAt T Try.prog Try.f74.ntmps [] [2] [1, 1, 0, 0] (bodyOf Try.f74) (EndPure T Try.f74.results.toList (Tm.D r))) [(1, .ptr 0 0 0), (2, .ptr 0 1 0), (3, .ptr 0 2 0)] [[.cells [.d (.int .u8 a0.kind), .d (.str a0.name), .d (.bool a0.ty.v), .d (.str a0.ty.name), .d (.slice 3 (Ty.Ds a0.ty.args)), .d (.int .i64 a0.index), .d (.slice 7 (Tm.Ds a0.sub))], .cells [.d (.int .u8 0), .d (.str ByteArray.empty), .d (.bool false), .d (.str ByteArray.empty), .nil 3, .d (.int .i64 0), .nil 7], .cells [.d (.int .u8 a0.kind), .d (.str a0.name), .d (.bool v1.v), .d (.str v1.name), .d (.slice 3 (Ty.Ds v1.args)), .d (.int .i64 a0.index), .nil 7]]] := G_sequentref02_Twin.2.1 _ _ e _ _ rfl
theorem P_sequentref02_Twin_l0 {rest0 : (List Tm)} {c2_6_0 : (List Tm)} {a0 : Tm} {v1 : Ty} {r : Tm} (e : sequentref02_Twin_l0 rest0 c2_6_0 a0 v1 = some r) : (∀ (k0 : Nat) (hd0 : rest0 = a0.sub.drop k0) (hn_c2_6_0 : c2_6_0 = []), RunsL Try.prog Try.f74.ntmps [] (codeAt [1, 1, 0, 1, 0, 0] (bodyOf Try.f74)) (qAt T Try.prog Try.f74.ntmps [] [2] [1, 1, 0, 1, 0] (bodyOf Try.f74) (EndPure T Try.f74.results.toList (Tm.D r))) [(1, .ptr 0 0 0), (2, .ptr 0 1 0), (3, .ptr 0 2 0), (4, .d (.int .i64 (k0 : Int)))] [[.cells [.d (.int .u8 a0.kind), .d (.str a0.name), .d (.bool a0.ty.v), .d (.str a0.ty.name), .d (.slice 3 (Ty.Ds a0.ty.args)), .d (.int .i64 a0.index), .d (.slice 7 (Tm.Ds a0.sub))], .cells [.d (.int .u8 0), .d (.str ByteArray.empty), .d (.bool false), .d (.str ByteArray.empty), .nil 3, .d (.int .i64 0), .nil 7], .cells [.d (.int .u8 a0.kind), .d (.str a0.name), .d (.bool v1.v), .d (.str v1.name), .d (.slice 3 (Ty.Ds v1.args)), .d (.int .i64 a0.index), .nil 7]]]) ∧ (∀ (k0 : Nat) (hd0 : rest0 = a0.sub.drop k0), RunsL Try.prog Try.f74.ntmps [] (codeAt [1, 1, 0, 1, 0, 0] (bodyOf Try.f74)) (qAt T Try.prog Try.f74.ntmps [] [2] [1, 1, 0, 1, 0] (bodyOf Try.f74) (EndPure T Try.f74.results.toList (Tm.D r))) [(1, .ptr 0 0 0), (2, .ptr 0 1 0), (3, .ptr 0 2 0), (4, .d (.int .i64 (k0 : Int)))] [[.cells [.d (.int .u8 a0.kind), .d (.str a0.name), .d (.bool a0.ty.v), .d (.str a0.ty.name), .d (.slice 3 (Ty.Ds a0.ty.args)), .d (.int .i64 a0.index), .d (.slice 7 (Tm.Ds a0.sub))], .cells [.d (.int .u8 0), .d (.str ByteArray.empty), .d (.bool false), .d (.str ByteArray.empty), .nil 3, .d (.int .i64 0), .nil 7], .cells [.d (.int .u8 a0.kind), .d (.str a0.name), .d (.bool v1.v), .d (.str v1.name), .d (.slice 3 (Ty.Ds v1.args)), .d (.int .i64 a0.index), .own 0 3 7 (Tm.Ds c2_6_0)], .grow 7 (Tm.Ds c2_6_0).length]]) := G_sequentref02_Twin.2.2 _ _ e _ _ _ _ rfl

def M_sequentref09_Dest_l0 (p : ((List Tm) × Int × Int × ByteArray × (List Tm) × ByteArray × Int)) (r : ((List Tm) × Bool)) : Prop := ∀ (t8_0 : (List Tm)) (t9_0 : Int) (c0_0_0 : Int) (c0_1_0 : ByteArray) (c0_6_0 : (List Tm)) (a1 : ByteArray) (a2 : Int), (t8_0, t9_0, c0_0_0, c0_1_0, c0_6_0, a1, a2) = p → ∀ (c0_2_0 : Bool) (c0_3_0 : ByteArray) (c0_4_0 : (List Ty)) (c0_5_0 : Int), RunsL Try.prog Try.f29.ntmps [] (codeAt [1, 1, 0, 1, 0, 0] (bodyOf Try.f29)) (qAt T Try.prog Try.f29.ntmps [] [] [1, 1, 0, 1, 0] (bodyOf Try.f29) (EndPure T Try.f29.results.toList (.tuple [(.slice 7 (Tm.Ds r.1)), (.bool r.2)]))) [(1, .d (.str a1)), (2, .d (.int .i64 a2)), (3, .ptr 0 0 0), (8, .d (.slice 7 (Tm.Ds t8_0))), (9, .d (.int .i64 t9_0))] [[.cells [.d (.int .u8 c0_0_0), .d (.str c0_1_0), .d (.bool c0_2_0), .d (.str c0_3_0), .d (.slice 3 (Ty.Ds c0_4_0)), .d (.int .i64 c0_5_0), .d (.slice 7 (Tm.Ds c0_6_0))]]]
theorem G_sequentref09_Dest_l0 : (∀ p r, sequentref09_Dest_l0' p = some r → M_sequentref09_Dest_l0 p r) := by
  refine sequentref09_Dest_l0'.partial_correctness M_sequentref09_Dest_l0 ?_
  · intro f_sequentref09_Dest_l0 ih_sequentref09_Dest_l0 p r e t8_0 t9_0 c0_0_0 c0_1_0 c0_6_0 a1 a2 hp
    subst hp
    intro c0_2_0 c0_3_0 c0_4_0 c0_5_0
    refine RunsL.of_awp (js := []) T_ok ?_; (conv => whnf)
    refine ⟨⟨fun h1 => ?_, fun h1 => ?_⟩⟩
    · replace e := ifp h1 e; (conv => whnf)
      refine ⟨⟨fun h2 => ?_, fun h2 => ?_⟩⟩
      · replace e := ifp h2 e; (conv => whnf)
        obtain rfl := sm e
        repeat' first | exact rfl | exact trivial | refine ⟨?_, ?_⟩
      · replace e := ifn h2 e; (conv => whnf)
        refine ⟨⟨fun h3 => ?_, fun h3 => ?_⟩⟩
        · replace e := ifp (by first | exact h3 | simpa [Tm.Ds_all, Ty.Ds_all, Tm.D, Ty.D, listAll] using h3) e; (conv => whnf)
          obtain rfl := sm e
          repeat' first | exact rfl | exact trivial | refine ⟨?_, ?_⟩
        · replace e := ifn (by first | exact h3 | simpa [Tm.Ds_all, Ty.Ds_all, Tm.D, Ty.D, listAll] using h3) e; (conv => whnf)
          obtain ⟨v4, qv4, e⟩ := bnd e
          obtain ⟨qv4k, qv4a, qv4b⟩ := geti_some qv4
          refine ⟨qv4k, _, qv4a, Tm.Ds_get qv4b, ?_⟩; (conv => whnf)
          refine ⟨Tm.Ds_fit _ rfl rfl, ?_⟩; (conv => whnf)
          obtain ⟨v5, qv5, e⟩ := bnd e
          refine said_pure (P_sequentref02_Twin qv5) rfl ?_; (conv => whnf)
          refine ⟨⟨⟨rfl, rfl⟩, trivial⟩, ?_⟩; (conv => whnf)
          obtain ⟨v6, qv6, e⟩ := bnd e
          obtain ⟨qv6l, qv6e⟩ := app_some qv6
          refine ⟨(by first | exact qv6l | simpa [Tm.Ds_all, Ty.Ds_all, Tm.D, Ty.D, listAll] using qv6l), rfl, fun hz => ?_, fun hz => ?_⟩
          · have hyv6 : t8_0 = [] := by simpa [Tm.Ds_map, List.map_eq_nil_iff, Tm.Ds_all, Ty.Ds_all, Tm.D, Ty.D, listAll] using hz
            have hzv6 : v6 = [v5] := by rw [qv6e, hyv6]; simp
            (conv => whnf)
            obtain ⟨v9, qv9, e⟩ := bnd e
            obtain ⟨qv9k, qv9a, qv9b⟩ := geti_some qv9
            refine ⟨qv9k, _, qv9a, Tm.Ds_get qv9b, ?_⟩; (conv => whnf)
            refine ⟨Tm.Ds_fit _ rfl rfl, ?_⟩; (conv => whnf)
            obtain ⟨v10, qv10, e⟩ := bnd e
            refine ⟨v10, sm qv10, ?_⟩; (conv => whnf)
            refine (RunsL.weak ((ih_sequentref09_Dest_l0 _ _ e _ _ _ _ _ _ _ rfl) v9.ty.v v9.ty.name v9.ty.args v9.index) ?_)
            repeat' first | exact wk.of_eq rfl | exact wk.pure rfl | exact wk.un _ | exact rfl | exact trivial | refine ⟨?_, ?_⟩ | (refine wk.of_eq ?_; (conv => lhs; whnf); (simp [Tm.Ds_all, Ty.Ds_all, Tm.D, Ty.D, listAll, hzv6] <;> (repeat' first | rfl | apply And.intro)); done) | (refine wk.pure ?_; (conv => lhs; whnf); (simp [Tm.Ds_all, Ty.Ds_all, Tm.D, Ty.D, listAll, hzv6] <;> (repeat' first | rfl | apply And.intro)); done) | ((simp [Tm.Ds_all, Ty.Ds_all, Tm.D, Ty.D, listAll, hzv6] <;> (repeat' first | rfl | apply And.intro)); done)
          · (conv => whnf)
            obtain ⟨v7, qv7, e⟩ := bnd e
            obtain ⟨qv7k, qv7a, qv7b⟩ := geti_some qv7
            refine ⟨qv7k, _, qv7a, Tm.Ds_get qv7b, ?_⟩; (conv => whnf)
            refine ⟨Tm.Ds_fit _ rfl rfl, ?_⟩; (conv => whnf)
            obtain ⟨v8, qv8, e⟩ := bnd e
            refine ⟨v8, sm qv8, ?_⟩; (conv => whnf)
            refine (RunsL.weak ((ih_sequentref09_Dest_l0 _ _ e _ _ _ _ _ _ _ rfl) v7.ty.v v7.ty.name v7.ty.args v7.index) ?_)
            repeat' first | exact wk.of_eq rfl | exact wk.pure rfl | exact wk.un _ | exact rfl | exact trivial | refine ⟨?_, ?_⟩ | (refine wk.of_eq ?_; (conv => lhs; whnf); (simp [Tm.Ds_all, Ty.Ds_all, Tm.D, Ty.D, listAll, qv6e] <;> (repeat' first | rfl | apply And.intro)); done) | (refine wk.pure ?_; (conv => lhs; whnf); (simp [Tm.Ds_all, Ty.Ds_all, Tm.D, Ty.D, listAll, qv6e] <;> (repeat' first | rfl | apply And.intro)); done) | ((simp [Tm.Ds_all, Ty.Ds_all, Tm.D, Ty.D, listAll, qv6e] <;> (repeat' first | rfl | apply And.intro)); done)
    · replace e := ifn h1 e; (conv => whnf)
      refine ⟨⟨fun h11 => ?_, fun h11 => ?_⟩⟩
      · replace e := ifp h11 e; (conv => whnf)
        obtain rfl := sm e
        repeat' first | exact rfl | exact trivial | refine ⟨?_, ?_⟩
      · replace e := ifn h11 e; (conv => whnf)
        refine ⟨⟨fun h12 => ?_, fun h12 => ?_⟩⟩
        · replace e := ifp h12 e; (conv => whnf)
          obtain rfl := sm e
          repeat' first | exact rfl | exact trivial | refine ⟨?_, ?_⟩
        · replace e := ifn h12 e; (conv => whnf)
          obtain rfl := sm e
          repeat' first | exact rfl | exact trivial | refine ⟨?_, ?_⟩
theorem P_sequentref09_Dest_l0 {t8_0 : (List Tm)} {t9_0 : Int} {c0_0_0 : Int} {c0_1_0 : ByteArray} {c0_6_0 : (List Tm)} {a1 : ByteArray} {a2 : Int} {r : ((List Tm) × Bool)} (e : sequentref09_Dest_l0 t8_0 t9_0 c0_0_0 c0_1_0 c0_6_0 a1 a2 = some r) : ∀ (c0_2_0 : Bool) (c0_3_0 : ByteArray) (c0_4_0 : (List Ty)) (c0_5_0 : Int), RunsL Try.prog Try.f29.ntmps [] (codeAt [1, 1, 0, 1, 0, 0] (bodyOf Try.f29)) (qAt T Try.prog Try.f29.ntmps [] [] [1, 1, 0, 1, 0] (bodyOf Try.f29) (EndPure T Try.f29.results.toList (.tuple [(.slice 7 (Tm.Ds r.1)), (.bool r.2)]))) [(1, .d (.str a1)), (2, .d (.int .i64 a2)), (3, .ptr 0 0 0), (8, .d (.slice 7 (Tm.Ds t8_0))), (9, .d (.int .i64 t9_0))] [[.cells [.d (.int .u8 c0_0_0), .d (.str c0_1_0), .d (.bool c0_2_0), .d (.str c0_3_0), .d (.slice 3 (Ty.Ds c0_4_0)), .d (.int .i64 c0_5_0), .d (.slice 7 (Tm.Ds c0_6_0))]]] := G_sequentref09_Dest_l0 _ _ e _ _ _ _ _ _ _ rfl

theorem P_sequentref09_Dest {a0 : Tm} {a1 : ByteArray} {a2 : Int} {r : ((List Tm) × Bool)} (e : sequentref09_Dest a0 a1 a2 = some r) : Pure Try.prog 29 [(Tm.D a0), (.str a1), (.int .i64 a2)] (.tuple [(.slice 7 (Tm.Ds r.1)), (.bool r.2)]) := by
  unfold sequentref09_Dest at e
  refine pure_of_awp (js := []) T_ok Try.func29 rfl (by decide +kernel) rfl ?_; (conv => whnf)
  refine RunsL.runs (RunsL.weak ((P_sequentref09_Dest_l0 e) a0.ty.v a0.ty.name a0.ty.args a0.index) ?_)
  repeat' first | exact wk.of_eq rfl | exact wk.pure rfl | exact wk.un _ | exact rfl | exact trivial | refine ⟨?_, ?_⟩ | (refine wk.of_eq ?_; (conv => lhs; whnf); (simp [Tm.Ds_all, Ty.Ds_all, Tm.D, Ty.D, listAll] <;> (repeat' first | rfl | apply And.intro)); done) | (refine wk.pure ?_; (conv => lhs; whnf); (simp [Tm.Ds_all, Ty.Ds_all, Tm.D, Ty.D, listAll] <;> (repeat' first | rfl | apply And.intro)); done) | ((simp [Tm.Ds_all, Ty.Ds_all, Tm.D, Ty.D, listAll] <;> (repeat' first | rfl | apply And.intro)); done)

theorem P_sequentref01_Same {a0 : Ty} {a1 : Ty} {r : Bool} (e : sequentref01_Same a0 a1 = some r) : Pure Try.prog 118 [(Ty.D a0), (Ty.D a1)] (.bool r) := by
  unfold sequentref01_Same at e
  refine pure_of_awp (js := []) T_ok Try.func118 rfl (by decide +kernel) rfl ?_; (conv => whnf)
  obtain ⟨v1, qv1, e⟩ := bnd e
  refine said_pure (P_sequentref01_Compare qv1) rfl ?_; (conv => whnf)
  refine test.dec ?_; (conv => whnf)
  obtain rfl := sm e
  repeat' first | exact rfl | exact trivial | refine ⟨?_, ?_⟩

def M_sequentref01_Depth (p : Ty) (r : Int) : Prop := ∀ (a0 : Ty), a0 = p → Pure Try.prog 173 [(Ty.D a0)] (.int .i64 r)
def M_sequentref01_Depth_l0 (p : ((List Ty) × Int)) (r : Int) : Prop := ∀ (rest0 : (List Ty)) (t3_0 : Int), (rest0, t3_0) = p → ∀ (a0 : Ty) (k0 : Nat) (hd0 : rest0 = a0.args.drop k0), RunsL Try.prog Try.f173.ntmps [] (codeAt [1, 1, 0, 1, 0, 0] (bodyOf Try.f173)) (qAt T Try.prog Try.f173.ntmps [] [] [1, 1, 0, 1, 0] (bodyOf Try.f173) (EndPure T Try.f173.results.toList (.int .i64 r))) [(1, .ptr 0 0 0), (3, .d (.int .i64 t3_0)), (4, .d (.int .i64 (k0 : Int)))] [[.cells [.d (.bool a0.v), .d (.str a0.name), .d (.slice 3 (Ty.Ds a0.args))]]]
theorem G_sequentref01_Depth : (∀ p r, sequentref01_Depth' p = some r → M_sequentref01_Depth p r) ∧
    (∀ p r, sequentref01_Depth_l0' p = some r → M_sequentref01_Depth_l0 p r) := by
  refine sequentref01_Depth'.mutual_partial_correctness M_sequentref01_Depth M_sequentref01_Depth_l0 ?_ ?_
  · intro f_sequentref01_Depth_l0 ih_sequentref01_Depth_l0 p r e a0 hp
    subst hp
    refine pure_of_awp (js := []) T_ok Try.func173 rfl (by decide +kernel) rfl ?_; (conv => whnf)
    refine RunsL.runs (RunsL.weak ((ih_sequentref01_Depth_l0 _ _ e _ _ rfl) a0 0 (by simp)) ?_)
    repeat' first | exact wk.of_eq rfl | exact wk.pure rfl | exact wk.un _ | exact rfl | exact trivial | refine ⟨?_, ?_⟩ | (refine wk.of_eq ?_; (conv => lhs; whnf); (simp [Ty.Ds_all, Ty.D, listAll] <;> (repeat' first | rfl | apply And.intro)); done) | (refine wk.pure ?_; (conv => lhs; whnf); (simp [Ty.Ds_all, Ty.D, listAll] <;> (repeat' first | rfl | apply And.intro)); done) | ((simp [Ty.Ds_all, Ty.D, listAll] <;> (repeat' first | rfl | apply And.intro)); done)
  · intro f_sequentref01_Depth f_sequentref01_Depth_l0 ih_sequentref01_Depth ih_sequentref01_Depth_l0 p r e rest0 t3_0 hp
    subst hp
    intro a0 k0 hd0
    refine RunsL.len_cell 0 2 rfl rfl rfl fun hlenk0 => ?_
    refine RunsL.of_awp (js := []) T_ok ?_; (conv => whnf)
    have hls := Ty.Ds_len a0.args
    cases rest0 with
    | nil =>
      have hk := drop_nil hd0
      refine ⟨⟨fun h => absurd h (by omega), fun _ => ?_⟩⟩; (conv => whnf)
      obtain ⟨v3, qv3, e⟩ := bnd e
      refine ⟨v3, sm qv3, ?_⟩; (conv => whnf)
      obtain rfl := sm e
      repeat' first | exact rfl | exact trivial | refine ⟨?_, ?_⟩
    | cons v1 rest0 =>
      obtain ⟨hxv1, hd0, hltv1⟩ := drop_head hd0
      refine ⟨⟨fun _ => ?_, fun h => absurd (by omega) h⟩⟩; (conv => whnf)
      refine ⟨k0, _, rfl, Ty.Ds_get hxv1, ?_⟩; (conv => whnf)
      refine ⟨Ty.Ds_fit _ rfl rfl, ?_⟩; (conv => whnf)
      obtain ⟨v2, qv2, e⟩ := bnd e
      refine said_pure (ih_sequentref01_Depth _ _ qv2 _ rfl) rfl ?_; (conv => whnf)
      refine ⟨((k0 + 1 : Nat) : Int), wrap64e (by omega) (by omega) (by omega), ?_⟩; (conv => whnf)
      refine (RunsL.weak ((ih_sequentref01_Depth_l0 _ _ e _ _ rfl) a0 (k0 + 1) hd0) ?_)
      repeat' first | exact wk.of_eq rfl | exact wk.pure rfl | exact wk.un _ | exact rfl | exact trivial | refine ⟨?_, ?_⟩ | (refine wk.of_eq ?_; (conv => lhs; whnf); (simp [Ty.Ds_all, Ty.D, listAll] <;> (repeat' first | rfl | apply And.intro)); done) | (refine wk.pure ?_; (conv => lhs; whnf); (simp [Ty.Ds_all, Ty.D, listAll] <;> (repeat' first | rfl | apply And.intro)); done) | ((simp [Ty.Ds_all, Ty.D, listAll] <;> (repeat' first | rfl | apply And.intro)); done)
theorem P_sequentref01_Depth {a0 : Ty} {r : Int} (e : sequentref01_Depth a0 = some r) : Pure Try.prog 173 [(Ty.D a0)] (.int .i64 r) := G_sequentref01_Depth.1 _ _ e _ rfl
theorem P_sequentref01_Depth_l0 {rest0 : (List Ty)} {t3_0 : Int} {r : Int} (e : sequentref01_Depth_l0 rest0 t3_0 = some r) : ∀ (a0 : Ty) (k0 : Nat) (hd0 : rest0 = a0.args.drop k0), RunsL Try.prog Try.f173.ntmps [] (codeAt [1, 1, 0, 1, 0, 0] (bodyOf Try.f173)) (qAt T Try.prog Try.f173.ntmps [] [] [1, 1, 0, 1, 0] (bodyOf Try.f173) (EndPure T Try.f173.results.toList (.int .i64 r))) [(1, .ptr 0 0 0), (3, .d (.int .i64 t3_0)), (4, .d (.int .i64 (k0 : Int)))] [[.cells [.d (.bool a0.v), .d (.str a0.name), .d (.slice 3 (Ty.Ds a0.args))]]] := G_sequentref01_Depth.2 _ _ e _ _ rfl

def M_sequentref01_Size (p : Ty) (r : Int) : Prop := ∀ (a0 : Ty), a0 = p → Pure Try.prog 170 [(Ty.D a0)] (.int .i64 r)
def M_sequentref01_Size_l0 (p : ((List Ty) × Int)) (r : Int) : Prop := ∀ (rest0 : (List Ty)) (t3_0 : Int), (rest0, t3_0) = p → ∀ (a0 : Ty) (k0 : Nat) (hd0 : rest0 = a0.args.drop k0), RunsL Try.prog Try.f170.ntmps [] (codeAt [1, 1, 0, 1, 0, 0] (bodyOf Try.f170)) (qAt T Try.prog Try.f170.ntmps [] [] [1, 1, 0, 1, 0] (bodyOf Try.f170) (EndPure T Try.f170.results.toList (.int .i64 r))) [(1, .ptr 0 0 0), (3, .d (.int .i64 t3_0)), (4, .d (.int .i64 (k0 : Int)))] [[.cells [.d (.bool a0.v), .d (.str a0.name), .d (.slice 3 (Ty.Ds a0.args))]]]
theorem G_sequentref01_Size : (∀ p r, sequentref01_Size' p = some r → M_sequentref01_Size p r) ∧
    (∀ p r, sequentref01_Size_l0' p = some r → M_sequentref01_Size_l0 p r) := by
  refine sequentref01_Size'.mutual_partial_correctness M_sequentref01_Size M_sequentref01_Size_l0 ?_ ?_
  · intro f_sequentref01_Size_l0 ih_sequentref01_Size_l0 p r e a0 hp
    subst hp
    refine pure_of_awp (js := []) T_ok Try.func170 rfl (by decide +kernel) rfl ?_; (conv => whnf)
    refine RunsL.runs (RunsL.weak ((ih_sequentref01_Size_l0 _ _ e _ _ rfl) a0 0 (by simp)) ?_)
    repeat' first | exact wk.of_eq rfl | exact wk.pure rfl | exact wk.un _ | exact rfl | exact trivial | refine ⟨?_, ?_⟩ | (refine wk.of_eq ?_; (conv => lhs; whnf); (simp [Ty.Ds_all, Ty.D, listAll] <;> (repeat' first | rfl | apply And.intro)); done) | (refine wk.pure ?_; (conv => lhs; whnf); (simp [Ty.Ds_all, Ty.D, listAll] <;> (repeat' first | rfl | apply And.intro)); done) | ((simp [Ty.Ds_all, Ty.D, listAll] <;> (repeat' first | rfl | apply And.intro)); done)
  · intro f_sequentref01_Size f_sequentref01_Size_l0 ih_sequentref01_Size ih_sequentref01_Size_l0 p r e rest0 t3_0 hp
    subst hp
    intro a0 k0 hd0
    refine RunsL.len_cell 0 2 rfl rfl rfl fun hlenk0 => ?_
    refine RunsL.of_awp (js := []) T_ok ?_; (conv => whnf)
    have hls := Ty.Ds_len a0.args
    cases rest0 with
    | nil =>
      have hk := drop_nil hd0
      refine ⟨⟨fun h => absurd h (by omega), fun _ => ?_⟩⟩; (conv => whnf)
      obtain rfl := sm e
      repeat' first | exact rfl | exact trivial | refine ⟨?_, ?_⟩
    | cons v1 rest0 =>
      obtain ⟨hxv1, hd0, hltv1⟩ := drop_head hd0
      refine ⟨⟨fun _ => ?_, fun h => absurd (by omega) h⟩⟩; (conv => whnf)
      refine ⟨k0, _, rfl, Ty.Ds_get hxv1, ?_⟩; (conv => whnf)
      refine ⟨Ty.Ds_fit _ rfl rfl, ?_⟩; (conv => whnf)
      obtain ⟨v2, qv2, e⟩ := bnd e
      refine said_pure (ih_sequentref01_Size _ _ qv2 _ rfl) rfl ?_; (conv => whnf)
      obtain ⟨v3, qv3, e⟩ := bnd e
      refine ⟨v3, sm qv3, ?_⟩; (conv => whnf)
      refine ⟨((k0 + 1 : Nat) : Int), wrap64e (by omega) (by omega) (by omega), ?_⟩; (conv => whnf)
      refine (RunsL.weak ((ih_sequentref01_Size_l0 _ _ e _ _ rfl) a0 (k0 + 1) hd0) ?_)
      repeat' first | exact wk.of_eq rfl | exact wk.pure rfl | exact wk.un _ | exact rfl | exact trivial | refine ⟨?_, ?_⟩ | (refine wk.of_eq ?_; (conv => lhs; whnf); (simp [Ty.Ds_all, Ty.D, listAll] <;> (repeat' first | rfl | apply And.intro)); done) | (refine wk.pure ?_; (conv => lhs; whnf); (simp [Ty.Ds_all, Ty.D, listAll] <;> (repeat' first | rfl | apply And.intro)); done) | ((simp [Ty.Ds_all, Ty.D, listAll] <;> (repeat' first | rfl | apply And.intro)); done)
theorem P_sequentref01_Size {a0 : Ty} {r : Int} (e : sequentref01_Size a0 = some r) : Pure Try.prog 170 [(Ty.D a0)] (.int .i64 r) := G_sequentref01_Size.1 _ _ e _ rfl
theorem P_sequentref01_Size_l0 {rest0 : (List Ty)} {t3_0 : Int} {r : Int} (e : sequentref01_Size_l0 rest0 t3_0 = some r) : ∀ (a0 : Ty) (k0 : Nat) (hd0 : rest0 = a0.args.drop k0), RunsL Try.prog Try.f170.ntmps [] (codeAt [1, 1, 0, 1, 0, 0] (bodyOf Try.f170)) (qAt T Try.prog Try.f170.ntmps [] [] [1, 1, 0, 1, 0] (bodyOf Try.f170) (EndPure T Try.f170.results.toList (.int .i64 r))) [(1, .ptr 0 0 0), (3, .d (.int .i64 t3_0)), (4, .d (.int .i64 (k0 : Int)))] [[.cells [.d (.bool a0.v), .d (.str a0.name), .d (.slice 3 (Ty.Ds a0.args))]]] := G_sequentref01_Size.2 _ _ e _ _ rfl

theorem P_sequentref01_Small {a0 : Ty} {r : Bool} (e : sequentref01_Small a0 = some r) : Pure Try.prog 168 [(Ty.D a0)] (.bool r) := by
  unfold sequentref01_Small at e
  refine pure_of_awp (js := []) T_ok Try.func168 rfl (by decide +kernel) rfl ?_; (conv => whnf)
  obtain ⟨v1, qv1, e⟩ := bnd e
  refine said_pure (P_sequentref01_Size qv1) rfl ?_; (conv => whnf)
  refine ⟨⟨fun h2 => ?_, fun h2 => ?_⟩⟩
  · replace e := ifp h2 e; (conv => whnf)
    obtain ⟨v3, qv3, e⟩ := bnd e
    refine said_pure (P_sequentref01_Depth qv3) rfl ?_; (conv => whnf)
    refine test.dec ?_; (conv => whnf)
    obtain rfl := sm e
    repeat' first | exact rfl | exact trivial | refine ⟨?_, ?_⟩
  · replace e := ifn h2 e; (conv => whnf)
    obtain rfl := sm e
    repeat' first | exact rfl | exact trivial | refine ⟨?_, ?_⟩

def M_sequentref01_Name_l0 (p : (Int × ByteArray)) (r : Bool) : Prop := ∀ (t3_0 : Int) (a0 : ByteArray), (t3_0, a0) = p → RunsL Try.prog Try.f167.ntmps [] (codeAt [1, 1, 0, 1, 0, 0] (bodyOf Try.f167)) (qAt T Try.prog Try.f167.ntmps [] [] [1, 1, 0, 1, 0] (bodyOf Try.f167) (EndPure T Try.f167.results.toList (.bool r))) [(0, .d (.str a0)), (3, .d (.int .i64 t3_0))] [[]]
theorem G_sequentref01_Name_l0 : (∀ p r, sequentref01_Name_l0' p = some r → M_sequentref01_Name_l0 p r) := by
  refine sequentref01_Name_l0'.partial_correctness M_sequentref01_Name_l0 ?_
  · intro f_sequentref01_Name_l0 ih_sequentref01_Name_l0 p r e t3_0 a0 hp
    subst hp
    refine RunsL.of_awp (js := []) T_ok ?_; (conv => whnf)
    refine ⟨⟨fun h3 => ?_, fun h3 => ?_⟩⟩
    · replace e := ifp h3 e; (conv => whnf)
      obtain ⟨v4, qv4, e⟩ := bnd e
      obtain ⟨qv4k, qv4q, qv4a, qv4b, qv4c⟩ := getb_some qv4
      refine ⟨qv4k, qv4q, qv4a, qv4b, ?_⟩; rw [qv4c]; (conv => whnf)
      refine ⟨⟨fun h5 => ?_, fun h5 => ?_⟩⟩
      · replace e := ifp h5 e; (conv => whnf)
        obtain rfl := sm e
        repeat' first | exact rfl | exact trivial | refine ⟨?_, ?_⟩
      · replace e := ifn h5 e; (conv => whnf)
        refine ⟨⟨fun h6 => ?_, fun h6 => ?_⟩⟩
        · replace e := ifp h6 e; (conv => whnf)
          obtain rfl := sm e
          repeat' first | exact rfl | exact trivial | refine ⟨?_, ?_⟩
        · replace e := ifn h6 e; (conv => whnf)
          refine ⟨⟨fun h7 => ?_, fun h7 => ?_⟩⟩
          · replace e := ifp h7 e; (conv => whnf)
            obtain rfl := sm e
            repeat' first | exact rfl | exact trivial | refine ⟨?_, ?_⟩
          · replace e := ifn h7 e; (conv => whnf)
            refine ⟨⟨fun h8 => ?_, fun h8 => ?_⟩⟩
            · replace e := ifp h8 e; (conv => whnf)
              obtain rfl := sm e
              repeat' first | exact rfl | exact trivial | refine ⟨?_, ?_⟩
            · replace e := ifn h8 e; (conv => whnf)
              refine ⟨⟨fun h9 => ?_, fun h9 => ?_⟩⟩
              · replace e := ifp h9 e; (conv => whnf)
                obtain rfl := sm e
                repeat' first | exact rfl | exact trivial | refine ⟨?_, ?_⟩
              · replace e := ifn h9 e; (conv => whnf)
                refine ⟨⟨fun h10 => ?_, fun h10 => ?_⟩⟩
                · replace e := ifp h10 e; (conv => whnf)
                  obtain rfl := sm e
                  repeat' first | exact rfl | exact trivial | refine ⟨?_, ?_⟩
                · replace e := ifn h10 e; (conv => whnf)
                  refine ⟨⟨fun h11 => ?_, fun h11 => ?_⟩⟩
                  · replace e := ifp h11 e; (conv => whnf)
                    obtain rfl := sm e
                    repeat' first | exact rfl | exact trivial | refine ⟨?_, ?_⟩
                  · replace e := ifn h11 e; (conv => whnf)
                    refine ⟨⟨fun h12 => ?_, fun h12 => ?_⟩⟩
                    · replace e := ifp h12 e; (conv => whnf)
                      obtain rfl := sm e
                      repeat' first | exact rfl | exact trivial | refine ⟨?_, ?_⟩
                    · replace e := ifn h12 e; (conv => whnf)
                      refine ⟨⟨fun h13 => ?_, fun h13 => ?_⟩⟩
                      · replace e := ifp h13 e; (conv => whnf)
                        obtain rfl := sm e
                        repeat' first | exact rfl | exact trivial | refine ⟨?_, ?_⟩
                      · replace e := ifn h13 e; (conv => whnf)
                        obtain ⟨v14, qv14, e⟩ := bnd e
                        refine ⟨v14, sm qv14, ?_⟩; (conv => whnf)
                        refine (RunsL.weak (ih_sequentref01_Name_l0 _ _ e _ _ rfl) ?_)
                        repeat' first | exact wk.of_eq rfl | exact wk.pure rfl | exact wk.un _ | exact rfl | exact trivial | refine ⟨?_, ?_⟩ | (refine wk.of_eq ?_; (conv => lhs; whnf); (simp [listAll] <;> (repeat' first | rfl | apply And.intro)); done) | (refine wk.pure ?_; (conv => lhs; whnf); (simp [listAll] <;> (repeat' first | rfl | apply And.intro)); done) | ((simp [listAll] <;> (repeat' first | rfl | apply And.intro)); done)
    · replace e := ifn h3 e; (conv => whnf)
      obtain rfl := sm e
      repeat' first | exact rfl | exact trivial | refine ⟨?_, ?_⟩
theorem P_sequentref01_Name_l0 {t3_0 : Int} {a0 : ByteArray} {r : Bool} (e : sequentref01_Name_l0 t3_0 a0 = some r) : RunsL Try.prog Try.f167.ntmps [] (codeAt [1, 1, 0, 1, 0, 0] (bodyOf Try.f167)) (qAt T Try.prog Try.f167.ntmps [] [] [1, 1, 0, 1, 0] (bodyOf Try.f167) (EndPure T Try.f167.results.toList (.bool r))) [(0, .d (.str a0)), (3, .d (.int .i64 t3_0))] [[]] := G_sequentref01_Name_l0 _ _ e _ _ rfl

theorem P_sequentref01_Name {a0 : ByteArray} {r : Bool} (e : sequentref01_Name a0 = some r) : Pure Try.prog 167 [(.str a0)] (.bool r) := by
  unfold sequentref01_Name at e
  refine pure_of_awp (js := []) T_ok Try.func167 rfl (by decide +kernel) rfl ?_; (conv => whnf)
  refine ⟨⟨fun h1 => ?_, fun h1 => ?_⟩⟩
  · replace e := ifp h1 e; (conv => whnf)
    obtain rfl := sm e
    repeat' first | exact rfl | exact trivial | refine ⟨?_, ?_⟩
  · replace e := ifn h1 e; (conv => whnf)
    refine ⟨⟨fun h2 => ?_, fun h2 => ?_⟩⟩
    · replace e := ifp h2 e; (conv => whnf)
      obtain rfl := sm e
      repeat' first | exact rfl | exact trivial | refine ⟨?_, ?_⟩
    · replace e := ifn h2 e; (conv => whnf)
      refine RunsL.runs (RunsL.weak (P_sequentref01_Name_l0 e) ?_)
      repeat' first | exact wk.of_eq rfl | exact wk.pure rfl | exact wk.un _ | exact rfl | exact trivial | refine ⟨?_, ?_⟩ | (refine wk.of_eq ?_; (conv => lhs; whnf); (simp [listAll] <;> (repeat' first | rfl | apply And.intro)); done) | (refine wk.pure ?_; (conv => lhs; whnf); (simp [listAll] <;> (repeat' first | rfl | apply And.intro)); done) | ((simp [listAll] <;> (repeat' first | rfl | apply And.intro)); done)

def M_sequentref01_shape (p : Ty) (r : Bool) : Prop := ∀ (a0 : Ty), a0 = p → Pure Try.prog 169 [(Ty.D a0)] (.bool r)
def M_sequentref01_shape_j0 (p : Ty) (r : Bool) : Prop := ∀ (a0 : Ty), a0 = p → Runs Try.prog Try.f169.ntmps [] (codeAt [1, 1, 0, 0] (bodyOf Try.f169)) (qAt T Try.prog Try.f169.ntmps [] [3] [1, 1, 0, 0] (bodyOf Try.f169) (EndPure T Try.f169.results.toList (.bool r))) [(1, .ptr 0 0 0)] [[.cells [.d (.bool a0.v), .d (.str a0.name), .d (.slice 3 (Ty.Ds a0.args))]]]
def M_sequentref01_shape_l0 (p : (List Ty)) (r : Bool) : Prop := ∀ (rest0 : (List Ty)), rest0 = p → ∀ (a0 : Ty) (k0 : Nat) (hd0 : rest0 = a0.args.drop k0), RunsL Try.prog Try.f169.ntmps [] (codeAt [1, 1, 0, 1, 0, 0] (bodyOf Try.f169)) (qAt T Try.prog Try.f169.ntmps [] [3] [1, 1, 0, 1, 0] (bodyOf Try.f169) (EndPure T Try.f169.results.toList (.bool r))) [(1, .ptr 0 0 0), (3, .d (.int .i64 (k0 : Int)))] [[.cells [.d (.bool a0.v), .d (.str a0.name), .d (.slice 3 (Ty.Ds a0.args))]]]
theorem G_sequentref01_shape : (∀ p r, sequentref01_shape' p = some r → M_sequentref01_shape p r) ∧
    (∀ p r, sequentref01_shape_j0' p = some r → M_sequentref01_shape_j0 p r) ∧
    (∀ p r, sequentref01_shape_l0' p = some r → M_sequentref01_shape_l0 p r) := by
  refine sequentref01_shape'.mutual_partial_correctness M_sequentref01_shape M_sequentref01_shape_j0 M_sequentref01_shape_l0 ?_ ?_ ?_
  · intro f_sequentref01_shape_j0 ih_sequentref01_shape_j0 p r e a0 hp
    subst hp
    refine pure_of_awp (js := [3]) T_ok Try.func169 rfl (by decide +kernel) rfl ?_; (conv => whnf)
    refine draw_rule T_ok mixed sequentref01_shape_pl1 (by decide +kernel) ?_; (conv => whnf)
    obtain ⟨v1, qv1, e⟩ := bnd e
    refine said_pure (P_sequentref01_Name qv1) rfl ⟨rfl, ?_⟩; (conv => whnf)
    refine brK.nsplit (fun hb2 => ?_) (fun hb2 => ?_)
    · replace e := ifpb hb2 e; (conv => whnf)
      refine brK.ntt hb2 ?_; (conv => whnf)
      refine brK.ntt hb2 ?_; (conv => whnf)
      refine brK.ntt hb2 ?_; (conv => whnf)
      refine brK.ntt hb2 ?_; (conv => whnf)
      obtain ⟨v3, qv3, e⟩ := bnd e
      obtain ⟨qv3k, qv3q, qv3a, qv3b, qv3c⟩ := getb_some qv3
      refine ⟨qv3k, qv3q, qv3a, qv3b, ?_⟩; rw [qv3c]; (conv => whnf)
      refine brK.ntt hb2 ?_; (conv => whnf)
      refine test.dec ?_; (conv => whnf)
      refine brK.ntt hb2 ?_; (conv => whnf)
      refine ⟨⟨fun h4 => ?_, fun h4 => ?_⟩⟩
      · replace e := ifp h4 e; (conv => whnf)
        refine brK.ntt hb2 ?_; (conv => whnf)
        obtain rfl := sm e
        repeat' first | exact rfl | exact trivial | refine ⟨?_, ?_⟩
      · replace e := ifn h4 e; (conv => whnf)
        refine brK.ntt hb2 ?_; (conv => whnf)
        refine brK.split (fun hb5 => ?_) (fun hb5 => ?_)
        · replace e := ifpb hb5 e; (conv => whnf)
          refine brK.tt hb5 ?_; (conv => whnf)
          refine brK.tt hb5 ?_; (conv => whnf)
          refine brK.tt hb5 ?_; (conv => whnf)
          refine ⟨⟨fun h6 => ?_, fun h6 => ?_⟩⟩
          · replace e := ifp (by first | exact h6 | simpa [Ty.Ds_all, Ty.D, listAll] using h6) e; (conv => whnf)
            refine brK.tt hb5 ?_; (conv => whnf)
            obtain rfl := sm e
            repeat' first | exact rfl | exact trivial | refine ⟨?_, ?_⟩
          · replace e := ifn (by first | exact h6 | simpa [Ty.Ds_all, Ty.D, listAll] using h6) e; (conv => whnf)
            refine brK.tt hb5 ?_; (conv => whnf)
            refine ⟨⟨fun h7 => ?_, fun h7 => ?_⟩⟩
            · replace e := ifp (by first | exact h7 | simpa [Ty.Ds_all, Ty.D, listAll] using h7) e; (conv => whnf)
              obtain rfl := sm e
              repeat' first | exact rfl | exact trivial | refine ⟨?_, ?_⟩
            · replace e := ifn (by first | exact h7 | simpa [Ty.Ds_all, Ty.D, listAll] using h7) e; (conv => whnf)
              refine Runs.weak (ih_sequentref01_shape_j0 _ _ e _ rfl) ?_
              repeat' first | exact wk.of_eq rfl | exact wk.pure rfl | exact wk.un _ | exact rfl | exact trivial | refine ⟨?_, ?_⟩ | (refine wk.of_eq ?_; (conv => lhs; whnf); (simp [Ty.Ds_all, Ty.D, listAll] <;> (repeat' first | rfl | apply And.intro)); done) | (refine wk.pure ?_; (conv => lhs; whnf); (simp [Ty.Ds_all, Ty.D, listAll] <;> (repeat' first | rfl | apply And.intro)); done) | ((simp [Ty.Ds_all, Ty.D, listAll] <;> (repeat' first | rfl | apply And.intro)); done)
        · replace e := ifnb hb5 e; (conv => whnf)
          refine brK.ff hb5 ?_; (conv => whnf)
          refine brK.ff hb5 ?_; (conv => whnf)
          refine brK.ff hb5 ?_; (conv => whnf)
          refine brK.ff hb5 ?_; (conv => whnf)
          refine ⟨⟨fun h11 => ?_, fun h11 => ?_⟩⟩
          · replace e := ifp (by first | exact h11 | simpa [Ty.Ds_all, Ty.D, listAll] using h11) e; (conv => whnf)
            obtain rfl := sm e
            repeat' first | exact rfl | exact trivial | refine ⟨?_, ?_⟩
          · replace e := ifn (by first | exact h11 | simpa [Ty.Ds_all, Ty.D, listAll] using h11) e; (conv => whnf)
            refine Runs.weak (ih_sequentref01_shape_j0 _ _ e _ rfl) ?_
            repeat' first | exact wk.of_eq rfl | exact wk.pure rfl | exact wk.un _ | exact rfl | exact trivial | refine ⟨?_, ?_⟩ | (refine wk.of_eq ?_; (conv => lhs; whnf); (simp [Ty.Ds_all, Ty.D, listAll] <;> (repeat' first | rfl | apply And.intro)); done) | (refine wk.pure ?_; (conv => lhs; whnf); (simp [Ty.Ds_all, Ty.D, listAll] <;> (repeat' first | rfl | apply And.intro)); done) | ((simp [Ty.Ds_all, Ty.D, listAll] <;> (repeat' first | rfl | apply And.intro)); done)
    · replace e := ifnb hb2 e; (conv => whnf)
      refine brK.nff hb2 ?_; (conv => whnf)
      refine brK.nff hb2 ?_; (conv => whnf)
      refine brK.nff hb2 ?_; (conv => whnf)
      refine brK.nff hb2 ?_; (conv => whnf)
      refine brK.nff hb2 ?_; (conv => whnf)
      refine brK.nff hb2 ?_; (conv => whnf)
      refine brK.nff hb2 ?_; (conv => whnf)
      obtain rfl := sm e
      repeat' first | exact rfl | exact trivial | refine ⟨?_, ?_⟩
  · intro f_sequentref01_shape_l0 ih_sequentref01_shape_l0 p r e a0 hp
    subst hp
    refine Runs.enter T_ok ?_; (conv => whnf)
    refine RunsL.runs (RunsL.weak ((ih_sequentref01_shape_l0 _ _ e _ rfl) a0 0 (by simp)) ?_)
    repeat' first | exact wk.of_eq rfl | exact wk.pure rfl | exact wk.un _ | exact rfl | exact trivial | refine ⟨?_, ?_⟩ | (refine wk.of_eq ?_; (conv => lhs; whnf); (simp [Ty.Ds_all, Ty.D, listAll] <;> (repeat' first | rfl | apply And.intro)); done) | (refine wk.pure ?_; (conv => lhs; whnf); (simp [Ty.Ds_all, Ty.D, listAll] <;> (repeat' first | rfl | apply And.intro)); done) | ((simp [Ty.Ds_all, Ty.D, listAll] <;> (repeat' first | rfl | apply And.intro)); done)
  · intro f_sequentref01_shape f_sequentref01_shape_l0 ih_sequentref01_shape ih_sequentref01_shape_l0 p r e rest0 hp
    subst hp
    intro a0 k0 hd0
    refine RunsL.len_cell 0 2 rfl rfl rfl fun hlenk0 => ?_
    refine RunsL.of_awp (js := [3]) T_ok ?_; (conv => whnf)
    have hls := Ty.Ds_len a0.args
    cases rest0 with
    | nil =>
      have hk := drop_nil hd0
      refine ⟨⟨fun h => absurd h (by omega), fun _ => ?_⟩⟩; (conv => whnf)
      obtain rfl := sm e
      repeat' first | exact rfl | exact trivial | refine ⟨?_, ?_⟩
    | cons v8 rest0 =>
      obtain ⟨hxv8, hd0, hltv8⟩ := drop_head hd0
      refine ⟨⟨fun _ => ?_, fun h => absurd (by omega) h⟩⟩; (conv => whnf)
      refine ⟨k0, _, rfl, Ty.Ds_get hxv8, ?_⟩; (conv => whnf)
      refine ⟨Ty.Ds_fit _ rfl rfl, ?_⟩; (conv => whnf)
      obtain ⟨v9, qv9, e⟩ := bnd e
      refine said_pure (ih_sequentref01_shape _ _ qv9 _ rfl) rfl ?_; (conv => whnf)
      refine brK.nsplit (fun hb10 => ?_) (fun hb10 => ?_)
      · replace e := ifpb hb10 e; (conv => whnf)
        refine ⟨((k0 + 1 : Nat) : Int), wrap64e (by omega) (by omega) (by omega), ?_⟩; (conv => whnf)
        refine (RunsL.weak ((ih_sequentref01_shape_l0 _ _ e _ rfl) a0 (k0 + 1) hd0) ?_)
        repeat' first | exact wk.of_eq rfl | exact wk.pure rfl | exact wk.un _ | exact rfl | exact trivial | refine ⟨?_, ?_⟩ | (refine wk.of_eq ?_; (conv => lhs; whnf); (simp [Ty.Ds_all, Ty.D, listAll] <;> (repeat' first | rfl | apply And.intro)); done) | (refine wk.pure ?_; (conv => lhs; whnf); (simp [Ty.Ds_all, Ty.D, listAll] <;> (repeat' first | rfl | apply And.intro)); done) | ((simp [Ty.Ds_all, Ty.D, listAll] <;> (repeat' first | rfl | apply And.intro)); done)
      · replace e := ifnb hb10 e; (conv => whnf)
        obtain rfl := sm e
        repeat' first | exact rfl | exact trivial | refine ⟨?_, ?_⟩
theorem P_sequentref01_shape {a0 : Ty} {r : Bool} (e : sequentref01_shape a0 = some r) : Pure Try.prog 169 [(Ty.D a0)] (.bool r) := G_sequentref01_shape.1 _ _ e _ rfl
theorem P_sequentref01_shape_j0 {a0 : Ty} {r : Bool} (e : sequentref01_shape_j0 a0 = some r) : Runs Try.prog Try.f169.ntmps [] (codeAt [1, 1, 0, 0] (bodyOf Try.f169)) (qAt T Try.prog Try.f169.ntmps [] [3] [1, 1, 0, 0] (bodyOf Try.f169) (EndPure T Try.f169.results.toList (.bool r))) [(1, .ptr 0 0 0)] [[.cells [.d (.bool a0.v), .d (.str a0.name), .d (.slice 3 (Ty.Ds a0.args))]]] := G_sequentref01_shape.2.1 _ _ e _ rfl
theorem P_sequentref01_shape_l0 {rest0 : (List Ty)} {r : Bool} (e : sequentref01_shape_l0 rest0 = some r) : ∀ (a0 : Ty) (k0 : Nat) (hd0 : rest0 = a0.args.drop k0), RunsL Try.prog Try.f169.ntmps [] (codeAt [1, 1, 0, 1, 0, 0] (bodyOf Try.f169)) (qAt T Try.prog Try.f169.ntmps [] [3] [1, 1, 0, 1, 0] (bodyOf Try.f169) (EndPure T Try.f169.results.toList (.bool r))) [(1, .ptr 0 0 0), (3, .d (.int .i64 (k0 : Int)))] [[.cells [.d (.bool a0.v), .d (.str a0.name), .d (.slice 3 (Ty.Ds a0.args))]]] := G_sequentref01_shape.2.2 _ _ e _ rfl

theorem P_sequentref01_Valid {a0 : Ty} {r : Bool} (e : sequentref01_Valid a0 = some r) : Pure Try.prog 153 [(Ty.D a0)] (.bool r) := by
  unfold sequentref01_Valid at e
  refine pure_of_awp (js := []) T_ok Try.func153 rfl (by decide +kernel) rfl ?_; (conv => whnf)
  obtain ⟨v1, qv1, e⟩ := bnd e
  refine said_pure (P_sequentref01_Small qv1) rfl ?_; (conv => whnf)
  refine brK.split (fun hb2 => ?_) (fun hb2 => ?_)
  · replace e := ifpb hb2 e; (conv => whnf)
    refine brK.tt hb2 ?_; (conv => whnf)
    obtain ⟨v3, qv3, e⟩ := bnd e
    refine said_pure (P_sequentref01_shape qv3) rfl ?_; (conv => whnf)
    refine brK.tt hb2 ?_; (conv => whnf)
    obtain rfl := sm e
    repeat' first | exact rfl | exact trivial | refine ⟨?_, ?_⟩
  · replace e := ifnb hb2 e; (conv => whnf)
    refine brK.ff hb2 ?_; (conv => whnf)
    refine brK.ff hb2 ?_; (conv => whnf)
    obtain rfl := sm e
    repeat' first | exact rfl | exact trivial | refine ⟨?_, ?_⟩

theorem P_sequentref01_Fun {a0 : Ty} {a1 : Ty} {r : Ty} (e : sequentref01_Fun a0 a1 = some r) : Pure Try.prog 121 [(Ty.D a0), (Ty.D a1)] (Ty.D r) := by
  unfold sequentref01_Fun at e
  refine pure_of_awp (js := []) T_ok Try.func121 rfl (by decide +kernel) rfl ?_; (conv => whnf)
  refine draw_rule T_ok mixed sequentref01_Fun_pl1 (by decide +kernel) ?_; (conv => whnf)
  obtain ⟨v1, qv1, e⟩ := bnd e
  refine said_pure (P_sequentref01_Twin qv1) rfl ⟨rfl, ?_⟩; (conv => whnf)
  obtain ⟨v2, qv2, e⟩ := bnd e
  refine said_pure (P_sequentref01_Twin qv2) rfl ⟨rfl, ?_⟩; (conv => whnf)
  refine ⟨⟨⟨rfl, rfl⟩, ⟨⟨rfl, rfl⟩, trivial⟩⟩, ?_⟩; (conv => whnf)
  obtain rfl := sm e
  repeat' first | exact rfl | exact trivial | exact ⟨_, rfl, (by first | exact rfl | (simp [Ty.Ds_all, Ty.D, listAll] <;> (repeat' first | rfl | apply And.intro))), (by first | exact rfl | (simp [Ty.Ds_all, Ty.D, listAll] <;> (repeat' first | rfl | apply And.intro)))⟩ | refine ⟨?_, ?_⟩ | (simp [Ty.Ds_all, Ty.D, listAll] <;> (repeat' first | rfl | apply And.intro))

theorem P_sequentref02_Formed_j0 {a0 : Tm} {v49 : (Ty × Bool)} {r : (Ty × Bool)} (e : sequentref02_Formed_j0 a0 v49 = some r) : (∀ (gn2 : Nat), Runs Try.prog Try.f137.ntmps [] (codeAt [1, 0, 1, 0, 1, 1, 1, 1, 1, 1, 1, 0, 1, 1, 0] (bodyOf Try.f137)) (qAt T Try.prog Try.f137.ntmps [] [21] [1, 0, 1, 0, 1, 1, 1, 1, 1, 1, 1, 0, 1, 1, 0] (bodyOf Try.f137) (EndPure T Try.f137.results.toList (.tuple [(Ty.D r.1), (.bool r.2)]))) [(2, .ptr 0 0 0), (4, .ptr 0 1 0), (10, .ptr 0 3 0), (11, .d (.bool v49.2))] [[.cells [.d (.int .u8 a0.kind), .d (.str a0.name), .d (.bool a0.ty.v), .d (.str a0.ty.name), .d (.slice 3 (Ty.Ds a0.ty.args)), .d (.int .i64 a0.index), .d (.slice 7 (Tm.Ds a0.sub))], .cells [.d (.bool false), .d (.str ByteArray.empty), .nil 3], .grow 3 gn2, .cells [.d (.bool v49.1.v), .d (.str v49.1.name), .d (.slice 3 (Ty.Ds v49.1.args))]]]) ∧ (Runs Try.prog Try.f137.ntmps [] (codeAt [1, 0, 1, 0, 1, 1, 1, 1, 1, 1, 1, 0, 1, 1, 0] (bodyOf Try.f137)) (qAt T Try.prog Try.f137.ntmps [] [21] [1, 0, 1, 0, 1, 1, 1, 1, 1, 1, 1, 0, 1, 1, 0] (bodyOf Try.f137) (EndPure T Try.f137.results.toList (.tuple [(Ty.D r.1), (.bool r.2)]))) [(2, .ptr 0 0 0), (4, .ptr 0 1 0), (10, .ptr 0 2 0), (11, .d (.bool v49.2))] [[.cells [.d (.int .u8 a0.kind), .d (.str a0.name), .d (.bool a0.ty.v), .d (.str a0.ty.name), .d (.slice 3 (Ty.Ds a0.ty.args)), .d (.int .i64 a0.index), .d (.slice 7 (Tm.Ds a0.sub))], .cells [.d (.bool false), .d (.str ByteArray.empty), .nil 3], .cells [.d (.bool v49.1.v), .d (.str v49.1.name), .d (.slice 3 (Ty.Ds v49.1.args))]]]) := by
  unfold sequentref02_Formed_j0 at e
  refine ⟨?_, ?_⟩
  · intro gn2
    refine Runs.enter T_ok ?_; (conv => whnf)
    obtain ⟨v50, qv50, e⟩ := bnd e
    refine said_pure (P_sequentref01_Fun qv50) rfl ?_; (conv => whnf)
    refine draw_rule T_ok mixed sequentref02_Formed_pl22 (by decide +kernel) ?_; (conv => whnf)
    refine brK.split (fun hb51 => ?_) (fun hb51 => ?_)
    · replace e := ifpb hb51 e; (conv => whnf)
      refine brK.tt hb51 ?_; (conv => whnf)
      obtain ⟨v52, qv52, e⟩ := bnd e
      refine said_pure (P_sequentref01_Valid qv52) rfl ⟨rfl, ?_⟩; (conv => whnf)
      refine brK.tt hb51 ?_; (conv => whnf)
      obtain rfl := sm e
      repeat' first | exact rfl | exact trivial | refine ⟨?_, ?_⟩
    · replace e := ifnb hb51 e; (conv => whnf)
      refine brK.ff hb51 ?_; (conv => whnf)
      refine brK.ff hb51 ?_; (conv => whnf)
      obtain rfl := sm e
      repeat' first | exact rfl | exact trivial | refine ⟨?_, ?_⟩
  · refine Runs.enter T_ok ?_; (conv => whnf)
    obtain ⟨v53, qv53, e⟩ := bnd e
    refine said_pure (P_sequentref01_Fun qv53) rfl ?_; (conv => whnf)
    refine draw_rule T_ok mixed sequentref02_Formed_pl22 (by decide +kernel) ?_; (conv => whnf)
    refine brK.split (fun hb54 => ?_) (fun hb54 => ?_)
    · replace e := ifpb hb54 e; (conv => whnf)
      refine brK.tt hb54 ?_; (conv => whnf)
      obtain ⟨v55, qv55, e⟩ := bnd e
      refine said_pure (P_sequentref01_Valid qv55) rfl ⟨rfl, ?_⟩; (conv => whnf)
      refine brK.tt hb54 ?_; (conv => whnf)
      obtain rfl := sm e
      repeat' first | exact rfl | exact trivial | refine ⟨?_, ?_⟩
    · replace e := ifnb hb54 e; (conv => whnf)
      refine brK.ff hb54 ?_; (conv => whnf)
      refine brK.ff hb54 ?_; (conv => whnf)
      obtain rfl := sm e
      repeat' first | exact rfl | exact trivial | refine ⟨?_, ?_⟩

theorem P_sequentref02_Name {a0 : ByteArray} {r : Bool} (e : sequentref02_Name a0 = some r) : Pure Try.prog 152 [(.str a0)] (.bool r) := by
  unfold sequentref02_Name at e
  refine pure_of_awp (js := []) T_ok Try.func152 rfl (by decide +kernel) rfl ?_; (conv => whnf)
  obtain ⟨v1, qv1, e⟩ := bnd e
  refine said_pure (P_sequentref01_Name qv1) rfl ?_; (conv => whnf)
  refine brK.split (fun hb2 => ?_) (fun hb2 => ?_)
  · replace e := ifpb hb2 e; (conv => whnf)
    refine brK.tt hb2 ?_; (conv => whnf)
    obtain ⟨v3, qv3, e⟩ := bnd e
    obtain ⟨qv3k, qv3q, qv3a, qv3b, qv3c⟩ := getb_some qv3
    refine ⟨qv3k, qv3q, qv3a, qv3b, ?_⟩; rw [qv3c]; (conv => whnf)
    refine brK.tt hb2 ?_; (conv => whnf)
    refine test.dec ?_; (conv => whnf)
    refine brK.tt hb2 ?_; (conv => whnf)
    obtain rfl := sm e
    repeat' first | exact rfl | exact trivial | refine ⟨?_, ?_⟩
  · replace e := ifnb hb2 e; (conv => whnf)
    refine brK.ff hb2 ?_; (conv => whnf)
    refine brK.ff hb2 ?_; (conv => whnf)
    refine brK.ff hb2 ?_; (conv => whnf)
    obtain rfl := sm e
    repeat' first | exact rfl | exact trivial | refine ⟨?_, ?_⟩

theorem P_sequentref02_none {a0 : Ty} {r : Bool} (e : sequentref02_none a0 = some r) : Pure Try.prog 154 [(Ty.D a0)] (.bool r) := by
  unfold sequentref02_none at e
  refine pure_of_awp (js := []) T_ok Try.func154 rfl (by decide +kernel) rfl ?_; (conv => whnf)
  refine brK.nsplit (fun hb1 => ?_) (fun hb1 => ?_)
  · replace e := ifpb hb1 e; (conv => whnf)
    refine brK.ntt hb1 ?_; (conv => whnf)
    refine brK.ntt hb1 ?_; (conv => whnf)
    refine brK.ntt hb1 ?_; (conv => whnf)
    obtain rfl := sm e
    repeat' first | exact rfl | exact trivial | refine ⟨?_, ?_⟩
  · replace e := ifnb hb1 e; (conv => whnf)
    refine brK.nff hb1 ?_; (conv => whnf)
    refine brK.nff hb1 ?_; (conv => whnf)
    refine ⟨⟨fun h2 => ?_, fun h2 => ?_⟩⟩
    · replace e := ifp h2 e; (conv => whnf)
      refine brK.nff hb1 ?_; (conv => whnf)
      refine test.dec ?_; (conv => whnf)
      obtain rfl := sm e
      repeat' first | exact rfl | exact trivial | refine ⟨?_, ?_⟩
    · replace e := ifn h2 e; (conv => whnf)
      refine brK.nff hb1 ?_; (conv => whnf)
      obtain rfl := sm e
      repeat' first | exact rfl | exact trivial | refine ⟨?_, ?_⟩

def M_sequentref02_Formed (p : (Tm × (List Ty))) (r : (Ty × Bool)) : Prop := ∀ (a0 : Tm) (a1 : (List Ty)), (a0, a1) = p → Pure Try.prog 137 [(Tm.D a0), (.slice 3 (Ty.Ds a1))] (.tuple [(Ty.D r.1), (.bool r.2)])
theorem G_sequentref02_Formed : (∀ p r, sequentref02_Formed' p = some r → M_sequentref02_Formed p r) := by
  refine sequentref02_Formed'.partial_correctness M_sequentref02_Formed ?_
  · intro f_sequentref02_Formed ih_sequentref02_Formed p r e a0 a1 hp
    subst hp
    refine pure_of_awp (js := [21]) T_ok Try.func137 rfl (by decide +kernel) rfl ?_; (conv => whnf)
    refine ⟨⟨fun h1 => ?_, fun h1 => ?_⟩⟩
    · replace e := ifp h1 e; (conv => whnf)
      refine draw_rule T_ok mixed sequentref02_Formed_pl4 (by decide +kernel) ?_; (conv => whnf)
      obtain ⟨v2, qv2, e⟩ := bnd e
      refine said_pure (P_sequentref02_Name qv2) rfl ⟨rfl, ?_⟩; (conv => whnf)
      refine brK.split (fun hb3 => ?_) (fun hb3 => ?_)
      · replace e := ifpb hb3 e; (conv => whnf)
        refine brK.tt hb3 ?_; (conv => whnf)
        refine brK.tt hb3 ?_; (conv => whnf)
        obtain ⟨v4, qv4, e⟩ := bnd e
        refine said_pure (P_sequentref01_Valid qv4) rfl ⟨rfl, ?_⟩; (conv => whnf)
        refine brK.tt hb3 ?_; (conv => whnf)
        refine brK.split (fun hb5 => ?_) (fun hb5 => ?_)
        · replace e := ifpb hb5 e; (conv => whnf)
          refine brK.tt hb5 ?_; (conv => whnf)
          refine brK.tt hb5 ?_; (conv => whnf)
          refine ⟨⟨fun h6 => ?_, fun h6 => ?_⟩⟩
          · replace e := ifp h6 e; (conv => whnf)
            refine brK.tt hb5 ?_; (conv => whnf)
            refine test.dec ?_; (conv => whnf)
            obtain rfl := sm e
            repeat' first | exact rfl | exact trivial | refine ⟨?_, ?_⟩
          · replace e := ifn h6 e; (conv => whnf)
            refine brK.tt hb5 ?_; (conv => whnf)
            obtain rfl := sm e
            repeat' first | exact rfl | exact trivial | refine ⟨?_, ?_⟩
        · replace e := ifnb hb5 e; (conv => whnf)
          refine brK.ff hb5 ?_; (conv => whnf)
          refine brK.ff hb5 ?_; (conv => whnf)
          refine brK.ff hb5 ?_; (conv => whnf)
          obtain rfl := sm e
          repeat' first | exact rfl | exact trivial | refine ⟨?_, ?_⟩
      · replace e := ifnb hb3 e; (conv => whnf)
        refine brK.ff hb3 ?_; (conv => whnf)
        refine brK.ff hb3 ?_; (conv => whnf)
        refine brK.ff hb3 ?_; (conv => whnf)
        obtain rfl := sm e
        repeat' first | exact rfl | exact trivial | refine ⟨?_, ?_⟩
    · replace e := ifn h1 e; (conv => whnf)
      refine ⟨⟨fun h7 => ?_, fun h7 => ?_⟩⟩
      · replace e := ifp h7 e; (conv => whnf)
        refine draw_rule T_ok mixed sequentref02_Formed_pl4 (by decide +kernel) ?_; (conv => whnf)
        obtain ⟨v8, qv8, e⟩ := bnd e
        refine said_pure (P_sequentref02_Name qv8) rfl ⟨rfl, ?_⟩; (conv => whnf)
        refine brK.split (fun hb9 => ?_) (fun hb9 => ?_)
        · replace e := ifpb hb9 e; (conv => whnf)
          refine brK.tt hb9 ?_; (conv => whnf)
          refine brK.tt hb9 ?_; (conv => whnf)
          obtain ⟨v10, qv10, e⟩ := bnd e
          refine said_pure (P_sequentref01_Valid qv10) rfl ⟨rfl, ?_⟩; (conv => whnf)
          refine brK.tt hb9 ?_; (conv => whnf)
          refine brK.split (fun hb11 => ?_) (fun hb11 => ?_)
          · replace e := ifpb hb11 e; (conv => whnf)
            refine brK.tt hb11 ?_; (conv => whnf)
            refine brK.tt hb11 ?_; (conv => whnf)
            refine ⟨⟨fun h12 => ?_, fun h12 => ?_⟩⟩
            · replace e := ifp h12 e; (conv => whnf)
              refine brK.tt hb11 ?_; (conv => whnf)
              refine test.dec ?_; (conv => whnf)
              obtain rfl := sm e
              repeat' first | exact rfl | exact trivial | refine ⟨?_, ?_⟩
            · replace e := ifn h12 e; (conv => whnf)
              refine brK.tt hb11 ?_; (conv => whnf)
              obtain rfl := sm e
              repeat' first | exact rfl | exact trivial | refine ⟨?_, ?_⟩
          · replace e := ifnb hb11 e; (conv => whnf)
            refine brK.ff hb11 ?_; (conv => whnf)
            refine brK.ff hb11 ?_; (conv => whnf)
            refine brK.ff hb11 ?_; (conv => whnf)
            obtain rfl := sm e
            repeat' first | exact rfl | exact trivial | refine ⟨?_, ?_⟩
        · replace e := ifnb hb9 e; (conv => whnf)
          refine brK.ff hb9 ?_; (conv => whnf)
          refine brK.ff hb9 ?_; (conv => whnf)
          refine brK.ff hb9 ?_; (conv => whnf)
          obtain rfl := sm e
          repeat' first | exact rfl | exact trivial | refine ⟨?_, ?_⟩
      · replace e := ifn h7 e; (conv => whnf)
        refine ⟨⟨fun h13 => ?_, fun h13 => ?_⟩⟩
        · replace e := ifp h13 e; (conv => whnf)
          refine ⟨⟨fun h14 => ?_, fun h14 => ?_⟩⟩
          · replace e := ifp h14 e; (conv => whnf)
            obtain rfl := sm e
            repeat' first | exact rfl | exact trivial | refine ⟨?_, ?_⟩
          · replace e := ifn h14 e; (conv => whnf)
            obtain ⟨v15, qv15, e⟩ := bnd e
            refine said_pure (P_sequentref02_none qv15) rfl ?_; (conv => whnf)
            refine brK.nsplit (fun hb16 => ?_) (fun hb16 => ?_)
            · replace e := ifpb hb16 e; (conv => whnf)
              refine brK.ntt hb16 ?_; (conv => whnf)
              refine brK.ntt hb16 ?_; (conv => whnf)
              refine brK.ntt hb16 ?_; (conv => whnf)
              refine ⟨⟨fun h17 => ?_, fun h17 => ?_⟩⟩
              · replace e := ifp (by first | exact h17 | simpa [Tm.Ds_all, Ty.Ds_all, Tm.D, Ty.D, listAll] using h17) e; (conv => whnf)
                refine brK.ntt hb16 ?_; (conv => whnf)
                obtain rfl := sm e
                repeat' first | exact rfl | exact trivial | refine ⟨?_, ?_⟩
              · replace e := ifn (by first | exact h17 | simpa [Tm.Ds_all, Ty.Ds_all, Tm.D, Ty.D, listAll] using h17) e; (conv => whnf)
                refine brK.ntt hb16 ?_; (conv => whnf)
                refine ⟨⟨fun h18 => ?_, fun h18 => ?_⟩⟩
                · replace e := ifp h18 e; (conv => whnf)
                  obtain rfl := sm e
                  repeat' first | exact rfl | exact trivial | refine ⟨?_, ?_⟩
                · replace e := ifn h18 e; (conv => whnf)
                  refine ⟨⟨fun h19 => ?_, fun h19 => ?_⟩⟩
                  · replace e := ifp (by first | exact h19 | simpa [Tm.Ds_all, Ty.Ds_all, Tm.D, Ty.D, listAll] using h19) e; (conv => whnf)
                    obtain rfl := sm e
                    repeat' first | exact rfl | exact trivial | refine ⟨?_, ?_⟩
                  · replace e := ifn (by first | exact h19 | simpa [Tm.Ds_all, Ty.Ds_all, Tm.D, Ty.D, listAll] using h19) e; (conv => whnf)
                    obtain ⟨v20, qv20, e⟩ := bnd e
                    obtain ⟨qv20k, qv20a, qv20b⟩ := geti_some qv20
                    refine ⟨qv20k, _, qv20a, Ty.Ds_get qv20b, ?_⟩; (conv => whnf)
                    refine ⟨Ty.Ds_fit _ rfl rfl, ?_⟩; (conv => whnf)
                    obtain rfl := sm e
                    repeat' first | exact rfl | exact trivial | refine ⟨?_, ?_⟩
            · replace e := ifnb hb16 e; (conv => whnf)
              refine brK.nff hb16 ?_; (conv => whnf)
              refine brK.nff hb16 ?_; (conv => whnf)
              refine brK.nff hb16 ?_; (conv => whnf)
              refine brK.nff hb16 ?_; (conv => whnf)
              obtain rfl := sm e
              repeat' first | exact rfl | exact trivial | refine ⟨?_, ?_⟩
        · replace e := ifn h13 e; (conv => whnf)
          refine ⟨⟨fun h21 => ?_, fun h21 => ?_⟩⟩
          · replace e := ifp h21 e; (conv => whnf)
            refine ⟨⟨fun h22 => ?_, fun h22 => ?_⟩⟩
            · replace e := ifp h22 e; (conv => whnf)
              obtain rfl := sm e
              repeat' first | exact rfl | exact trivial | refine ⟨?_, ?_⟩
            · replace e := ifn h22 e; (conv => whnf)
              obtain ⟨v23, qv23, e⟩ := bnd e
              refine said_pure (P_sequentref02_none qv23) rfl ?_; (conv => whnf)
              refine brK.nsplit (fun hb24 => ?_) (fun hb24 => ?_)
              · replace e := ifpb hb24 e; (conv => whnf)
                refine brK.ntt hb24 ?_; (conv => whnf)
                refine brK.ntt hb24 ?_; (conv => whnf)
                refine ⟨⟨fun h25 => ?_, fun h25 => ?_⟩⟩
                · replace e := ifp h25 e; (conv => whnf)
                  refine brK.ntt hb24 ?_; (conv => whnf)
                  obtain rfl := sm e
                  repeat' first | exact rfl | exact trivial | refine ⟨?_, ?_⟩
                · replace e := ifn h25 e; (conv => whnf)
                  refine brK.ntt hb24 ?_; (conv => whnf)
                  refine ⟨⟨fun h26 => ?_, fun h26 => ?_⟩⟩
                  · replace e := ifp (by first | exact h26 | simpa [Tm.Ds_all, Ty.Ds_all, Tm.D, Ty.D, listAll] using h26) e; (conv => whnf)
                    obtain rfl := sm e
                    repeat' first | exact rfl | exact trivial | refine ⟨?_, ?_⟩
                  · replace e := ifn (by first | exact h26 | simpa [Tm.Ds_all, Ty.Ds_all, Tm.D, Ty.D, listAll] using h26) e; (conv => whnf)
                    obtain ⟨v27, qv27, e⟩ := bnd e
                    obtain ⟨qv27k, qv27a, qv27b⟩ := geti_some qv27
                    refine ⟨qv27k, _, qv27a, Tm.Ds_get qv27b, ?_⟩; (conv => whnf)
                    refine ⟨Tm.Ds_fit _ rfl rfl, ?_⟩; (conv => whnf)
                    obtain ⟨v28, qv28, e⟩ := bnd e
                    refine said_pure (ih_sequentref02_Formed _ _ qv28 _ _ rfl) rfl ?_; (conv => whnf)
                    obtain ⟨v29, qv29, e⟩ := bnd e
                    obtain ⟨qv29k, qv29a, qv29b⟩ := geti_some qv29
                    refine ⟨qv29k, _, qv29a, Tm.Ds_get qv29b, ?_⟩; (conv => whnf)
                    refine ⟨Tm.Ds_fit _ rfl rfl, ?_⟩; (conv => whnf)
                    obtain ⟨v30, qv30, e⟩ := bnd e
                    refine said_pure (ih_sequentref02_Formed _ _ qv30 _ _ rfl) rfl ?_; (conv => whnf)
                    refine draw_rule T_ok mixed sequentref02_Formed_pl14 (by decide +kernel) ?_; (conv => whnf)
                    refine brK.nsplit (fun hb31 => ?_) (fun hb31 => ?_)
                    · replace e := ifpb hb31 e; (conv => whnf)
                      refine brK.ntt hb31 ?_; (conv => whnf)
                      refine brK.ntt hb31 ?_; (conv => whnf)
                      refine brK.nsplit (fun hb32 => ?_) (fun hb32 => ?_)
                      · replace e := ifpb hb32 e; (conv => whnf)
                        refine brK.ntt hb32 ?_; (conv => whnf)
                        refine brK.ntt hb32 ?_; (conv => whnf)
                        refine brK.split (fun hb33 => ?_) (fun hb33 => ?_)
                        · replace e := ifpb hb33 e; (conv => whnf)
                          refine brK.tt hb33 ?_; (conv => whnf)
                          refine brK.tt hb33 ?_; (conv => whnf)
                          refine brK.tt hb33 ?_; (conv => whnf)
                          obtain rfl := sm e
                          repeat' first | exact rfl | exact trivial | refine ⟨?_, ?_⟩
                        · replace e := ifnb hb33 e; (conv => whnf)
                          refine brK.ff hb33 ?_; (conv => whnf)
                          refine brK.ff hb33 ?_; (conv => whnf)
                          refine ⟨⟨fun h34 => ?_, fun h34 => ?_⟩⟩
                          · replace e := ifp h34 e; (conv => whnf)
                            refine brK.ff hb33 ?_; (conv => whnf)
                            obtain rfl := sm e
                            repeat' first | exact rfl | exact trivial | refine ⟨?_, ?_⟩
                          · replace e := ifn h34 e; (conv => whnf)
                            refine brK.ff hb33 ?_; (conv => whnf)
                            refine ⟨⟨fun h35 => ?_, fun h35 => ?_⟩⟩
                            · replace e := ifp (by first | exact h35 | simpa [Tm.Ds_all, Ty.Ds_all, Tm.D, Ty.D, listAll] using h35) e; (conv => whnf)
                              obtain rfl := sm e
                              repeat' first | exact rfl | exact trivial | refine ⟨?_, ?_⟩
                            · replace e := ifn (by first | exact h35 | simpa [Tm.Ds_all, Ty.Ds_all, Tm.D, Ty.D, listAll] using h35) e; (conv => whnf)
                              obtain ⟨v36, qv36, e⟩ := bnd e
                              obtain ⟨qv36k, qv36a, qv36b⟩ := geti_some qv36
                              refine ⟨qv36k, _, qv36a, Ty.Ds_get qv36b, ?_⟩; (conv => whnf)
                              refine ⟨Ty.Ds_fit _ rfl rfl, ?_⟩; (conv => whnf)
                              obtain ⟨v37, qv37, e⟩ := bnd e
                              refine said_pure (P_sequentref01_Same qv37) rfl ⟨rfl, ?_⟩; (conv => whnf)
                              refine brK.nsplit (fun hb38 => ?_) (fun hb38 => ?_)
                              · replace e := ifpb hb38 e; (conv => whnf)
                                obtain ⟨v39, qv39, e⟩ := bnd e
                                obtain ⟨qv39k, qv39a, qv39b⟩ := geti_some qv39
                                refine ⟨qv39k, _, qv39a, Ty.Ds_get qv39b, ?_⟩; (conv => whnf)
                                refine ⟨Ty.Ds_fit _ rfl rfl, ?_⟩; (conv => whnf)
                                obtain rfl := sm e
                                repeat' first | exact rfl | exact trivial | refine ⟨?_, ?_⟩
                              · replace e := ifnb hb38 e; (conv => whnf)
                                obtain rfl := sm e
                                repeat' first | exact rfl | exact trivial | refine ⟨?_, ?_⟩
                      · replace e := ifnb hb32 e; (conv => whnf)
                        refine brK.nff hb32 ?_; (conv => whnf)
                        refine brK.nff hb32 ?_; (conv => whnf)
                        obtain rfl := sm e
                        repeat' first | exact rfl | exact trivial | refine ⟨?_, ?_⟩
                    · replace e := ifnb hb31 e; (conv => whnf)
                      refine brK.nff hb31 ?_; (conv => whnf)
                      refine brK.nff hb31 ?_; (conv => whnf)
                      obtain rfl := sm e
                      repeat' first | exact rfl | exact trivial | refine ⟨?_, ?_⟩
              · replace e := ifnb hb24 e; (conv => whnf)
                refine brK.nff hb24 ?_; (conv => whnf)
                refine brK.nff hb24 ?_; (conv => whnf)
                refine brK.nff hb24 ?_; (conv => whnf)
                obtain rfl := sm e
                repeat' first | exact rfl | exact trivial | refine ⟨?_, ?_⟩
          · replace e := ifn h21 e; (conv => whnf)
            refine ⟨⟨fun h40 => ?_, fun h40 => ?_⟩⟩
            · replace e := ifp h40 e; (conv => whnf)
              obtain ⟨v41, qv41, e⟩ := bnd e
              refine said_pure (P_sequentref02_Name qv41) rfl ?_; (conv => whnf)
              refine brK.nsplit (fun hb42 => ?_) (fun hb42 => ?_)
              · replace e := ifpb hb42 e; (conv => whnf)
                refine brK.ntt hb42 ?_; (conv => whnf)
                refine brK.ntt hb42 ?_; (conv => whnf)
                obtain ⟨v43, qv43, e⟩ := bnd e
                refine said_pure (P_sequentref01_Valid qv43) rfl ?_; (conv => whnf)
                refine brK.ntt hb42 ?_; (conv => whnf)
                refine brK.ntt hb42 ?_; (conv => whnf)
                refine brK.nsplit (fun hb44 => ?_) (fun hb44 => ?_)
                · replace e := ifpb hb44 e; (conv => whnf)
                  refine brK.ntt hb44 ?_; (conv => whnf)
                  refine brK.ntt hb44 ?_; (conv => whnf)
                  refine ⟨⟨fun h45 => ?_, fun h45 => ?_⟩⟩
                  · replace e := ifp h45 e; (conv => whnf)
                    refine brK.ntt hb44 ?_; (conv => whnf)
                    obtain rfl := sm e
                    repeat' first | exact rfl | exact trivial | refine ⟨?_, ?_⟩
                  · replace e := ifn h45 e; (conv => whnf)
                    refine brK.ntt hb44 ?_; (conv => whnf)
                    refine ⟨⟨fun h46 => ?_, fun h46 => ?_⟩⟩
                    · replace e := ifp (by first | exact h46 | simpa [Tm.Ds_all, Ty.Ds_all, Tm.D, Ty.D, listAll] using h46) e; (conv => whnf)
                      obtain rfl := sm e
                      repeat' first | exact rfl | exact trivial | refine ⟨?_, ?_⟩
                    · replace e := ifn (by first | exact h46 | simpa [Tm.Ds_all, Ty.Ds_all, Tm.D, Ty.D, listAll] using h46) e; (conv => whnf)
                      refine draw_rule T_ok mixed sequentref02_Formed_pl20 (by decide +kernel) ?_; (conv => whnf)
                      obtain ⟨v47, qv47, e⟩ := bnd e
                      obtain ⟨qv47k, qv47a, qv47b⟩ := geti_some qv47
                      refine ⟨qv47k, _, qv47a, Tm.Ds_get qv47b, ?_⟩; (conv => whnf)
                      refine ⟨Tm.Ds_fit _ rfl rfl, ?_⟩; (conv => whnf)
                      refine ⟨⟨⟨rfl, rfl⟩, trivial⟩, ?_⟩; (conv => whnf)
                      obtain ⟨v48, qv48, e⟩ := bnd e
                      obtain ⟨v49, qv49, e⟩ := bnd e
                      refine ⟨?_, ?_⟩
                      · (conv => whnf)
                        obtain ⟨qv48l, qv48e⟩ := app_some qv48
                        refine ⟨(by first | exact qv48l | simpa [Tm.Ds_all, Ty.Ds_all, Tm.D, Ty.D, listAll] using qv48l), rfl, fun hz => ?_, fun hz => ?_⟩
                        · have hyv48 : a1 = [] := by simpa [Ty.Ds_map, List.map_eq_nil_iff, Tm.Ds_all, Ty.Ds_all, Tm.D, Ty.D, listAll] using hz
                          have hzv48 : v48 = [a0.ty] := by rw [qv48e, hyv48]; simp
                          (conv => whnf)
                          refine ⟨?_, ?_⟩
                          · (conv => whnf)
                            first | (refine said_pure (ih_sequentref02_Formed _ _ qv49 _ _ rfl) rfl ⟨rfl, ?_⟩) | (refine said_pure2 (ih_sequentref02_Formed _ _ qv49 _ _ rfl) rfl (by simp [Tm.Ds_all, Ty.Ds_all, Tm.D, Ty.D, listAll, hzv48] <;> (repeat' first | rfl | apply And.intro)) ⟨rfl, ?_⟩)
                            (conv => whnf)
                            refine Runs.weak (P_sequentref02_Formed_j0 e).2 ?_
                            repeat' first | exact wk.of_eq rfl | exact wk.pure rfl | exact wk.un _ | exact rfl | exact trivial | refine ⟨?_, ?_⟩ | (refine wk.of_eq ?_; (conv => lhs; whnf); (simp [Tm.Ds_all, Ty.Ds_all, Tm.D, Ty.D, listAll, hzv48] <;> (repeat' first | rfl | apply And.intro)); done) | (refine wk.pure ?_; (conv => lhs; whnf); (simp [Tm.Ds_all, Ty.Ds_all, Tm.D, Ty.D, listAll, hzv48] <;> (repeat' first | rfl | apply And.intro)); done) | ((simp [Tm.Ds_all, Ty.Ds_all, Tm.D, Ty.D, listAll, hzv48] <;> (repeat' first | rfl | apply And.intro)); done)
                          · (conv => whnf)
                            first | (refine said_pure (ih_sequentref02_Formed _ _ qv49 _ _ rfl) rfl ⟨rfl, ?_⟩) | (refine said_pure2 (ih_sequentref02_Formed _ _ qv49 _ _ rfl) rfl (by simp [Tm.Ds_all, Ty.Ds_all, Tm.D, Ty.D, listAll, hzv48] <;> (repeat' first | rfl | apply And.intro)) ⟨rfl, ?_⟩)
                            (conv => whnf)
                            refine Runs.weak (P_sequentref02_Formed_j0 e).2 ?_
                            repeat' first | exact wk.of_eq rfl | exact wk.pure rfl | exact wk.un _ | exact rfl | exact trivial | refine ⟨?_, ?_⟩ | (refine wk.of_eq ?_; (conv => lhs; whnf); (simp [Tm.Ds_all, Ty.Ds_all, Tm.D, Ty.D, listAll, hzv48] <;> (repeat' first | rfl | apply And.intro)); done) | (refine wk.pure ?_; (conv => lhs; whnf); (simp [Tm.Ds_all, Ty.Ds_all, Tm.D, Ty.D, listAll, hzv48] <;> (repeat' first | rfl | apply And.intro)); done) | ((simp [Tm.Ds_all, Ty.Ds_all, Tm.D, Ty.D, listAll, hzv48] <;> (repeat' first | rfl | apply And.intro)); done)
                        · (conv => whnf)
                          refine ⟨?_, ?_⟩
                          · (conv => whnf)
                            first | (refine said_pure (ih_sequentref02_Formed _ _ qv49 _ _ rfl) rfl ⟨rfl, ?_⟩) | (refine said_pure2 (ih_sequentref02_Formed _ _ qv49 _ _ rfl) rfl (by simp [Tm.Ds_all, Ty.Ds_all, Tm.D, Ty.D, listAll, qv48e] <;> (repeat' first | rfl | apply And.intro)) ⟨rfl, ?_⟩)
                            (conv => whnf)
                            refine Runs.weak ((P_sequentref02_Formed_j0 e).1 ?_) ?_
                            repeat' first | exact wk.of_eq rfl | exact wk.pure rfl | exact wk.un _ | exact rfl | exact trivial | refine ⟨?_, ?_⟩ | (refine wk.of_eq ?_; (conv => lhs; whnf); (simp [Tm.Ds_all, Ty.Ds_all, Tm.D, Ty.D, listAll, qv48e] <;> (repeat' first | rfl | apply And.intro)); done) | (refine wk.pure ?_; (conv => lhs; whnf); (simp [Tm.Ds_all, Ty.Ds_all, Tm.D, Ty.D, listAll, qv48e] <;> (repeat' first | rfl | apply And.intro)); done) | ((simp [Tm.Ds_all, Ty.Ds_all, Tm.D, Ty.D, listAll, qv48e] <;> (repeat' first | rfl | apply And.intro)); done)
                          · (conv => whnf)
                            first | (refine said_pure (ih_sequentref02_Formed _ _ qv49 _ _ rfl) rfl ⟨rfl, ?_⟩) | (refine said_pure2 (ih_sequentref02_Formed _ _ qv49 _ _ rfl) rfl (by simp [Tm.Ds_all, Ty.Ds_all, Tm.D, Ty.D, listAll, qv48e] <;> (repeat' first | rfl | apply And.intro)) ⟨rfl, ?_⟩)
                            (conv => whnf)
                            refine Runs.weak ((P_sequentref02_Formed_j0 e).1 ?_) ?_
                            repeat' first | exact wk.of_eq rfl | exact wk.pure rfl | exact wk.un _ | exact rfl | exact trivial | refine ⟨?_, ?_⟩ | (refine wk.of_eq ?_; (conv => lhs; whnf); (simp [Tm.Ds_all, Ty.Ds_all, Tm.D, Ty.D, listAll, qv48e] <;> (repeat' first | rfl | apply And.intro)); done) | (refine wk.pure ?_; (conv => lhs; whnf); (simp [Tm.Ds_all, Ty.Ds_all, Tm.D, Ty.D, listAll, qv48e] <;> (repeat' first | rfl | apply And.intro)); done) | ((simp [Tm.Ds_all, Ty.Ds_all, Tm.D, Ty.D, listAll, qv48e] <;> (repeat' first | rfl | apply And.intro)); done)
                      · (conv => whnf)
                        obtain ⟨qv48l, qv48e⟩ := app_some qv48
                        refine ⟨(by first | exact qv48l | simpa [Tm.Ds_all, Ty.Ds_all, Tm.D, Ty.D, listAll] using qv48l), rfl, fun hz => ?_, fun hz => ?_⟩
                        · have hyv48 : a1 = [] := by simpa [Ty.Ds_map, List.map_eq_nil_iff, Tm.Ds_all, Ty.Ds_all, Tm.D, Ty.D, listAll] using hz
                          have hzv48 : v48 = [a0.ty] := by rw [qv48e, hyv48]; simp
                          (conv => whnf)
                          first | (refine said_pure (ih_sequentref02_Formed _ _ qv49 _ _ rfl) rfl ⟨rfl, ?_⟩) | (refine said_pure2 (ih_sequentref02_Formed _ _ qv49 _ _ rfl) rfl (by simp [Tm.Ds_all, Ty.Ds_all, Tm.D, Ty.D, listAll, hzv48] <;> (repeat' first | rfl | apply And.intro)) ⟨rfl, ?_⟩)
                          (conv => whnf)
                          refine Runs.weak (P_sequentref02_Formed_j0 e).2 ?_
                          repeat' first | exact wk.of_eq rfl | exact wk.pure rfl | exact wk.un _ | exact rfl | exact trivial | refine ⟨?_, ?_⟩ | (refine wk.of_eq ?_; (conv => lhs; whnf); (simp [Tm.Ds_all, Ty.Ds_all, Tm.D, Ty.D, listAll, hzv48] <;> (repeat' first | rfl | apply And.intro)); done) | (refine wk.pure ?_; (conv => lhs; whnf); (simp [Tm.Ds_all, Ty.Ds_all, Tm.D, Ty.D, listAll, hzv48] <;> (repeat' first | rfl | apply And.intro)); done) | ((simp [Tm.Ds_all, Ty.Ds_all, Tm.D, Ty.D, listAll, hzv48] <;> (repeat' first | rfl | apply And.intro)); done)
                        · (conv => whnf)
                          first | (refine said_pure (ih_sequentref02_Formed _ _ qv49 _ _ rfl) rfl ⟨rfl, ?_⟩) | (refine said_pure2 (ih_sequentref02_Formed _ _ qv49 _ _ rfl) rfl (by simp [Tm.Ds_all, Ty.Ds_all, Tm.D, Ty.D, listAll, qv48e] <;> (repeat' first | rfl | apply And.intro)) ⟨rfl, ?_⟩)
                          (conv => whnf)
                          refine Runs.weak (P_sequentref02_Formed_j0 e).2 ?_
                          repeat' first | exact wk.of_eq rfl | exact wk.pure rfl | exact wk.un _ | exact rfl | exact trivial | refine ⟨?_, ?_⟩ | (refine wk.of_eq ?_; (conv => lhs; whnf); (simp [Tm.Ds_all, Ty.Ds_all, Tm.D, Ty.D, listAll, qv48e] <;> (repeat' first | rfl | apply And.intro)); done) | (refine wk.pure ?_; (conv => lhs; whnf); (simp [Tm.Ds_all, Ty.Ds_all, Tm.D, Ty.D, listAll, qv48e] <;> (repeat' first | rfl | apply And.intro)); done) | ((simp [Tm.Ds_all, Ty.Ds_all, Tm.D, Ty.D, listAll, qv48e] <;> (repeat' first | rfl | apply And.intro)); done)
                · replace e := ifnb hb44 e; (conv => whnf)
                  refine brK.nff hb44 ?_; (conv => whnf)
                  refine brK.nff hb44 ?_; (conv => whnf)
                  refine brK.nff hb44 ?_; (conv => whnf)
                  obtain rfl := sm e
                  repeat' first | exact rfl | exact trivial | refine ⟨?_, ?_⟩
              · replace e := ifnb hb42 e; (conv => whnf)
                refine brK.nff hb42 ?_; (conv => whnf)
                refine brK.nff hb42 ?_; (conv => whnf)
                refine brK.nff hb42 ?_; (conv => whnf)
                refine brK.nff hb42 ?_; (conv => whnf)
                obtain rfl := sm e
                repeat' first | exact rfl | exact trivial | refine ⟨?_, ?_⟩
            · replace e := ifn h40 e; (conv => whnf)
              obtain rfl := sm e
              repeat' first | exact rfl | exact trivial | refine ⟨?_, ?_⟩
theorem P_sequentref02_Formed {a0 : Tm} {a1 : (List Ty)} {r : (Ty × Bool)} (e : sequentref02_Formed a0 a1 = some r) : Pure Try.prog 137 [(Tm.D a0), (.slice 3 (Ty.Ds a1))] (.tuple [(Ty.D r.1), (.bool r.2)]) := G_sequentref02_Formed _ _ e _ _ rfl

theorem P_sequentref02_Check {a0 : Tm} {r : Int} (e : sequentref02_Check a0 = some r) : Pure Try.prog 97 [(Tm.D a0)] (.int .i64 r) := by
  unfold sequentref02_Check at e
  refine pure_of_awp (js := []) T_ok Try.func97 rfl (by decide +kernel) rfl ?_; (conv => whnf)
  obtain ⟨v1, qv1, e⟩ := bnd e
  refine said_pure (P_sequentref02_Small qv1) rfl ?_; (conv => whnf)
  refine brK.nsplit (fun hb2 => ?_) (fun hb2 => ?_)
  · replace e := ifpb hb2 e; (conv => whnf)
    obtain ⟨v3, qv3, e⟩ := bnd e
    refine said_pure (P_sequentref02_Formed qv3) rfl ?_; (conv => whnf)
    refine brK.nsplit (fun hb4 => ?_) (fun hb4 => ?_)
    · replace e := ifpb hb4 e; (conv => whnf)
      obtain rfl := sm e
      repeat' first | exact rfl | exact trivial | refine ⟨?_, ?_⟩
    · replace e := ifnb hb4 e; (conv => whnf)
      obtain rfl := sm e
      repeat' first | exact rfl | exact trivial | refine ⟨?_, ?_⟩
  · replace e := ifnb hb2 e; (conv => whnf)
    obtain rfl := sm e
    repeat' first | exact rfl | exact trivial | refine ⟨?_, ?_⟩

def M_sequentref02_Checks_l0 (p : (List Tm)) (r : Int) : Prop := ∀ (rest0 : (List Tm)), rest0 = p → ∀ (a0 : (List Tm)) (k0 : Nat) (hd0 : rest0 = a0.drop k0), RunsL Try.prog Try.f66.ntmps [] (codeAt [1, 0, 1, 0, 0] (bodyOf Try.f66)) (qAt T Try.prog Try.f66.ntmps [] [] [1, 0, 1, 0] (bodyOf Try.f66) (EndPure T Try.f66.results.toList (.int .i64 r))) [(0, .d (.slice 7 (Tm.Ds a0))), (3, .d (.int .i64 (k0 : Int)))] [[]]
theorem G_sequentref02_Checks_l0 : (∀ p r, sequentref02_Checks_l0' p = some r → M_sequentref02_Checks_l0 p r) := by
  refine sequentref02_Checks_l0'.partial_correctness M_sequentref02_Checks_l0 ?_
  · intro f_sequentref02_Checks_l0 ih_sequentref02_Checks_l0 p r e rest0 hp
    subst hp
    intro a0 k0 hd0
    refine RunsL.len_tmp 0 rfl fun hlenk0 => ?_
    refine RunsL.of_awp (js := []) T_ok ?_; (conv => whnf)
    have hls := Tm.Ds_len a0
    cases rest0 with
    | nil =>
      have hk := drop_nil hd0
      refine ⟨⟨fun h => absurd h (by omega), fun _ => ?_⟩⟩; (conv => whnf)
      obtain rfl := sm e
      repeat' first | exact rfl | exact trivial | refine ⟨?_, ?_⟩
    | cons v1 rest0 =>
      obtain ⟨hxv1, hd0, hltv1⟩ := drop_head hd0
      refine ⟨⟨fun _ => ?_, fun h => absurd (by omega) h⟩⟩; (conv => whnf)
      refine ⟨k0, _, rfl, Tm.Ds_get hxv1, ?_⟩; (conv => whnf)
      refine ⟨Tm.Ds_fit _ rfl rfl, ?_⟩; (conv => whnf)
      obtain ⟨v2, qv2, e⟩ := bnd e
      refine said_pure (P_sequentref02_Check qv2) rfl ?_; (conv => whnf)
      refine ⟨⟨fun h3 => ?_, fun h3 => ?_⟩⟩
      · replace e := ifp h3 e; (conv => whnf)
        obtain rfl := sm e
        repeat' first | exact rfl | exact trivial | refine ⟨?_, ?_⟩
      · replace e := ifn h3 e; (conv => whnf)
        refine ⟨((k0 + 1 : Nat) : Int), wrap64e (by omega) (by omega) (by omega), ?_⟩; (conv => whnf)
        refine (RunsL.weak ((ih_sequentref02_Checks_l0 _ _ e _ rfl) a0 (k0 + 1) hd0) ?_)
        repeat' first | exact wk.of_eq rfl | exact wk.pure rfl | exact wk.un _ | exact rfl | exact trivial | refine ⟨?_, ?_⟩ | (refine wk.of_eq ?_; (conv => lhs; whnf); (simp [Tm.Ds_all, Tm.D, listAll] <;> (repeat' first | rfl | apply And.intro)); done) | (refine wk.pure ?_; (conv => lhs; whnf); (simp [Tm.Ds_all, Tm.D, listAll] <;> (repeat' first | rfl | apply And.intro)); done) | ((simp [Tm.Ds_all, Tm.D, listAll] <;> (repeat' first | rfl | apply And.intro)); done)
theorem P_sequentref02_Checks_l0 {rest0 : (List Tm)} {r : Int} (e : sequentref02_Checks_l0 rest0 = some r) : ∀ (a0 : (List Tm)) (k0 : Nat) (hd0 : rest0 = a0.drop k0), RunsL Try.prog Try.f66.ntmps [] (codeAt [1, 0, 1, 0, 0] (bodyOf Try.f66)) (qAt T Try.prog Try.f66.ntmps [] [] [1, 0, 1, 0] (bodyOf Try.f66) (EndPure T Try.f66.results.toList (.int .i64 r))) [(0, .d (.slice 7 (Tm.Ds a0))), (3, .d (.int .i64 (k0 : Int)))] [[]] := G_sequentref02_Checks_l0 _ _ e _ rfl

theorem P_sequentref02_Checks {a0 : (List Tm)} {r : Int} (e : sequentref02_Checks a0 = some r) : Pure Try.prog 66 [(.slice 7 (Tm.Ds a0))] (.int .i64 r) := by
  unfold sequentref02_Checks at e
  refine pure_of_awp (js := []) T_ok Try.func66 rfl (by decide +kernel) rfl ?_; (conv => whnf)
  refine RunsL.runs (RunsL.weak ((P_sequentref02_Checks_l0 e) a0 0 (by simp)) ?_)
  repeat' first | exact wk.of_eq rfl | exact wk.pure rfl | exact wk.un _ | exact rfl | exact trivial | refine ⟨?_, ?_⟩ | (refine wk.of_eq ?_; (conv => lhs; whnf); (simp [Tm.Ds_all, Tm.D, listAll] <;> (repeat' first | rfl | apply And.intro)); done) | (refine wk.pure ?_; (conv => lhs; whnf); (simp [Tm.Ds_all, Tm.D, listAll] <;> (repeat' first | rfl | apply And.intro)); done) | ((simp [Tm.Ds_all, Tm.D, listAll] <;> (repeat' first | rfl | apply And.intro)); done)

theorem P_sequentref01_Bool {r : Ty} (e : sequentref01_Bool = some r) : Pure Try.prog 120 [] (Ty.D r) := by
  unfold sequentref01_Bool at e
  refine pure_of_awp (js := []) T_ok Try.func120 rfl (by decide +kernel) rfl ?_; (conv => whnf)
  obtain rfl := sm e
  repeat' first | exact rfl | exact trivial | refine ⟨?_, ?_⟩

theorem P_sequentref02_Type {a0 : Tm} {r : Ty} (e : sequentref02_Type a0 = some r) : Pure Try.prog 119 [(Tm.D a0)] (Ty.D r) := by
  unfold sequentref02_Type at e
  refine pure_of_awp (js := []) T_ok Try.func119 rfl (by decide +kernel) rfl ?_; (conv => whnf)
  obtain ⟨v1, qv1, e⟩ := bnd e
  refine said_pure (P_sequentref02_Formed qv1) rfl ?_; (conv => whnf)
  obtain ⟨v2, qv2, e⟩ := bnd e
  refine said_pure (P_sequentref01_Twin qv2) rfl ?_; (conv => whnf)
  obtain rfl := sm e
  repeat' first | exact rfl | exact trivial | refine ⟨?_, ?_⟩

theorem P_sequentref09_Formula {a0 : Tm} {r : Bool} (e : sequentref09_Formula a0 = some r) : Pure Try.prog 67 [(Tm.D a0)] (.bool r) := by
  unfold sequentref09_Formula at e
  refine pure_of_awp (js := []) T_ok Try.func67 rfl (by decide +kernel) rfl ?_; (conv => whnf)
  obtain ⟨v1, qv1, e⟩ := bnd e
  refine said_pure (P_sequentref02_Type qv1) rfl ?_; (conv => whnf)
  obtain ⟨v2, qv2, e⟩ := bnd e
  refine said_pure (P_sequentref01_Bool qv2) rfl ?_; (conv => whnf)
  obtain ⟨v3, qv3, e⟩ := bnd e
  refine said_pure (P_sequentref01_Same qv3) rfl ?_; (conv => whnf)
  obtain rfl := sm e
  repeat' first | exact rfl | exact trivial | refine ⟨?_, ?_⟩

theorem P_sequentref02_Done {a0 : Tm} {r : (Tm × Int)} (e : sequentref02_Done a0 = some r) : Pure Try.prog 70 [(Tm.D a0)] (.tuple [(Tm.D r.1), (.int .i64 r.2)]) := by
  unfold sequentref02_Done at e
  refine pure_of_awp (js := []) T_ok Try.func70 rfl (by decide +kernel) rfl ?_; (conv => whnf)
  obtain ⟨v1, qv1, e⟩ := bnd e
  refine said_pure (P_sequentref02_Check qv1) rfl ?_; (conv => whnf)
  refine ⟨⟨fun h2 => ?_, fun h2 => ?_⟩⟩
  · replace e := ifp h2 e; (conv => whnf)
    obtain rfl := sm e
    repeat' first | exact rfl | exact trivial | refine ⟨?_, ?_⟩
  · replace e := ifn h2 e; (conv => whnf)
    obtain ⟨v3, qv3, e⟩ := bnd e
    refine said_pure (P_sequentref02_Twin qv3) rfl ?_; (conv => whnf)
    obtain rfl := sm e
    repeat' first | exact rfl | exact trivial | refine ⟨?_, ?_⟩

theorem P_sequentref09_Make_j0 {c1_0_1 : Int} {c1_1_1 : ByteArray} {c1_2_1 : Bool} {c1_3_1 : ByteArray} {c1_4_1 : (List Ty)} {c1_5_1 : Int} {c1_6_1 : (List Tm)} {r : (Tm × Int)} (e : sequentref09_Make_j0 c1_0_1 c1_1_1 c1_2_1 c1_3_1 c1_4_1 c1_5_1 c1_6_1 = some r) : Runs Try.prog Try.f24.ntmps [] (codeAt [1, 1, 1, 1, 1, 1, 0] (bodyOf Try.f24)) (qAt T Try.prog Try.f24.ntmps [] [12] [1, 1, 1, 1, 1, 1, 0] (bodyOf Try.f24) (EndPure T Try.f24.results.toList (.tuple [(Tm.D r.1), (.int .i64 r.2)]))) [(4, .ptr 0 0 0), (8, .ptr 0 1 0)] [[.cells [.d (.int .u8 0), .d (.str ByteArray.empty), .d (.bool false), .d (.str ByteArray.empty), .nil 3, .d (.int .i64 0), .nil 7], .cells [.d (.int .u8 c1_0_1), .d (.str c1_1_1), .d (.bool c1_2_1), .d (.str c1_3_1), .d (.slice 3 (Ty.Ds c1_4_1)), .d (.int .i64 c1_5_1), .d (.slice 7 (Tm.Ds c1_6_1))]]] := by
  unfold sequentref09_Make_j0 at e
  refine Runs.enter T_ok ?_; (conv => whnf)
  obtain ⟨v12, qv12, e⟩ := bnd e
  refine said_pure (P_sequentref02_Done qv12) rfl ?_; (conv => whnf)
  obtain rfl := sm e
  repeat' first | exact rfl | exact trivial | refine ⟨?_, ?_⟩

theorem P_sequentref02_App {a0 : Tm} {a1 : Tm} {r : Tm} (e : sequentref02_App a0 a1 = some r) : Pure Try.prog 114 [(Tm.D a0), (Tm.D a1)] (Tm.D r) := by
  unfold sequentref02_App at e
  refine pure_of_awp (js := []) T_ok Try.func114 rfl (by decide +kernel) rfl ?_; (conv => whnf)
  refine ⟨⟨⟨rfl, rfl⟩, ⟨⟨rfl, rfl⟩, trivial⟩⟩, ?_⟩; (conv => whnf)
  obtain rfl := sm e
  repeat' first | exact rfl | exact trivial | exact ⟨_, rfl, (by first | exact rfl | (simp [Tm.Ds_all, Ty.Ds_all, Tm.D, Ty.D, listAll] <;> (repeat' first | rfl | apply And.intro))), (by first | exact rfl | (simp [Tm.Ds_all, Ty.Ds_all, Tm.D, Ty.D, listAll] <;> (repeat' first | rfl | apply And.intro)))⟩ | refine ⟨?_, ?_⟩ | (simp [Tm.Ds_all, Ty.Ds_all, Tm.D, Ty.D, listAll] <;> (repeat' first | rfl | apply And.intro))

theorem P_sequentref09_Constant {a0 : ByteArray} {a1 : Ty} {r : Tm} (e : sequentref09_Constant a0 a1 = some r) : Pure Try.prog 112 [(.str a0), (Ty.D a1)] (Tm.D r) := by
  unfold sequentref09_Constant at e
  refine pure_of_awp (js := []) T_ok Try.func112 rfl (by decide +kernel) rfl ?_; (conv => whnf)
  obtain rfl := sm e
  repeat' first | exact rfl | exact trivial | refine ⟨?_, ?_⟩

theorem P_sequentref09_Not {a0 : Tm} {r : Tm} (e : sequentref09_Not a0 = some r) : Pure Try.prog 68 [(Tm.D a0)] (Tm.D r) := by
  unfold sequentref09_Not at e
  refine pure_of_awp (js := []) T_ok Try.func68 rfl (by decide +kernel) rfl ?_; (conv => whnf)
  refine draw_rule T_ok mixed sequentref09_Not_pl1 (by decide +kernel) ?_; (conv => whnf)
  obtain ⟨v1, qv1, e⟩ := bnd e
  refine said_pure (P_sequentref01_Bool qv1) rfl ⟨rfl, ?_⟩; (conv => whnf)
  obtain ⟨v2, qv2, e⟩ := bnd e
  refine said_pure (P_sequentref01_Bool qv2) rfl ⟨rfl, ?_⟩; (conv => whnf)
  obtain ⟨v3, qv3, e⟩ := bnd e
  refine said_pure (P_sequentref01_Fun qv3) rfl ⟨rfl, ?_⟩; (conv => whnf)
  obtain ⟨v4, qv4, e⟩ := bnd e
  refine said_pure (P_sequentref09_Constant qv4) rfl ⟨rfl, ?_⟩; (conv => whnf)
  obtain ⟨v5, qv5, e⟩ := bnd e
  refine said_pure (P_sequentref02_App qv5) rfl ⟨rfl, ?_⟩; (conv => whnf)
  obtain rfl := sm e
  repeat' first | exact rfl | exact trivial | refine ⟨?_, ?_⟩

theorem P_sequentref09_binary {r : Ty} (e : sequentref09_binary = some r) : Pure Try.prog 122 [] (Ty.D r) := by
  unfold sequentref09_binary at e
  refine pure_of_awp (js := []) T_ok Try.func122 rfl (by decide +kernel) rfl ?_; (conv => whnf)
  obtain ⟨v1, qv1, e⟩ := bnd e
  refine said_pure (P_sequentref01_Bool qv1) rfl ?_; (conv => whnf)
  refine draw_rule T_ok mixed sequentref09_binary_pl2 (by decide +kernel) ?_; (conv => whnf)
  obtain ⟨v2, qv2, e⟩ := bnd e
  refine said_pure (P_sequentref01_Fun qv2) rfl ⟨rfl, ?_⟩; (conv => whnf)
  obtain ⟨v3, qv3, e⟩ := bnd e
  refine said_pure (P_sequentref01_Fun qv3) rfl ⟨rfl, ?_⟩; (conv => whnf)
  obtain rfl := sm e
  repeat' first | exact rfl | exact trivial | refine ⟨?_, ?_⟩

theorem P_sequentref09_Two {a0 : ByteArray} {a1 : Tm} {a2 : Tm} {r : Tm} (e : sequentref09_Two a0 a1 a2 = some r) : Pure Try.prog 69 [(.str a0), (Tm.D a1), (Tm.D a2)] (Tm.D r) := by
  unfold sequentref09_Two at e
  refine pure_of_awp (js := []) T_ok Try.func69 rfl (by decide +kernel) rfl ?_; (conv => whnf)
  refine draw_rule T_ok mixed sequentref09_Two_pl1 (by decide +kernel) ?_; (conv => whnf)
  obtain ⟨v1, qv1, e⟩ := bnd e
  refine said_pure (P_sequentref09_binary qv1) rfl ⟨rfl, ?_⟩; (conv => whnf)
  obtain ⟨v2, qv2, e⟩ := bnd e
  refine said_pure (P_sequentref09_Constant qv2) rfl ⟨rfl, ?_⟩; (conv => whnf)
  obtain ⟨v3, qv3, e⟩ := bnd e
  refine said_pure (P_sequentref02_App qv3) rfl ⟨rfl, ?_⟩; (conv => whnf)
  obtain ⟨v4, qv4, e⟩ := bnd e
  refine said_pure (P_sequentref02_App qv4) rfl ⟨rfl, ?_⟩; (conv => whnf)
  obtain rfl := sm e
  repeat' first | exact rfl | exact trivial | refine ⟨?_, ?_⟩

def M_sequentref09_Make_l0 (p : ((List Tm) × ByteArray × (List Tm))) (r : (Tm × Int)) : Prop := ∀ (rest0 : (List Tm)) (a0 : ByteArray) (a1 : (List Tm)), (rest0, a0, a1) = p → ∀ (k0 : Nat) (hd0 : rest0 = a1.drop k0), RunsL Try.prog Try.f24.ntmps [] (codeAt [1, 1, 1, 0, 1, 0, 0] (bodyOf Try.f24)) (qAt T Try.prog Try.f24.ntmps [] [12] [1, 1, 1, 0, 1, 0] (bodyOf Try.f24) (EndPure T Try.f24.results.toList (.tuple [(Tm.D r.1), (.int .i64 r.2)]))) [(0, .d (.str a0)), (1, .d (.slice 7 (Tm.Ds a1))), (4, .ptr 0 0 0), (7, .d (.int .i64 (k0 : Int)))] [[.cells [.d (.int .u8 0), .d (.str ByteArray.empty), .d (.bool false), .d (.str ByteArray.empty), .nil 3, .d (.int .i64 0), .nil 7]]]
theorem G_sequentref09_Make_l0 : (∀ p r, sequentref09_Make_l0' p = some r → M_sequentref09_Make_l0 p r) := by
  refine sequentref09_Make_l0'.partial_correctness M_sequentref09_Make_l0 ?_
  · intro f_sequentref09_Make_l0 ih_sequentref09_Make_l0 p r e rest0 a0 a1 hp
    subst hp
    intro k0 hd0
    refine RunsL.len_tmp 1 rfl fun hlenk0 => ?_
    refine RunsL.of_awp (js := [12]) T_ok ?_; (conv => whnf)
    have hls := Tm.Ds_len a1
    cases rest0 with
    | nil =>
      have hk := drop_nil hd0
      refine ⟨⟨fun h => absurd h (by omega), fun _ => ?_⟩⟩; (conv => whnf)
      obtain ⟨v6, qv6, e⟩ := bnd e
      obtain ⟨qv6k, qv6a, qv6b⟩ := geti_some qv6
      refine ⟨qv6k, _, qv6a, Tm.Ds_get qv6b, ?_⟩; (conv => whnf)
      refine ⟨Tm.Ds_fit _ rfl rfl, ?_⟩; (conv => whnf)
      obtain ⟨v7, qv7, e⟩ := bnd e
      refine said_pure (P_sequentref09_Not qv7) rfl ?_; (conv => whnf)
      refine ⟨⟨fun h8 => ?_, fun h8 => ?_⟩⟩
      · replace e := ifp (by first | exact h8 | simpa [Tm.Ds_all, Ty.Ds_all, Tm.D, Ty.D, listAll] using h8) e; (conv => whnf)
        refine draw_rule T_ok mixed sequentref09_Make_pl11 (by decide +kernel) ?_; (conv => whnf)
        obtain ⟨v9, qv9, e⟩ := bnd e
        obtain ⟨qv9k, qv9a, qv9b⟩ := geti_some qv9
        refine ⟨qv9k, _, qv9a, Tm.Ds_get qv9b, ?_⟩; (conv => whnf)
        refine ⟨Tm.Ds_fit _ rfl rfl, ?_⟩; (conv => whnf)
        obtain ⟨v10, qv10, e⟩ := bnd e
        obtain ⟨qv10k, qv10a, qv10b⟩ := geti_some qv10
        refine ⟨qv10k, _, qv10a, Tm.Ds_get qv10b, ?_⟩; (conv => whnf)
        refine ⟨Tm.Ds_fit _ rfl rfl, ?_⟩; (conv => whnf)
        obtain ⟨v11, qv11, e⟩ := bnd e
        refine said_pure (P_sequentref09_Two qv11) rfl ⟨rfl, ?_⟩; (conv => whnf)
        refine Runs.weak (P_sequentref09_Make_j0 e) ?_
        repeat' first | exact wk.of_eq rfl | exact wk.pure rfl | exact wk.un _ | exact rfl | exact trivial | refine ⟨?_, ?_⟩ | (refine wk.of_eq ?_; (conv => lhs; whnf); (simp [Tm.Ds_all, Ty.Ds_all, Tm.D, Ty.D, listAll] <;> (repeat' first | rfl | apply And.intro)); done) | (refine wk.pure ?_; (conv => lhs; whnf); (simp [Tm.Ds_all, Ty.Ds_all, Tm.D, Ty.D, listAll] <;> (repeat' first | rfl | apply And.intro)); done) | ((simp [Tm.Ds_all, Ty.Ds_all, Tm.D, Ty.D, listAll] <;> (repeat' first | rfl | apply And.intro)); done)
      · replace e := ifn (by first | exact h8 | simpa [Tm.Ds_all, Ty.Ds_all, Tm.D, Ty.D, listAll] using h8) e; (conv => whnf)
        refine Runs.weak (P_sequentref09_Make_j0 e) ?_
        repeat' first | exact wk.of_eq rfl | exact wk.pure rfl | exact wk.un _ | exact rfl | exact trivial | refine ⟨?_, ?_⟩ | (refine wk.of_eq ?_; (conv => lhs; whnf); (simp [Tm.Ds_all, Ty.Ds_all, Tm.D, Ty.D, listAll] <;> (repeat' first | rfl | apply And.intro)); done) | (refine wk.pure ?_; (conv => lhs; whnf); (simp [Tm.Ds_all, Ty.Ds_all, Tm.D, Ty.D, listAll] <;> (repeat' first | rfl | apply And.intro)); done) | ((simp [Tm.Ds_all, Ty.Ds_all, Tm.D, Ty.D, listAll] <;> (repeat' first | rfl | apply And.intro)); done)
    | cons v3 rest0 =>
      obtain ⟨hxv3, hd0, hltv3⟩ := drop_head hd0
      refine ⟨⟨fun _ => ?_, fun h => absurd (by omega) h⟩⟩; (conv => whnf)
      refine ⟨k0, _, rfl, Tm.Ds_get hxv3, ?_⟩; (conv => whnf)
      refine ⟨Tm.Ds_fit _ rfl rfl, ?_⟩; (conv => whnf)
      obtain ⟨v4, qv4, e⟩ := bnd e
      refine said_pure (P_sequentref09_Formula qv4) rfl ?_; (conv => whnf)
      refine brK.nsplit (fun hb5 => ?_) (fun hb5 => ?_)
      · replace e := ifpb hb5 e; (conv => whnf)
        refine ⟨((k0 + 1 : Nat) : Int), wrap64e (by omega) (by omega) (by omega), ?_⟩; (conv => whnf)
        refine (RunsL.weak ((ih_sequentref09_Make_l0 _ _ e _ _ _ rfl) (k0 + 1) hd0) ?_)
        repeat' first | exact wk.of_eq rfl | exact wk.pure rfl | exact wk.un _ | exact rfl | exact trivial | refine ⟨?_, ?_⟩ | (refine wk.of_eq ?_; (conv => lhs; whnf); (simp [Tm.Ds_all, Ty.Ds_all, Tm.D, Ty.D, listAll] <;> (repeat' first | rfl | apply And.intro)); done) | (refine wk.pure ?_; (conv => lhs; whnf); (simp [Tm.Ds_all, Ty.Ds_all, Tm.D, Ty.D, listAll] <;> (repeat' first | rfl | apply And.intro)); done) | ((simp [Tm.Ds_all, Ty.Ds_all, Tm.D, Ty.D, listAll] <;> (repeat' first | rfl | apply And.intro)); done)
      · replace e := ifnb hb5 e; (conv => whnf)
        obtain rfl := sm e
        repeat' first | exact rfl | exact trivial | refine ⟨?_, ?_⟩
theorem P_sequentref09_Make_l0 {rest0 : (List Tm)} {a0 : ByteArray} {a1 : (List Tm)} {r : (Tm × Int)} (e : sequentref09_Make_l0 rest0 a0 a1 = some r) : ∀ (k0 : Nat) (hd0 : rest0 = a1.drop k0), RunsL Try.prog Try.f24.ntmps [] (codeAt [1, 1, 1, 0, 1, 0, 0] (bodyOf Try.f24)) (qAt T Try.prog Try.f24.ntmps [] [12] [1, 1, 1, 0, 1, 0] (bodyOf Try.f24) (EndPure T Try.f24.results.toList (.tuple [(Tm.D r.1), (.int .i64 r.2)]))) [(0, .d (.str a0)), (1, .d (.slice 7 (Tm.Ds a1))), (4, .ptr 0 0 0), (7, .d (.int .i64 (k0 : Int)))] [[.cells [.d (.int .u8 0), .d (.str ByteArray.empty), .d (.bool false), .d (.str ByteArray.empty), .nil 3, .d (.int .i64 0), .nil 7]]] := G_sequentref09_Make_l0 _ _ e _ _ _ rfl

theorem P_sequentref09_Make {a0 : ByteArray} {a1 : (List Tm)} {r : (Tm × Int)} (e : sequentref09_Make a0 a1 = some r) : Pure Try.prog 24 [(.str a0), (.slice 7 (Tm.Ds a1))] (.tuple [(Tm.D r.1), (.int .i64 r.2)]) := by
  unfold sequentref09_Make at e
  refine pure_of_awp (js := [12]) T_ok Try.func24 rfl (by decide +kernel) rfl ?_; (conv => whnf)
  obtain ⟨v1, qv1, e⟩ := bnd e
  refine said_pure (P_sequentref02_Checks qv1) rfl ?_; (conv => whnf)
  refine ⟨⟨fun h2 => ?_, fun h2 => ?_⟩⟩
  · replace e := ifp h2 e; (conv => whnf)
    obtain rfl := sm e
    repeat' first | exact rfl | exact trivial | refine ⟨?_, ?_⟩
  · replace e := ifn h2 e; (conv => whnf)
    refine RunsL.runs (RunsL.weak ((P_sequentref09_Make_l0 e) 0 (by simp)) ?_)
    repeat' first | exact wk.of_eq rfl | exact wk.pure rfl | exact wk.un _ | exact rfl | exact trivial | refine ⟨?_, ?_⟩ | (refine wk.of_eq ?_; (conv => lhs; whnf); (simp [Tm.Ds_all, Ty.Ds_all, Tm.D, Ty.D, listAll] <;> (repeat' first | rfl | apply And.intro)); done) | (refine wk.pure ?_; (conv => lhs; whnf); (simp [Tm.Ds_all, Ty.Ds_all, Tm.D, Ty.D, listAll] <;> (repeat' first | rfl | apply And.intro)); done) | ((simp [Tm.Ds_all, Ty.Ds_all, Tm.D, Ty.D, listAll] <;> (repeat' first | rfl | apply And.intro)); done)

theorem P_sequentlaw09_LogicTerms {a0 : Tm} {a1 : Tm} {r : Bool} (e : sequentlaw09_LogicTerms a0 a1 = some r) : Pure Try.prog 5 [(Tm.D a0), (Tm.D a1)] (.bool r) := by
  unfold sequentlaw09_LogicTerms at e
  refine pure_of_awp (js := []) T_ok Try.func5 rfl (by decide +kernel) rfl ?_; (conv => whnf)
  refine ⟨⟨⟨rfl, rfl⟩, ⟨⟨rfl, rfl⟩, trivial⟩⟩, ?_⟩; (conv => whnf)
  obtain ⟨v1, qv1, e⟩ := bnd e
  first | (refine said_pure (P_sequentlaw09_great qv1) rfl ?_) | (refine said_pure2 (P_sequentlaw09_great qv1) rfl (by simp [Tm.Ds_all, Ty.Ds_all, Tm.D, Ty.D, listAll] <;> (repeat' first | rfl | apply And.intro)) ?_)
  (conv => whnf)
  refine brK.split (fun hb2 => ?_) (fun hb2 => ?_)
  · replace e := ifpb hb2 e; (conv => whnf)
    obtain rfl := sm e
    repeat' first | exact rfl | exact trivial | refine ⟨?_, ?_⟩
  · replace e := ifnb hb2 e; (conv => whnf)
    obtain ⟨v3, qv3, e⟩ := bnd e
    refine said_pure (P_logic_MkAnd qv3) rfl ?_; (conv => whnf)
    refine ⟨⟨⟨rfl, rfl⟩, ⟨⟨rfl, rfl⟩, trivial⟩⟩, ?_⟩; (conv => whnf)
    obtain ⟨v4, qv4, e⟩ := bnd e
    first | (refine said_pure (P_sequentref09_Make qv4) rfl ?_) | (refine said_pure2 (P_sequentref09_Make qv4) rfl (by simp [Tm.Ds_all, Ty.Ds_all, Tm.D, Ty.D, listAll] <;> (repeat' first | rfl | apply And.intro)) ?_)
    (conv => whnf)
    obtain ⟨v5, qv5, e⟩ := bnd e
    refine said_pure (P_logic_MkOr qv5) rfl ?_; (conv => whnf)
    refine ⟨⟨⟨rfl, rfl⟩, ⟨⟨rfl, rfl⟩, trivial⟩⟩, ?_⟩; (conv => whnf)
    obtain ⟨v6, qv6, e⟩ := bnd e
    first | (refine said_pure (P_sequentref09_Make qv6) rfl ?_) | (refine said_pure2 (P_sequentref09_Make qv6) rfl (by simp [Tm.Ds_all, Ty.Ds_all, Tm.D, Ty.D, listAll] <;> (repeat' first | rfl | apply And.intro)) ?_)
    (conv => whnf)
    obtain ⟨v7, qv7, e⟩ := bnd e
    refine said_pure (P_logic_MkImp qv7) rfl ?_; (conv => whnf)
    refine ⟨⟨⟨rfl, rfl⟩, ⟨⟨rfl, rfl⟩, trivial⟩⟩, ?_⟩; (conv => whnf)
    obtain ⟨v8, qv8, e⟩ := bnd e
    first | (refine said_pure (P_sequentref09_Make qv8) rfl ?_) | (refine said_pure2 (P_sequentref09_Make qv8) rfl (by simp [Tm.Ds_all, Ty.Ds_all, Tm.D, Ty.D, listAll] <;> (repeat' first | rfl | apply And.intro)) ?_)
    (conv => whnf)
    obtain ⟨v9, qv9, e⟩ := bnd e
    refine said_pure (P_logic_MkNot qv9) rfl ?_; (conv => whnf)
    refine ⟨⟨⟨rfl, rfl⟩, trivial⟩, ?_⟩; (conv => whnf)
    obtain ⟨v10, qv10, e⟩ := bnd e
    first | (refine said_pure (P_sequentref09_Make qv10) rfl ?_) | (refine said_pure2 (P_sequentref09_Make qv10) rfl (by simp [Tm.Ds_all, Ty.Ds_all, Tm.D, Ty.D, listAll] <;> (repeat' first | rfl | apply And.intro)) ?_)
    (conv => whnf)
    obtain ⟨v11, qv11, e⟩ := bnd e
    refine said_pure (P_sequentref02_Same qv11) rfl ?_; (conv => whnf)
    refine brK.nsplit (fun hb12 => ?_) (fun hb12 => ?_)
    · replace e := ifpb hb12 e; (conv => whnf)
      refine brK.ntt hb12 ?_; (conv => whnf)
      refine brK.ntt hb12 ?_; (conv => whnf)
      refine ⟨⟨fun h13 => ?_, fun h13 => ?_⟩⟩
      · replace e := ifp h13 e; (conv => whnf)
        refine brK.ntt hb12 ?_; (conv => whnf)
        obtain rfl := sm e
        repeat' first | exact rfl | exact trivial | refine ⟨?_, ?_⟩
      · replace e := ifn h13 e; (conv => whnf)
        refine brK.ntt hb12 ?_; (conv => whnf)
        obtain ⟨v14, qv14, e⟩ := bnd e
        refine said_pure (P_sequentref02_Same qv14) rfl ?_; (conv => whnf)
        refine brK.nsplit (fun hb15 => ?_) (fun hb15 => ?_)
        · replace e := ifpb hb15 e; (conv => whnf)
          refine brK.ntt hb15 ?_; (conv => whnf)
          refine brK.ntt hb15 ?_; (conv => whnf)
          refine ⟨⟨fun h16 => ?_, fun h16 => ?_⟩⟩
          · replace e := ifp h16 e; (conv => whnf)
            refine brK.ntt hb15 ?_; (conv => whnf)
            obtain rfl := sm e
            repeat' first | exact rfl | exact trivial | refine ⟨?_, ?_⟩
          · replace e := ifn h16 e; (conv => whnf)
            refine brK.ntt hb15 ?_; (conv => whnf)
            obtain ⟨v17, qv17, e⟩ := bnd e
            refine said_pure (P_sequentref02_Same qv17) rfl ?_; (conv => whnf)
            refine brK.nsplit (fun hb18 => ?_) (fun hb18 => ?_)
            · replace e := ifpb hb18 e; (conv => whnf)
              refine brK.ntt hb18 ?_; (conv => whnf)
              refine brK.ntt hb18 ?_; (conv => whnf)
              refine ⟨⟨fun h19 => ?_, fun h19 => ?_⟩⟩
              · replace e := ifp h19 e; (conv => whnf)
                refine brK.ntt hb18 ?_; (conv => whnf)
                obtain rfl := sm e
                repeat' first | exact rfl | exact trivial | refine ⟨?_, ?_⟩
              · replace e := ifn h19 e; (conv => whnf)
                refine brK.ntt hb18 ?_; (conv => whnf)
                obtain ⟨v20, qv20, e⟩ := bnd e
                refine said_pure (P_sequentref02_Same qv20) rfl ?_; (conv => whnf)
                refine brK.nsplit (fun hb21 => ?_) (fun hb21 => ?_)
                · replace e := ifpb hb21 e; (conv => whnf)
                  refine brK.ntt hb21 ?_; (conv => whnf)
                  refine brK.ntt hb21 ?_; (conv => whnf)
                  refine ⟨⟨fun h22 => ?_, fun h22 => ?_⟩⟩
                  · replace e := ifp h22 e; (conv => whnf)
                    refine brK.ntt hb21 ?_; (conv => whnf)
                    obtain rfl := sm e
                    repeat' first | exact rfl | exact trivial | refine ⟨?_, ?_⟩
                  · replace e := ifn h22 e; (conv => whnf)
                    refine brK.ntt hb21 ?_; (conv => whnf)
                    obtain ⟨v23, qv23, e⟩ := bnd e
                    refine said_pure (P_logic_DestAnd qv23) rfl ?_; (conv => whnf)
                    obtain ⟨v24, qv24, e⟩ := bnd e
                    refine said_pure (P_sequentref09_Dest qv24) rfl ?_; (conv => whnf)
                    obtain ⟨v25, qv25, e⟩ := bnd e
                    refine said_pure (P_logic_DestOr qv25) rfl ?_; (conv => whnf)
                    obtain ⟨v26, qv26, e⟩ := bnd e
                    refine said_pure (P_sequentref09_Dest qv26) rfl ?_; (conv => whnf)
                    obtain ⟨v27, qv27, e⟩ := bnd e
                    refine said_pure (P_logic_DestImp qv27) rfl ?_; (conv => whnf)
                    obtain ⟨v28, qv28, e⟩ := bnd e
                    refine said_pure (P_sequentref09_Dest qv28) rfl ?_; (conv => whnf)
                    obtain ⟨v29, qv29, e⟩ := bnd e
                    refine said_pure (P_logic_DestNot qv29) rfl ?_; (conv => whnf)
                    obtain ⟨v30, qv30, e⟩ := bnd e
                    refine said_pure (P_sequentref09_Dest qv30) rfl ?_; (conv => whnf)
                    refine draw_rule T_ok mixed sequentlaw09_LogicTerms_pl21 (by decide +kernel) ?_; (conv => whnf)
                    obtain ⟨v31, qv31, e⟩ := bnd e
                    refine said_pure (P_sequentlaw09_sameTerms qv31) rfl ⟨rfl, ?_⟩; (conv => whnf)
                    refine brK.split (fun hb32 => ?_) (fun hb32 => ?_)
                    · replace e := ifpb hb32 e; (conv => whnf)
                      refine brK.tt hb32 ?_; (conv => whnf)
                      refine brK.tt hb32 ?_; (conv => whnf)
                      refine brK.tt hb32 ?_; (conv => whnf)
                      refine brK.tt hb32 ?_; (conv => whnf)
                      refine brK.tt hb32 ?_; (conv => whnf)
                      obtain ⟨v33, qv33, e⟩ := bnd e
                      refine said_pure (P_sequentlaw09_sameTerms qv33) rfl ⟨rfl, ?_⟩; (conv => whnf)
                      refine brK.tt hb32 ?_; (conv => whnf)
                      refine brK.split (fun hb34 => ?_) (fun hb34 => ?_)
                      · replace e := ifpb hb34 e; (conv => whnf)
                        refine brK.tt hb34 ?_; (conv => whnf)
                        refine brK.tt hb34 ?_; (conv => whnf)
                        refine brK.tt hb34 ?_; (conv => whnf)
                        refine brK.tt hb34 ?_; (conv => whnf)
                        refine brK.tt hb34 ?_; (conv => whnf)
                        obtain ⟨v35, qv35, e⟩ := bnd e
                        refine said_pure (P_sequentlaw09_sameTerms qv35) rfl ⟨rfl, ?_⟩; (conv => whnf)
                        refine brK.tt hb34 ?_; (conv => whnf)
                        refine brK.split (fun hb36 => ?_) (fun hb36 => ?_)
                        · replace e := ifpb hb36 e; (conv => whnf)
                          refine brK.tt hb36 ?_; (conv => whnf)
                          refine brK.tt hb36 ?_; (conv => whnf)
                          refine ⟨⟨fun h37 => ?_, fun h37 => ?_⟩⟩
                          · replace e := ifp h37 e; (conv => whnf)
                            refine brK.tt hb36 ?_; (conv => whnf)
                            refine brK.nsplit (fun hb38 => ?_) (fun hb38 => ?_)
                            · replace e := ifpb hb38 e; (conv => whnf)
                              refine brK.ntt hb38 ?_; (conv => whnf)
                              refine brK.ntt hb38 ?_; (conv => whnf)
                              refine brK.ntt hb38 ?_; (conv => whnf)
                              refine brK.tt hb38 ?_; (conv => whnf)
                              refine brK.tt hb38 ?_; (conv => whnf)
                              refine brK.tt hb38 ?_; (conv => whnf)
                              obtain ⟨v39, qv39, e⟩ := bnd e
                              obtain ⟨qv39k, qv39a, qv39b⟩ := geti_some qv39
                              refine ⟨qv39k, _, qv39a, Tm.Ds_get qv39b, ?_⟩; (conv => whnf)
                              refine brK.tt hb38 ?_; (conv => whnf)
                              refine ⟨Tm.Ds_fit _ rfl rfl, ?_⟩; (conv => whnf)
                              refine brK.tt hb38 ?_; (conv => whnf)
                              obtain ⟨v40, qv40, e⟩ := bnd e
                              refine said_pure (P_sequentref02_Same qv40) rfl ⟨rfl, ?_⟩; (conv => whnf)
                              refine brK.tt hb38 ?_; (conv => whnf)
                              obtain rfl := sm e
                              repeat' first | exact rfl | exact trivial | refine ⟨?_, ?_⟩
                            · replace e := ifnb hb38 e; (conv => whnf)
                              refine brK.nff hb38 ?_; (conv => whnf)
                              refine brK.nff hb38 ?_; (conv => whnf)
                              obtain ⟨v41, qv41, e⟩ := bnd e
                              refine said_pure (P_sequentref02_Same qv41) rfl ⟨rfl, ?_⟩; (conv => whnf)
                              refine brK.nff hb38 ?_; (conv => whnf)
                              refine brK.split (fun hb42 => ?_) (fun hb42 => ?_)
                              · replace e := ifpb hb42 e; (conv => whnf)
                                refine brK.tt hb42 ?_; (conv => whnf)
                                refine brK.tt hb42 ?_; (conv => whnf)
                                refine brK.tt hb42 ?_; (conv => whnf)
                                obtain rfl := sm e
                                repeat' first | exact rfl | exact trivial | refine ⟨?_, ?_⟩
                              · replace e := ifnb hb42 e; (conv => whnf)
                                refine brK.ff hb42 ?_; (conv => whnf)
                                refine brK.ff hb38 ?_; (conv => whnf)
                                refine brK.ff hb38 ?_; (conv => whnf)
                                refine brK.ff hb38 ?_; (conv => whnf)
                                refine brK.ff hb38 ?_; (conv => whnf)
                                refine brK.ff hb38 ?_; (conv => whnf)
                                refine brK.ff hb42 ?_; (conv => whnf)
                                refine brK.ff hb38 ?_; (conv => whnf)
                                refine brK.ff hb42 ?_; (conv => whnf)
                                obtain rfl := sm e
                                repeat' first | exact rfl | exact trivial | refine ⟨?_, ?_⟩
                          · replace e := ifn h37 e; (conv => whnf)
                            refine brK.tt hb36 ?_; (conv => whnf)
                            obtain rfl := sm e
                            repeat' first | exact rfl | exact trivial | refine ⟨?_, ?_⟩
                        · replace e := ifnb hb36 e; (conv => whnf)
                          refine brK.ff hb36 ?_; (conv => whnf)
                          refine brK.ff hb36 ?_; (conv => whnf)
                          refine brK.ff hb36 ?_; (conv => whnf)
                          obtain rfl := sm e
                          repeat' first | exact rfl | exact trivial | refine ⟨?_, ?_⟩
                      · replace e := ifnb hb34 e; (conv => whnf)
                        refine brK.ff hb34 ?_; (conv => whnf)
                        refine brK.ff hb34 ?_; (conv => whnf)
                        refine brK.ff hb34 ?_; (conv => whnf)
                        refine brK.ff hb34 ?_; (conv => whnf)
                        refine brK.ff hb34 ?_; (conv => whnf)
                        refine brK.ff hb34 ?_; (conv => whnf)
                        obtain rfl := sm e
                        repeat' first | exact rfl | exact trivial | refine ⟨?_, ?_⟩
                    · replace e := ifnb hb32 e; (conv => whnf)
                      refine brK.ff hb32 ?_; (conv => whnf)
                      refine brK.ff hb32 ?_; (conv => whnf)
                      refine brK.ff hb32 ?_; (conv => whnf)
                      refine brK.ff hb32 ?_; (conv => whnf)
                      refine brK.ff hb32 ?_; (conv => whnf)
                      refine brK.ff hb32 ?_; (conv => whnf)
                      obtain rfl := sm e
                      repeat' first | exact rfl | exact trivial | refine ⟨?_, ?_⟩
                · replace e := ifnb hb21 e; (conv => whnf)
                  refine brK.nff hb21 ?_; (conv => whnf)
                  refine brK.nff hb21 ?_; (conv => whnf)
                  refine brK.nff hb21 ?_; (conv => whnf)
                  obtain rfl := sm e
                  repeat' first | exact rfl | exact trivial | refine ⟨?_, ?_⟩
            · replace e := ifnb hb18 e; (conv => whnf)
              refine brK.nff hb18 ?_; (conv => whnf)
              refine brK.nff hb18 ?_; (conv => whnf)
              refine brK.nff hb18 ?_; (conv => whnf)
              obtain rfl := sm e
              repeat' first | exact rfl | exact trivial | refine ⟨?_, ?_⟩
        · replace e := ifnb hb15 e; (conv => whnf)
          refine brK.nff hb15 ?_; (conv => whnf)
          refine brK.nff hb15 ?_; (conv => whnf)
          refine brK.nff hb15 ?_; (conv => whnf)
          obtain rfl := sm e
          repeat' first | exact rfl | exact trivial | refine ⟨?_, ?_⟩
    · replace e := ifnb hb12 e; (conv => whnf)
      refine brK.nff hb12 ?_; (conv => whnf)
      refine brK.nff hb12 ?_; (conv => whnf)
      refine brK.nff hb12 ?_; (conv => whnf)
      obtain rfl := sm e
      repeat' first | exact rfl | exact trivial | refine ⟨?_, ?_⟩

end Go.Proofs.Ytdjmibbgoajcaaa.Fw
