/- The code computes the functions. -/
import Derived.Test.YtemfpemejagndaaG0
set_option autoImplicit false
set_option linter.unusedVariables false
set_option linter.unusedSimpArgs false
set_option maxHeartbeats 4000000
namespace Go.Proofs.Ytemfpemejagndaa.Fw
open Go Go.Proofs Go.RowKit
def M_hash_open_o_io_l0 (rest0 : (List XN)) (k0 : Nat) (m4_0 : (List (HMK × Int))) (a0 : AStore) (v4 : (Bool × (List YN) × (List XN) × (List (HTK × Int)) × (List (HMK × Int)))) (r : (Unit ⊕ (Unit ⊕ ((List YN) × (List XN) × (List (HTK × Int)) × (List (HMK × Int)))))) : Prop := ∀ (hd0 : rest0 = a0.terms.drop k0), LoopAt T Try.prog Try.f18 ⟨[], 0⟩ [] [1, 1, 1, 1, 0, 1, 0] (ES T Try.f18 0 ((Y_hash_open_o_io r)) ((L_hash_open_o_io r))) [(1, .ptr 0 0 0), (4, .ptr 0 5 0), (31, .d (.os 5 (D.ageds (XN.Ds a0.terms)))), (32, .d (.int .i64 ((XN.Ds a0.terms).length : Int))), (33, .d (.int .i64 (k0 : Int)))] [[.cells [.d (.os 3 (D.ageds (YN.Ds a0.types))), .d (.os 5 (D.ageds (XN.Ds a0.terms)))], .grow 3 (YN.Ds v4.2.1).length, .grow 5 (XN.Ds v4.2.2.1).length, .map (mapD HTK.D (D.int .i64) v4.2.2.2.1), .map (mapD HMK.D (D.int .i64) m4_0), .cells [.own 0 1 3 (YN.Ds v4.2.1), .own 0 2 5 (XN.Ds v4.2.2.1), .map 0 3, .map 0 4]]]
theorem G_hash_open_o_io_l0 : (∀ p r, hash_open_o_io_l0' p = some r → ∀ rest0 k0 m4_0 a0 v4, (rest0, k0, m4_0, a0, v4) = p → M_hash_open_o_io_l0 rest0 k0 m4_0 a0 v4 r) := by
 refine hash_open_o_io_l0'.partial_correctness (fun (p : ((List XN) × Nat × (List (HMK × Int)) × AStore × (Bool × (List YN) × (List XN) × (List (HTK × Int)) × (List (HMK × Int))))) (r : (Unit ⊕ (Unit ⊕ ((List YN) × (List XN) × (List (HTK × Int)) × (List (HMK × Int)))))) => ∀ (rest0 : (List XN)) (k0 : Nat) (m4_0 : (List (HMK × Int))) (a0 : AStore) (v4 : (Bool × (List YN) × (List XN) × (List (HTK × Int)) × (List (HMK × Int)))), (rest0, k0, m4_0, a0, v4) = p → M_hash_open_o_io_l0 rest0 k0 m4_0 a0 v4 r) ?_
 ·intro f_hash_open_o_io_l0 ih_hash_open_o_io_l0 p r e rest0 k0 m4_0 a0 v4 hp
  subst hp
  intro hd0
  refine RunsL.len_tmp 31 rfl fun hlenk0 => ?_
  rw [ageds_len] at hlenk0
  refine RunsL.of_awp (js := []) T_ok ?_; conv => whnf
  have hls := XN.Ds_len a0.terms
  cases rest0 with
  | nil =>
   have hk := drop_nil hd0
   refine ⟨⟨fun h => absurd h (by omega), fun _ => ?_⟩⟩; conv => whnf
   obtain rfl := sm e
   refine ⟨[5, 1, 2, 3, 4], ⟨rfl, rfl, rfl⟩, ⟨⟨rfl, rfl⟩, rfl, trivial⟩, ⟨⟨_, rfl, ⟨⟨?_, ?_, rfl, rfl, trivial⟩, rfl⟩⟩, ⟨_, rfl, ?_⟩, ⟨_, rfl, ?_⟩, ⟨_, rfl, rfl⟩, ⟨_, rfl, rfl⟩, trivial⟩⟩
   repeat' first | exact rfl | exact trivial | refine ⟨?_, ?_⟩ | (simp [XN.Ds_all, YN.Ds_all, AStore.D, XN.D, YN.D, HMK.D, listAll, ageds_len, ageds_nil] <;> (repeat' first | rfl | apply And.intro); done)
  | cons v34 rest0 =>
   obtain ⟨hxv34, hd0, hltv34⟩ := drop_head hd0
   refine ⟨⟨fun _ => ?_, fun h => absurd (by omega) h⟩⟩; conv => whnf
   refine ⟨k0, _, rfl, ageds_get (XN.Ds_get hxv34), ?_⟩; conv => whnf
   refine ⟨ageds_fit (XN.Ds_fit _ rfl rfl), ?_⟩; conv => whnf
   try simp only [ageds_len]
   obtain ⟨v35, qv35, e⟩ := bnd e
   refine said_aged (P_hash_fine qv35) rfl ⟨.inr rfl, .inl rfl, .inl (by first | rfl | (simp [XN.Ds_all, YN.Ds_all, AStore.D, XN.D, YN.D, HMK.D, listAll, ageds_len, ageds_nil] <;> (repeat' first | rfl | apply And.intro))), trivial⟩ rfl ?_; conv => whnf
   refine brK.nsplit (fun hb36 => ?_) (fun hb36 => ?_)
   ·replace e := ifpb hb36 e; conv => whnf
    refine draw_rule [] T_ok mixed hash_open_o_io_pl11 (by decide +kernel) ?_; conv => whnf
    obtain ⟨v37, qv37, e⟩ := bnd e
    refine said_aged (P_hash_keyTerm qv37) rfl ⟨.inr rfl, trivial⟩ rfl ⟨Keeps.refl _ _, ?_⟩; conv => whnf
    refine mlook_of KF_79 (fun v38 hv38 => ?_) (fun hv38 => ?_)
    ·rw [hv38] at e; conv => whnf
     obtain rfl := sm e
     refine ⟨[], ⟨rfl, rfl, rfl⟩, ⟨rfl, rfl, trivial⟩, trivial⟩
     repeat' first | exact rfl | exact trivial | refine ⟨?_, ?_⟩
    ·rw [hv38] at e; conv => whnf
     refine draw_rule [] T_ok mixed hash_open_o_io_pl14 (by decide +kernel) ?_; conv => whnf
     obtain ⟨v39, qv39, e⟩ := bnd e
     refine said_aged (P_hash_keyTerm qv39) rfl ⟨.inr rfl, trivial⟩ rfl ⟨Keeps.refl _ _, ?_⟩; conv => whnf
     obtain ⟨v40, qv40, e⟩ := bnd e
     refine mupd_of KF_79 (sm qv40) ?_; conv => whnf
     refine ⟨((k0 + 1 : Nat) : Int), wrap64e (by omega) (by omega) (by omega), ?_⟩; conv => whnf
     refine (RunsL.weak ((ih_hash_open_o_io_l0 _ _ e _ _ _ _ _ rfl) hd0) ?_)
     repeat' first | exact wk.of_eq rfl | exact wk.pure rfl | exact wk.un _ | exact wk.hold _ _ _ | exact wk.holdG _ _ _ | exact rfl | exact trivial | refine ⟨?_, ?_⟩ | (refine wk.of_eq ?_; (conv => lhs; whnf); (simp [XN.Ds_all, YN.Ds_all, AStore.D, XN.D, YN.D, HMK.D, listAll, ageds_len, ageds_nil] <;> (repeat' first | rfl | apply And.intro)); done) | (refine wk.pure ?_; (conv => lhs; whnf); (simp [XN.Ds_all, YN.Ds_all, AStore.D, XN.D, YN.D, HMK.D, listAll, ageds_len, ageds_nil] <;> (repeat' first | rfl | apply And.intro)); done) | ((simp [XN.Ds_all, YN.Ds_all, AStore.D, XN.D, YN.D, HMK.D, listAll, ageds_len, ageds_nil] <;> (repeat' first | rfl | apply And.intro)); done) | (simp [XN.Ds_all, YN.Ds_all, AStore.D, XN.D, YN.D, HMK.D, listAll, ageds_len, ageds_nil]; omega)
   ·replace e := ifnb hb36 e; conv => whnf
    obtain rfl := sm e
    refine ⟨[], ⟨rfl, rfl, rfl⟩, ⟨rfl, rfl, trivial⟩, trivial⟩
    repeat' first | exact rfl | exact trivial | refine ⟨?_, ?_⟩
theorem P_hash_open_o_io_l0 {rest0 : (List XN)} {k0 : Nat} {m4_0 : (List (HMK × Int))} {a0 : AStore} {v4 : (Bool × (List YN) × (List XN) × (List (HTK × Int)) × (List (HMK × Int)))} {r : (Unit ⊕ (Unit ⊕ ((List YN) × (List XN) × (List (HTK × Int)) × (List (HMK × Int)))))} (e : hash_open_o_io_l0 rest0 k0 m4_0 a0 v4 = some r) : M_hash_open_o_io_l0 rest0 k0 m4_0 a0 v4 r := G_hash_open_o_io_l0 _ _ e _ _ _ _ _ rfl
theorem P_hash_open_o_io {a0 : AStore} {r : (Unit ⊕ (Unit ⊕ ((List YN) × (List XN) × (List (HTK × Int)) × (List (HMK × Int)))))} (e : hash_open_o_io a0 = some r) : IoR Try.prog 18 [.d (D.aged (AStore.D a0))] [] ((Y_hash_open_o_io r)) ((L_hash_open_o_io r)) := by
 unfold hash_open_o_io at e
 refine io_of_awp2 (js := []) T_ok Try.func18 rfl (by decide +kernel) rfl ?_; conv => whnf
 try simp only [ageds_len]
 refine ⟨⟨fun h1 => ?_, fun h1 => ?_⟩⟩
 ·replace e := ifp (by first | exact h1 | omega | simpa [XN.Ds_all, YN.Ds_all, AStore.D, XN.D, YN.D, HMK.D, listAll, ageds_len, ageds_nil] using h1) e; conv => whnf
  obtain rfl := sm e
  refine ⟨[], ⟨rfl, rfl, rfl⟩, ⟨rfl, rfl, trivial⟩, trivial⟩
  repeat' first | exact rfl | exact trivial | refine ⟨?_, ?_⟩
 ·replace e := ifn (by first | exact h1 | omega | simpa [XN.Ds_all, YN.Ds_all, AStore.D, XN.D, YN.D, HMK.D, listAll, ageds_len, ageds_nil] using h1) e; conv => whnf
  try simp only [ageds_len]
  refine ⟨⟨fun h2 => ?_, fun h2 => ?_⟩⟩
  ·replace e := ifp (by first | exact h2 | omega | simpa [XN.Ds_all, YN.Ds_all, AStore.D, XN.D, YN.D, HMK.D, listAll, ageds_len, ageds_nil] using h2) e; conv => whnf
   obtain rfl := sm e
   refine ⟨[], ⟨rfl, rfl, rfl⟩, ⟨rfl, rfl, trivial⟩, trivial⟩
   repeat' first | exact rfl | exact trivial | refine ⟨?_, ?_⟩
  ·replace e := ifn (by first | exact h2 | omega | simpa [XN.Ds_all, YN.Ds_all, AStore.D, XN.D, YN.D, HMK.D, listAll, ageds_len, ageds_nil] using h2) e; conv => whnf
   obtain ⟨v3, qv3, e⟩ := bnd e
   refine said_iorF (P_hash_Twin_o_io qv3) [] [.d (D.aged (AStore.D a0))] rfl ⟨wk.pure rfl, trivial⟩ rfl rfl ?_; conv => whnf
   obtain ⟨v4, qv4, e⟩ := bnd e
   first | (refine said_iorF (P_hx_addTypes_o_io qv4) [5, 1, 2, 3, 4] [.ptr 0 5 0, .d (.os 3 (D.ageds (YN.Ds a0.types)))] rfl ⟨wk.refl _, wk.pure rfl, trivial⟩ rfl rfl ?_) | (refine said_iorF2 (P_hx_addTypes_o_io qv4) [5, 1, 2, 3, 4] [.ptr 0 5 0, .d (.os 3 (D.ageds (YN.Ds a0.types)))] rfl ⟨wk.refl _, wk.pure rfl, trivial⟩ rfl rfl (by simp [XN.Ds_all, YN.Ds_all, AStore.D, XN.D, YN.D, HMK.D, listAll, ageds_len, ageds_nil] <;> (repeat' first | rfl | apply And.intro)) ?_)
   (conv => whnf)
   refine brK.nsplit (fun hb5 => ?_) (fun hb5 => ?_)
   ·replace e := ifpb hb5 e; conv => whnf
    try simp only [ageds_len]
    refine RunsL.runs (RunsL.weak ((P_hash_open_o_io_l0 e) (by simp)) ?_)
    repeat' first | exact wk.of_eq rfl | exact wk.pure rfl | exact wk.un _ | exact wk.hold _ _ _ | exact wk.holdG _ _ _ | exact rfl | exact trivial | refine ⟨?_, ?_⟩ | (refine wk.of_eq ?_; (conv => lhs; whnf); (simp [XN.Ds_all, YN.Ds_all, AStore.D, XN.D, YN.D, HMK.D, listAll, ageds_len, ageds_nil] <;> (repeat' first | rfl | apply And.intro)); done) | (refine wk.pure ?_; (conv => lhs; whnf); (simp [XN.Ds_all, YN.Ds_all, AStore.D, XN.D, YN.D, HMK.D, listAll, ageds_len, ageds_nil] <;> (repeat' first | rfl | apply And.intro)); done) | ((simp [XN.Ds_all, YN.Ds_all, AStore.D, XN.D, YN.D, HMK.D, listAll, ageds_len, ageds_nil] <;> (repeat' first | rfl | apply And.intro)); done) | (simp [XN.Ds_all, YN.Ds_all, AStore.D, XN.D, YN.D, HMK.D, listAll, ageds_len, ageds_nil]; omega)
   ·replace e := ifnb hb5 e; conv => whnf
    obtain rfl := sm e
    refine ⟨[], ⟨rfl, rfl, rfl⟩, ⟨rfl, rfl, trivial⟩, trivial⟩
    repeat' first | exact rfl | exact trivial | refine ⟨?_, ?_⟩
def M_terms_extent (a0 : Tm) (r : (Int × Int)) : Prop := Pure Try.prog 71 [(Tm.D a0)] (.tuple [(.int .i64 r.1), (.int .i64 r.2)])
def M_terms_extent_l0 (rest0 : (List Tm)) (t2_0 : Int) (t3_0 : Int) (r : (Int × Int)) : Prop := ∀ (a0 : Tm) (k0 : Nat) (hd0 : rest0 = a0.sub.drop k0), LoopAt T Try.prog Try.f71 Fx0 [] [1, 1, 0, 1, 0] (EP T Try.f71 (.tuple [(.int .i64 r.1), (.int .i64 r.2)])) [(2, .d (.int .i64 t2_0)), (3, .d (.int .i64 t3_0)), (9, .d (.slice 7 (Tm.Ds a0.sub))), (10, .d (.int .i64 ((Tm.Ds a0.sub).length : Int))), (11, .d (.int .i64 (k0 : Int)))] [[]]
theorem G_terms_extent : (∀ p r, terms_extent' p = some r → ∀ a0, a0 = p → M_terms_extent a0 r) ∧
  (∀ p r, terms_extent_l0' p = some r → ∀ rest0 t2_0 t3_0, (rest0, t2_0, t3_0) = p → M_terms_extent_l0 rest0 t2_0 t3_0 r) := by
 refine terms_extent'.mutual_partial_correctness (fun (p : Tm) (r : (Int × Int)) => ∀ (a0 : Tm), a0 = p → M_terms_extent a0 r) (fun (p : ((List Tm) × Int × Int)) (r : (Int × Int)) => ∀ (rest0 : (List Tm)) (t2_0 : Int) (t3_0 : Int), (rest0, t2_0, t3_0) = p → M_terms_extent_l0 rest0 t2_0 t3_0 r) ?_ ?_
 ·intro f_terms_extent_l0 ih_terms_extent_l0 p r e a0 hp
  subst hp
  refine pure_of_awp (js := []) T_ok Try.func71 rfl (by decide +kernel) rfl ?_; conv => whnf
  refine RunsL.runs (RunsL.weak ((ih_terms_extent_l0 _ _ e _ _ _ rfl) a0 0 (by simp)) ?_)
  repeat' first | exact wk.of_eq rfl | exact wk.pure rfl | exact wk.un _ | exact wk.hold _ _ _ | exact wk.holdG _ _ _ | exact rfl | exact trivial | refine ⟨?_, ?_⟩ | (refine wk.of_eq ?_; (conv => lhs; whnf); (simp [Tm.Ds_all, Ty.Ds_all, Tm.D, Ty.D, listAll] <;> (repeat' first | rfl | apply And.intro)); done) | (refine wk.pure ?_; (conv => lhs; whnf); (simp [Tm.Ds_all, Ty.Ds_all, Tm.D, Ty.D, listAll] <;> (repeat' first | rfl | apply And.intro)); done) | ((simp [Tm.Ds_all, Ty.Ds_all, Tm.D, Ty.D, listAll] <;> (repeat' first | rfl | apply And.intro)); done) | (simp [Tm.Ds_all, Ty.Ds_all, Tm.D, Ty.D, listAll]; omega)
 ·intro f_terms_extent f_terms_extent_l0 ih_terms_extent ih_terms_extent_l0 p r e rest0 t2_0 t3_0 hp
  subst hp
  intro a0 k0 hd0
  refine RunsL.len_tmp 9 rfl fun hlenk0 => ?_
  refine RunsL.of_awp (js := []) T_ok ?_; conv => whnf
  have hls := Tm.Ds_len a0.sub
  cases rest0 with
  | nil =>
   have hk := drop_nil hd0
   refine ⟨⟨fun h => absurd h (by omega), fun _ => ?_⟩⟩; conv => whnf
   obtain ⟨v13, qv13, e⟩ := bnd e
   refine ⟨v13, sm qv13, ?_⟩; conv => whnf
   obtain rfl := sm e
   repeat' first | exact rfl | exact trivial | refine ⟨?_, ?_⟩
  | cons v12 rest0 =>
   obtain ⟨hxv12, hd0, hltv12⟩ := drop_head hd0
   refine ⟨⟨fun _ => ?_, fun h => absurd (by omega) h⟩⟩; conv => whnf
   refine ⟨k0, _, rfl, Tm.Ds_get hxv12, ?_⟩; conv => whnf
   refine ⟨Tm.Ds_fit _ rfl rfl, ?_⟩; conv => whnf
   obtain ⟨v13, qv13, e⟩ := bnd e
   refine said_pure (ih_terms_extent _ _ qv13 _ rfl) rfl ?_; conv => whnf
   obtain ⟨v14, qv14, e⟩ := bnd e
   refine ⟨v14, sm qv14, ?_⟩; conv => whnf
   refine ⟨((k0 + 1 : Nat) : Int), wrap64e (by omega) (by omega) (by omega), ?_⟩; conv => whnf
   refine (RunsL.weak ((ih_terms_extent_l0 _ _ e _ _ _ rfl) a0 (k0 + 1) hd0) ?_)
   repeat' first | exact wk.of_eq rfl | exact wk.pure rfl | exact wk.un _ | exact wk.hold _ _ _ | exact wk.holdG _ _ _ | exact rfl | exact trivial | refine ⟨?_, ?_⟩ | (refine wk.of_eq ?_; (conv => lhs; whnf); (simp [Tm.Ds_all, Ty.Ds_all, Tm.D, Ty.D, listAll] <;> (repeat' first | rfl | apply And.intro)); done) | (refine wk.pure ?_; (conv => lhs; whnf); (simp [Tm.Ds_all, Ty.Ds_all, Tm.D, Ty.D, listAll] <;> (repeat' first | rfl | apply And.intro)); done) | ((simp [Tm.Ds_all, Ty.Ds_all, Tm.D, Ty.D, listAll] <;> (repeat' first | rfl | apply And.intro)); done) | (simp [Tm.Ds_all, Ty.Ds_all, Tm.D, Ty.D, listAll]; omega)
theorem P_terms_extent {a0 : Tm} {r : (Int × Int)} (e : terms_extent a0 = some r) : M_terms_extent a0 r := G_terms_extent.1 _ _ e _ rfl
theorem P_terms_great {a0 : Tm} {r : Bool} (e : terms_great a0 = some r) : Pure Try.prog 57 [(Tm.D a0)] (.bool r) := by
 unfold terms_great at e
 refine pure_of_awp (js := []) T_ok Try.func57 rfl (by decide +kernel) rfl ?_; conv => whnf
 obtain ⟨v1, qv1, e⟩ := bnd e
 refine said_pure (P_terms_extent qv1) rfl ?_; conv => whnf
 refine ⟨⟨fun h2 => ?_, fun h2 => ?_⟩⟩
 ·replace e := ifp h2 e; conv => whnf
  obtain rfl := sm e
  repeat' first | exact rfl | exact trivial | refine ⟨?_, ?_⟩
 ·replace e := ifn h2 e; conv => whnf
  refine test.dec ?_; conv => whnf
  obtain rfl := sm e
  repeat' first | exact rfl | exact trivial | refine ⟨?_, ?_⟩
theorem P_terms_plain {a0 : Tm} {a1 : Bool} {a2 : Bool} {a3 : Bool} {r : Bool} (e : terms_plain a0 a1 a2 a3 = some r) : Pure Try.prog 72 [(Tm.D a0), (.bool a1), (.bool a2), (.bool a3)] (.bool r) := by
 unfold terms_plain at e
 refine pure_of_awp (js := []) T_ok Try.func72 rfl (by decide +kernel) rfl ?_; conv => whnf
 refine brK.split (fun hb1 => ?_) (fun hb1 => ?_)
 ·replace e := ifpb hb1 e; conv => whnf
  refine brK.tt hb1 ?_; conv => whnf
  refine brK.tt hb1 ?_; conv => whnf
  refine brK.tt hb1 ?_; conv => whnf
  refine brK.split (fun hb2 => ?_) (fun hb2 => ?_)
  ·replace e := ifpb hb2 e; conv => whnf
   refine brK.tt hb2 ?_; conv => whnf
   refine brK.tt hb2 ?_; conv => whnf
   refine brK.tt hb2 ?_; conv => whnf
   refine brK.tt hb2 ?_; conv => whnf
   refine brK.tt hb2 ?_; conv => whnf
   refine brK.tt hb2 ?_; conv => whnf
   refine brK.tt hb2 ?_; conv => whnf
   refine brK.tt hb2 ?_; conv => whnf
   refine brK.split (fun hb3 => ?_) (fun hb3 => ?_)
   ·replace e := ifpb hb3 e; conv => whnf
    refine brK.tt hb3 ?_; conv => whnf
    refine brK.tt hb3 ?_; conv => whnf
    refine brK.tt hb3 ?_; conv => whnf
    obtain rfl := sm e
    repeat' first | exact rfl | exact trivial | refine ⟨?_, ?_⟩
   ·replace e := ifnb hb3 e; conv => whnf
    refine brK.ff hb3 ?_; conv => whnf
    refine brK.ff hb3 ?_; conv => whnf
    refine test.dec ?_; conv => whnf
    refine brK.ff hb3 ?_; conv => whnf
    obtain rfl := sm e
    repeat' first | exact rfl | exact trivial | refine ⟨?_, ?_⟩
  ·replace e := ifnb hb2 e; conv => whnf
   refine brK.ff hb2 ?_; conv => whnf
   refine brK.ff hb2 ?_; conv => whnf
   refine brK.ff hb2 ?_; conv => whnf
   refine brK.ff hb2 ?_; conv => whnf
   refine brK.nsplit (fun hb3 => ?_) (fun hb3 => ?_)
   ·replace e := ifpb hb3 e; conv => whnf
    refine brK.ntt hb3 ?_; conv => whnf
    refine brK.ntt hb3 ?_; conv => whnf
    refine brK.ntt hb3 ?_; conv => whnf
    refine brK.ff hb2 ?_; conv => whnf
    refine brK.ntt hb3 ?_; conv => whnf
    refine brK.ff hb2 ?_; conv => whnf
    refine brK.ff hb2 ?_; conv => whnf
    refine brK.ff hb2 ?_; conv => whnf
    obtain rfl := sm e
    repeat' first | exact rfl | exact trivial | refine ⟨?_, ?_⟩
   ·replace e := ifnb hb3 e; conv => whnf
    refine brK.nff hb3 ?_; conv => whnf
    refine brK.nff hb3 ?_; conv => whnf
    refine brK.nff hb3 ?_; conv => whnf
    refine ⟨⟨fun h4 => ?_, fun h4 => ?_⟩⟩
    ·replace e := ifp h4 e; conv => whnf
     refine brK.ff hb2 ?_; conv => whnf
     refine brK.nff hb3 ?_; conv => whnf
     refine brK.ff hb2 ?_; conv => whnf
     refine ⟨⟨fun h5 => ?_, fun h5 => ?_⟩⟩
     ·replace e := ifp (by first | exact h5 | omega | simpa [Tm.Ds_all, Ty.Ds_all, Tm.D, Ty.D, listAll] using h5) e; conv => whnf
      refine brK.ff hb2 ?_; conv => whnf
      refine brK.ff hb2 ?_; conv => whnf
      refine brK.split (fun hb6 => ?_) (fun hb6 => ?_)
      ·replace e := ifpb hb6 e; conv => whnf
       refine brK.tt hb6 ?_; conv => whnf
       refine brK.tt hb6 ?_; conv => whnf
       refine brK.tt hb6 ?_; conv => whnf
       obtain rfl := sm e
       repeat' first | exact rfl | exact trivial | refine ⟨?_, ?_⟩
      ·replace e := ifnb hb6 e; conv => whnf
       refine brK.ff hb6 ?_; conv => whnf
       refine brK.ff hb6 ?_; conv => whnf
       refine test.dec ?_; conv => whnf
       refine brK.ff hb6 ?_; conv => whnf
       obtain rfl := sm e
       repeat' first | exact rfl | exact trivial | refine ⟨?_, ?_⟩
     ·replace e := ifn (by first | exact h5 | omega | simpa [Tm.Ds_all, Ty.Ds_all, Tm.D, Ty.D, listAll] using h5) e; conv => whnf
      refine brK.ff hb2 ?_; conv => whnf
      refine brK.ff hb2 ?_; conv => whnf
      obtain rfl := sm e
      repeat' first | exact rfl | exact trivial | refine ⟨?_, ?_⟩
    ·replace e := ifn h4 e; conv => whnf
     refine brK.ff hb2 ?_; conv => whnf
     refine brK.nff hb3 ?_; conv => whnf
     refine brK.ff hb2 ?_; conv => whnf
     refine brK.ff hb2 ?_; conv => whnf
     refine brK.ff hb2 ?_; conv => whnf
     obtain rfl := sm e
     repeat' first | exact rfl | exact trivial | refine ⟨?_, ?_⟩
 ·replace e := ifnb hb1 e; conv => whnf
  refine brK.ff hb1 ?_; conv => whnf
  refine brK.ff hb1 ?_; conv => whnf
  refine ⟨⟨fun h2 => ?_, fun h2 => ?_⟩⟩
  ·replace e := ifp h2 e; conv => whnf
   refine brK.ff hb1 ?_; conv => whnf
   refine brK.split (fun hb3 => ?_) (fun hb3 => ?_)
   ·replace e := ifpb hb3 e; conv => whnf
    refine brK.tt hb3 ?_; conv => whnf
    refine brK.tt hb3 ?_; conv => whnf
    refine brK.tt hb3 ?_; conv => whnf
    refine brK.tt hb3 ?_; conv => whnf
    refine brK.tt hb3 ?_; conv => whnf
    refine brK.tt hb3 ?_; conv => whnf
    refine brK.tt hb3 ?_; conv => whnf
    refine brK.tt hb3 ?_; conv => whnf
    refine brK.split (fun hb4 => ?_) (fun hb4 => ?_)
    ·replace e := ifpb hb4 e; conv => whnf
     refine brK.tt hb4 ?_; conv => whnf
     refine brK.tt hb4 ?_; conv => whnf
     refine brK.tt hb4 ?_; conv => whnf
     obtain rfl := sm e
     repeat' first | exact rfl | exact trivial | refine ⟨?_, ?_⟩
    ·replace e := ifnb hb4 e; conv => whnf
     refine brK.ff hb4 ?_; conv => whnf
     refine brK.ff hb4 ?_; conv => whnf
     refine test.dec ?_; conv => whnf
     refine brK.ff hb4 ?_; conv => whnf
     obtain rfl := sm e
     repeat' first | exact rfl | exact trivial | refine ⟨?_, ?_⟩
   ·replace e := ifnb hb3 e; conv => whnf
    refine brK.ff hb3 ?_; conv => whnf
    refine brK.ff hb3 ?_; conv => whnf
    refine brK.ff hb3 ?_; conv => whnf
    refine brK.ff hb3 ?_; conv => whnf
    refine brK.nsplit (fun hb4 => ?_) (fun hb4 => ?_)
    ·replace e := ifpb hb4 e; conv => whnf
     refine brK.ntt hb4 ?_; conv => whnf
     refine brK.ntt hb4 ?_; conv => whnf
     refine brK.ntt hb4 ?_; conv => whnf
     refine brK.ff hb3 ?_; conv => whnf
     refine brK.ntt hb4 ?_; conv => whnf
     refine brK.ff hb3 ?_; conv => whnf
     refine brK.ff hb3 ?_; conv => whnf
     refine brK.ff hb3 ?_; conv => whnf
     obtain rfl := sm e
     repeat' first | exact rfl | exact trivial | refine ⟨?_, ?_⟩
    ·replace e := ifnb hb4 e; conv => whnf
     refine brK.nff hb4 ?_; conv => whnf
     refine brK.nff hb4 ?_; conv => whnf
     refine brK.nff hb4 ?_; conv => whnf
     refine ⟨⟨fun h5 => ?_, fun h5 => ?_⟩⟩
     ·replace e := ifp h5 e; conv => whnf
      refine brK.ff hb3 ?_; conv => whnf
      refine brK.nff hb4 ?_; conv => whnf
      refine brK.ff hb3 ?_; conv => whnf
      refine ⟨⟨fun h6 => ?_, fun h6 => ?_⟩⟩
      ·replace e := ifp (by first | exact h6 | omega | simpa [Tm.Ds_all, Ty.Ds_all, Tm.D, Ty.D, listAll] using h6) e; conv => whnf
       refine brK.ff hb3 ?_; conv => whnf
       refine brK.ff hb3 ?_; conv => whnf
       refine brK.split (fun hb7 => ?_) (fun hb7 => ?_)
       ·replace e := ifpb hb7 e; conv => whnf
        refine brK.tt hb7 ?_; conv => whnf
        refine brK.tt hb7 ?_; conv => whnf
        refine brK.tt hb7 ?_; conv => whnf
        obtain rfl := sm e
        repeat' first | exact rfl | exact trivial | refine ⟨?_, ?_⟩
       ·replace e := ifnb hb7 e; conv => whnf
        refine brK.ff hb7 ?_; conv => whnf
        refine brK.ff hb7 ?_; conv => whnf
        refine test.dec ?_; conv => whnf
        refine brK.ff hb7 ?_; conv => whnf
        obtain rfl := sm e
        repeat' first | exact rfl | exact trivial | refine ⟨?_, ?_⟩
      ·replace e := ifn (by first | exact h6 | omega | simpa [Tm.Ds_all, Ty.Ds_all, Tm.D, Ty.D, listAll] using h6) e; conv => whnf
       refine brK.ff hb3 ?_; conv => whnf
       refine brK.ff hb3 ?_; conv => whnf
       obtain rfl := sm e
       repeat' first | exact rfl | exact trivial | refine ⟨?_, ?_⟩
     ·replace e := ifn h5 e; conv => whnf
      refine brK.ff hb3 ?_; conv => whnf
      refine brK.nff hb4 ?_; conv => whnf
      refine brK.ff hb3 ?_; conv => whnf
      refine brK.ff hb3 ?_; conv => whnf
      refine brK.ff hb3 ?_; conv => whnf
      obtain rfl := sm e
      repeat' first | exact rfl | exact trivial | refine ⟨?_, ?_⟩
  ·replace e := ifn h2 e; conv => whnf
   refine brK.ff hb1 ?_; conv => whnf
   obtain rfl := sm e
   repeat' first | exact rfl | exact trivial | refine ⟨?_, ?_⟩
theorem P_types_rank {a0 : Ty} {r : Int} (e : types_rank a0 = some r) : Pure Try.prog 82 [(Ty.D a0)] (.int .i64 r) := by
 unfold types_rank at e
 refine pure_of_awp (js := []) T_ok Try.func82 rfl (by decide +kernel) rfl ?_; conv => whnf
 refine brK.split (fun hb1 => ?_) (fun hb1 => ?_)
 ·replace e := ifpb hb1 e; conv => whnf
  obtain rfl := sm e
  repeat' first | exact rfl | exact trivial | refine ⟨?_, ?_⟩
 ·replace e := ifnb hb1 e; conv => whnf
  obtain rfl := sm e
  repeat' first | exact rfl | exact trivial | refine ⟨?_, ?_⟩
theorem P_cmp_isNaN_int {a0 : Int} {r : Bool} (e : cmp_isNaN_int a0 = some r) : Pure Try.prog 85 [(.int .i64 a0)] (.bool r) := by
 unfold cmp_isNaN_int at e
 refine pure_of_awp (js := []) T_ok Try.func85 rfl (by decide +kernel) rfl ?_; conv => whnf
 refine test.dec ?_; conv => whnf
 obtain rfl := sm e
 repeat' first | exact rfl | exact trivial | refine ⟨?_, ?_⟩
theorem P_cmp_Compare_int {a0 : Int} {a1 : Int} {r : Int} (e : cmp_Compare_int a0 a1 = some r) : Pure Try.prog 81 [(.int .i64 a0), (.int .i64 a1)] (.int .i64 r) := by
 unfold cmp_Compare_int at e
 refine pure_of_awp (js := []) T_ok Try.func81 rfl (by decide +kernel) rfl ?_; conv => whnf
 obtain ⟨v1, qv1, e⟩ := bnd e
 refine said_pure (P_cmp_isNaN_int qv1) rfl ?_; conv => whnf
 obtain ⟨v2, qv2, e⟩ := bnd e
 refine said_pure (P_cmp_isNaN_int qv2) rfl ?_; conv => whnf
 refine brK.split (fun hb3 => ?_) (fun hb3 => ?_)
 ·replace e := ifpb hb3 e; conv => whnf
  refine brK.split (fun hb4 => ?_) (fun hb4 => ?_)
  ·replace e := ifpb hb4 e; conv => whnf
   obtain rfl := sm e
   repeat' first | exact rfl | exact trivial | refine ⟨?_, ?_⟩
  ·replace e := ifnb hb4 e; conv => whnf
   obtain rfl := sm e
   repeat' first | exact rfl | exact trivial | refine ⟨?_, ?_⟩
 ·replace e := ifnb hb3 e; conv => whnf
  refine brK.split (fun hb4 => ?_) (fun hb4 => ?_)
  ·replace e := ifpb hb4 e; conv => whnf
   obtain rfl := sm e
   repeat' first | exact rfl | exact trivial | refine ⟨?_, ?_⟩
  ·replace e := ifnb hb4 e; conv => whnf
   refine ⟨⟨fun h5 => ?_, fun h5 => ?_⟩⟩
   ·replace e := ifp h5 e; conv => whnf
    obtain rfl := sm e
    repeat' first | exact rfl | exact trivial | refine ⟨?_, ?_⟩
   ·replace e := ifn h5 e; conv => whnf
    refine ⟨⟨fun h6 => ?_, fun h6 => ?_⟩⟩
    ·replace e := ifp h6 e; conv => whnf
     obtain rfl := sm e
     repeat' first | exact rfl | exact trivial | refine ⟨?_, ?_⟩
    ·replace e := ifn h6 e; conv => whnf
     obtain rfl := sm e
     repeat' first | exact rfl | exact trivial | refine ⟨?_, ?_⟩
theorem P_bytealg_CompareString {a0 : ByteArray} {a1 : ByteArray} {r : Int} (e : bytealg_CompareString a0 a1 = some r) : Pure Try.prog 86 [(.str a0), (.str a1)] (.int .i64 r) := by
 unfold bytealg_CompareString at e
 refine pure_of_awp (js := []) T_ok Try.func86 rfl (by decide +kernel) rfl ?_; conv => whnf
 obtain ⟨v1, qv1, e⟩ := bnd e
 refine said_pure (P_cmpstr qv1) rfl ?_; conv => whnf
 obtain rfl := sm e
 repeat' first | exact rfl | exact trivial | refine ⟨?_, ?_⟩
theorem P_strings_Compare {a0 : ByteArray} {a1 : ByteArray} {r : Int} (e : strings_Compare a0 a1 = some r) : Pure Try.prog 83 [(.str a0), (.str a1)] (.int .i64 r) := by
 unfold strings_Compare at e
 refine pure_of_awp (js := []) T_ok Try.func83 rfl (by decide +kernel) rfl ?_; conv => whnf
 obtain ⟨v1, qv1, e⟩ := bnd e
 refine said_pure (P_bytealg_CompareString qv1) rfl ?_; conv => whnf
 obtain rfl := sm e
 repeat' first | exact rfl | exact trivial | refine ⟨?_, ?_⟩
end Go.Proofs.Ytemfpemejagndaa.Fw


set_option maxHeartbeats 4000000
namespace Go.Proofs.Ytemfpemejagndaa.Fw
open Go Go.Proofs Go.RowKit
def M_cmp_Or_int_l0 (rest0 : (List Int)) (r : Int) : Prop := ∀ (a0 : (List Int)) (k0 : Nat) (hd0 : rest0 = a0.drop k0), LoopAt T Try.prog Try.f80 Fx0 [] [1, 1, 0, 1, 0] (EP T Try.f80 (.int .i64 r)) [(3, .d (.int .i64 0)), (6, .d (.slice 1 (intDs_i64 a0))), (7, .d (.int .i64 ((intDs_i64 a0).length : Int))), (8, .d (.int .i64 (k0 : Int)))] [[]]
theorem G_cmp_Or_int_l0 : (∀ p r, cmp_Or_int_l0' p = some r → ∀ rest0, rest0 = p → M_cmp_Or_int_l0 rest0 r) := by
 refine cmp_Or_int_l0'.partial_correctness (fun (p : (List Int)) (r : Int) => ∀ (rest0 : (List Int)), rest0 = p → M_cmp_Or_int_l0 rest0 r) ?_
 ·intro f_cmp_Or_int_l0 ih_cmp_Or_int_l0 p r e rest0 hp
  subst hp
  intro a0 k0 hd0
  refine RunsL.len_tmp 6 rfl fun hlenk0 => ?_
  refine RunsL.of_awp (js := []) T_ok ?_; conv => whnf
  have hls := intDs_i64_len a0
  cases rest0 with
  | nil =>
   have hk := drop_nil hd0
   refine ⟨⟨fun h => absurd h (by omega), fun _ => ?_⟩⟩; conv => whnf
   obtain rfl := sm e
   repeat' first | exact rfl | exact trivial | refine ⟨?_, ?_⟩
  | cons v9 rest0 =>
   obtain ⟨hxv9, hd0, hltv9⟩ := drop_head hd0
   refine ⟨⟨fun _ => ?_, fun h => absurd (by omega) h⟩⟩; conv => whnf
   refine ⟨k0, _, rfl, intDs_i64_get hxv9, ?_⟩; conv => whnf
   refine ⟨intDs_i64_fit _ rfl rfl, ?_⟩; conv => whnf
   refine ⟨⟨fun h10 => ?_, fun h10 => ?_⟩⟩
   ·replace e := ifp h10 e; conv => whnf
    obtain rfl := sm e
    repeat' first | exact rfl | exact trivial | refine ⟨?_, ?_⟩
   ·replace e := ifn h10 e; conv => whnf
    refine ⟨((k0 + 1 : Nat) : Int), wrap64e (by omega) (by omega) (by omega), ?_⟩; conv => whnf
    refine (RunsL.weak ((ih_cmp_Or_int_l0 _ _ e _ rfl) a0 (k0 + 1) hd0) ?_)
    repeat' first | exact wk.of_eq rfl | exact wk.pure rfl | exact wk.un _ | exact wk.hold _ _ _ | exact wk.holdG _ _ _ | exact rfl | exact trivial | refine ⟨?_, ?_⟩ | (refine wk.of_eq ?_; (conv => lhs; whnf); (simp [intDs_i64_all, listAll] <;> (repeat' first | rfl | apply And.intro)); done) | (refine wk.pure ?_; (conv => lhs; whnf); (simp [intDs_i64_all, listAll] <;> (repeat' first | rfl | apply And.intro)); done) | ((simp [intDs_i64_all, listAll] <;> (repeat' first | rfl | apply And.intro)); done) | (simp [intDs_i64_all, listAll]; omega)
theorem P_cmp_Or_int_l0 {rest0 : (List Int)} {r : Int} (e : cmp_Or_int_l0 rest0 = some r) : M_cmp_Or_int_l0 rest0 r := G_cmp_Or_int_l0 _ _ e _ rfl
theorem P_cmp_Or_int {a0 : (List Int)} {r : Int} (e : cmp_Or_int a0 = some r) : Pure Try.prog 80 [(.slice 1 (intDs_i64 a0))] (.int .i64 r) := by
 unfold cmp_Or_int at e
 refine pure_of_awp (js := []) T_ok Try.func80 rfl (by decide +kernel) rfl ?_; conv => whnf
 refine RunsL.runs (RunsL.weak ((P_cmp_Or_int_l0 e) a0 0 (by simp)) ?_)
 repeat' first | exact wk.of_eq rfl | exact wk.pure rfl | exact wk.un _ | exact wk.hold _ _ _ | exact wk.holdG _ _ _ | exact rfl | exact trivial | refine ⟨?_, ?_⟩ | (refine wk.of_eq ?_; (conv => lhs; whnf); (simp [intDs_i64_all, listAll] <;> (repeat' first | rfl | apply And.intro)); done) | (refine wk.pure ?_; (conv => lhs; whnf); (simp [intDs_i64_all, listAll] <;> (repeat' first | rfl | apply And.intro)); done) | ((simp [intDs_i64_all, listAll] <;> (repeat' first | rfl | apply And.intro)); done) | (simp [intDs_i64_all, listAll]; omega)
def M_slCF (a0 : (List Ty)) (a1 : (List Ty)) (r : Int) : Prop := Pure Try.prog 84 [(.slice 3 (Ty.Ds a0)), (.slice 3 (Ty.Ds a1)), (.func (.func 79) [] [])] (.int .i64 r)
def M_slCF_l0 (rest0 : (List Ty)) (k0 : Nat) (a0 : (List Ty)) (a1 : (List Ty)) (r : Int) : Prop := ∀ (hd0 : rest0 = a0.drop k0), LoopAt T Try.prog Try.f84 Fx0 [] [1, 0, 1, 0] (EP T Try.f84 (.int .i64 r)) [(0, .d (.slice 3 (Ty.Ds a0))), (1, .d (.slice 3 (Ty.Ds a1))), (2, .d (.func (.func 79) [] [])), (11, .d (.slice 3 (Ty.Ds a0))), (12, .d (.int .i64 ((Ty.Ds a0).length : Int))), (13, .d (.int .i64 (k0 : Int)))] [[]]
def M_types_Compare (a0 : Ty) (a1 : Ty) (r : Int) : Prop := Pure Try.prog 79 [(Ty.D a0), (Ty.D a1)] (.int .i64 r)
theorem G_slCF : (∀ p r, slCF' p = some r → ∀ a0 a1, (a0, a1) = p → M_slCF a0 a1 r) ∧
  (∀ p r, slCF_l0' p = some r → ∀ rest0 k0 a0 a1, (rest0, k0, a0, a1) = p → M_slCF_l0 rest0 k0 a0 a1 r) ∧
  (∀ p r, types_Compare' p = some r → ∀ a0 a1, (a0, a1) = p → M_types_Compare a0 a1 r) := by
 refine slCF'.mutual_partial_correctness (fun (p : ((List Ty) × (List Ty))) (r : Int) => ∀ (a0 : (List Ty)) (a1 : (List Ty)), (a0, a1) = p → M_slCF a0 a1 r) (fun (p : ((List Ty) × Nat × (List Ty) × (List Ty))) (r : Int) => ∀ (rest0 : (List Ty)) (k0 : Nat) (a0 : (List Ty)) (a1 : (List Ty)), (rest0, k0, a0, a1) = p → M_slCF_l0 rest0 k0 a0 a1 r) (fun (p : (Ty × Ty)) (r : Int) => ∀ (a0 : Ty) (a1 : Ty), (a0, a1) = p → M_types_Compare a0 a1 r) ?_ ?_ ?_
 ·intro f_slCF_l0 ih_slCF_l0 p r e a0 a1 hp
  subst hp
  refine pure_of_awp (js := []) T_ok Try.func84 rfl (by decide +kernel) rfl ?_; conv => whnf
  refine RunsL.runs (RunsL.weak ((ih_slCF_l0 _ _ e _ _ _ _ rfl) (by simp)) ?_)
  repeat' first | exact wk.of_eq rfl | exact wk.pure rfl | exact wk.un _ | exact wk.hold _ _ _ | exact wk.holdG _ _ _ | exact rfl | exact trivial | refine ⟨?_, ?_⟩ | (refine wk.of_eq ?_; (conv => lhs; whnf); (simp [Ty.Ds_all, Ty.D, listAll] <;> (repeat' first | rfl | apply And.intro)); done) | (refine wk.pure ?_; (conv => lhs; whnf); (simp [Ty.Ds_all, Ty.D, listAll] <;> (repeat' first | rfl | apply And.intro)); done) | ((simp [Ty.Ds_all, Ty.D, listAll] <;> (repeat' first | rfl | apply And.intro)); done) | (simp [Ty.Ds_all, Ty.D, listAll]; omega)
 ·intro f_slCF_l0 f_types_Compare ih_slCF_l0 ih_types_Compare p r e rest0 k0 a0 a1 hp
  subst hp
  intro hd0
  refine RunsL.len_tmp 0 rfl fun hlenk0 => ?_
  refine RunsL.of_awp (js := []) T_ok ?_; conv => whnf
  have hls := Ty.Ds_len a0
  cases rest0 with
  | nil =>
   have hk := drop_nil hd0
   refine ⟨⟨fun h => absurd h (by omega), fun _ => ?_⟩⟩; conv => whnf
   refine ⟨⟨fun h15 => ?_, fun h15 => ?_⟩⟩
   ·replace e := ifp (by first | exact h15 | omega | simpa [Ty.Ds_all, Ty.D, listAll] using h15) e; conv => whnf
    obtain rfl := sm e
    repeat' first | exact rfl | exact trivial | refine ⟨?_, ?_⟩
   ·replace e := ifn (by first | exact h15 | omega | simpa [Ty.Ds_all, Ty.D, listAll] using h15) e; conv => whnf
    obtain rfl := sm e
    repeat' first | exact rfl | exact trivial | refine ⟨?_, ?_⟩
  | cons v14 rest0 =>
   obtain ⟨hxv14, hd0, hltv14⟩ := drop_head hd0
   refine ⟨⟨fun _ => ?_, fun h => absurd (by omega) h⟩⟩; conv => whnf
   refine ⟨k0, _, rfl, Ty.Ds_get hxv14, ?_⟩; conv => whnf
   refine ⟨Ty.Ds_fit _ rfl rfl, ?_⟩; conv => whnf
   refine ⟨⟨fun h15 => ?_, fun h15 => ?_⟩⟩
   ·replace e := ifp (by first | exact h15 | omega | simpa [Ty.Ds_all, Ty.D, listAll] using h15) e; conv => whnf
    obtain rfl := sm e
    repeat' first | exact rfl | exact trivial | refine ⟨?_, ?_⟩
   ·replace e := ifn (by first | exact h15 | omega | simpa [Ty.Ds_all, Ty.D, listAll] using h15) e; conv => whnf
    obtain ⟨v16, qv16, e⟩ := bnd e
    obtain ⟨qv16k, qv16a, qv16b⟩ := geti_some qv16
    refine ⟨qv16k, _, qv16a, Ty.Ds_get qv16b, ?_⟩; conv => whnf
    refine ⟨Ty.Ds_fit _ rfl rfl, ?_⟩; conv => whnf
    obtain ⟨v17, qv17, e⟩ := bnd e
    refine said_pure (ih_types_Compare _ _ qv17 _ _ rfl) rfl ?_; conv => whnf
    refine ⟨⟨fun h18 => ?_, fun h18 => ?_⟩⟩
    ·replace e := ifp h18 e; conv => whnf
     obtain rfl := sm e
     repeat' first | exact rfl | exact trivial | refine ⟨?_, ?_⟩
    ·replace e := ifn h18 e; conv => whnf
     refine ⟨((k0 + 1 : Nat) : Int), wrap64e (by omega) (by omega) (by omega), ?_⟩; conv => whnf
     refine (RunsL.weak ((ih_slCF_l0 _ _ e _ _ _ _ rfl) hd0) ?_)
     repeat' first | exact wk.of_eq rfl | exact wk.pure rfl | exact wk.un _ | exact wk.hold _ _ _ | exact wk.holdG _ _ _ | exact rfl | exact trivial | refine ⟨?_, ?_⟩ | (refine wk.of_eq ?_; (conv => lhs; whnf); (simp [Ty.Ds_all, Ty.D, listAll] <;> (repeat' first | rfl | apply And.intro)); done) | (refine wk.pure ?_; (conv => lhs; whnf); (simp [Ty.Ds_all, Ty.D, listAll] <;> (repeat' first | rfl | apply And.intro)); done) | ((simp [Ty.Ds_all, Ty.D, listAll] <;> (repeat' first | rfl | apply And.intro)); done) | (simp [Ty.Ds_all, Ty.D, listAll]; omega)
 ·intro f_slCF ih_slCF p r e a0 a1 hp
  subst hp
  refine pure_of_awp (js := []) T_ok Try.func79 rfl (by decide +kernel) rfl ?_; conv => whnf
  refine draw_rule [] T_ok mixed types_Compare_pl1 (by decide +kernel) ?_; conv => whnf
  obtain ⟨v1, qv1, e⟩ := bnd e
  refine said_pure (P_types_rank qv1) rfl ⟨Keeps.refl _ _, ?_⟩; conv => whnf
  obtain ⟨v2, qv2, e⟩ := bnd e
  refine said_pure (P_types_rank qv2) rfl ⟨Keeps.refl _ _, ?_⟩; conv => whnf
  obtain ⟨v3, qv3, e⟩ := bnd e
  refine said_pure (P_cmp_Compare_int qv3) rfl ⟨Keeps.refl _ _, ?_⟩; conv => whnf
  obtain ⟨v4, qv4, e⟩ := bnd e
  refine said_pure (P_strings_Compare qv4) rfl ⟨Keeps.refl _ _, ?_⟩; conv => whnf
  obtain ⟨v5, qv5, e⟩ := bnd e
  first | (refine said_pure (P_cmp_Compare_int qv5) rfl ⟨Keeps.refl _ _, ?_⟩) | (refine said_pure2 (P_cmp_Compare_int qv5) rfl (by simp [Ty.Ds_all, intDs_i64_all, Ty.D, listAll] <;> (repeat' first | rfl | apply And.intro)) ⟨Keeps.refl _ _, ?_⟩)
  (conv => whnf)
  refine ⟨⟨⟨rfl, rfl⟩, ⟨⟨rfl, rfl⟩, ⟨⟨rfl, rfl⟩, trivial⟩⟩⟩, ?_⟩; conv => whnf
  obtain ⟨v6, qv6, e⟩ := bnd e
  first | (refine said_pure (P_cmp_Or_int qv6) rfl ⟨Keeps.refl _ _, ?_⟩) | (refine said_pure2 (P_cmp_Or_int qv6) rfl (by simp [Ty.Ds_all, intDs_i64_all, Ty.D, listAll] <;> (repeat' first | rfl | apply And.intro)) ⟨Keeps.refl _ _, ?_⟩)
  (conv => whnf)
  refine ⟨⟨fun h7 => ?_, fun h7 => ?_⟩⟩
  ·replace e := ifp h7 e; conv => whnf
   obtain rfl := sm e
   repeat' first | exact rfl | exact trivial | refine ⟨?_, ?_⟩
  ·replace e := ifn h7 e; conv => whnf
   obtain ⟨v8, qv8, e⟩ := bnd e
   refine said_pure (ih_slCF _ _ qv8 _ _ rfl) rfl ?_; conv => whnf
   obtain rfl := sm e
   repeat' first | exact rfl | exact trivial | refine ⟨?_, ?_⟩
theorem P_types_Compare {a0 : Ty} {a1 : Ty} {r : Int} (e : types_Compare a0 a1 = some r) : M_types_Compare a0 a1 r := G_slCF.2.2 _ _ e _ _ rfl
theorem P_types_Same {a0 : Ty} {a1 : Ty} {r : Bool} (e : types_Same a0 a1 = some r) : Pure Try.prog 74 [(Ty.D a0), (Ty.D a1)] (.bool r) := by
 unfold types_Same at e
 refine pure_of_awp (js := []) T_ok Try.func74 rfl (by decide +kernel) rfl ?_; conv => whnf
 obtain ⟨v1, qv1, e⟩ := bnd e
 refine said_pure (P_types_Compare qv1) rfl ?_; conv => whnf
 refine test.dec ?_; conv => whnf
 obtain rfl := sm e
 repeat' first | exact rfl | exact trivial | refine ⟨?_, ?_⟩
theorem P_terms_formed_j0 {a0 : Tm} {v16 : (Ty × Bool)} {r : (Ty × Bool)} (e : terms_formed_j0 a0 v16 = some r) : (∀ (v15 : (List Ty)), JoinAt T Try.prog Try.f58 Fx0 [21] [1, 0, 1, 0, 1, 1, 1, 1, 1, 1, 1, 0, 1, 1, 0, 0] (EP T Try.f58 (.tuple [(Ty.D r.1), (.bool r.2)])) [(2, .ptr 0 0 0), (4, .ptr 0 1 0), (10, .ptr 0 3 0), (11, .d (.bool v16.2))] [[.cells [.d (.int .u8 a0.kind), .d (.str a0.name), .d (.bool a0.ty.v), .d (.str a0.ty.name), .d (.slice 3 (Ty.Ds a0.ty.args)), .d (.int .i64 a0.index), .d (.slice 7 (Tm.Ds a0.sub))], .cells [.d (.bool false), .d (.str ByteArray.empty), .nil 3], .grow 3 (Ty.Ds v15).length, .cells [.d (.bool v16.1.v), .d (.str v16.1.name), .d (.slice 3 (Ty.Ds v16.1.args))]]]) ∧ (JoinAt T Try.prog Try.f58 Fx0 [21] [1, 0, 1, 0, 1, 1, 1, 1, 1, 1, 1, 0, 1, 1, 0, 0] (EP T Try.f58 (.tuple [(Ty.D r.1), (.bool r.2)])) [(2, .ptr 0 0 0), (4, .ptr 0 1 0), (10, .ptr 0 2 0), (11, .d (.bool v16.2))] [[.cells [.d (.int .u8 a0.kind), .d (.str a0.name), .d (.bool a0.ty.v), .d (.str a0.ty.name), .d (.slice 3 (Ty.Ds a0.ty.args)), .d (.int .i64 a0.index), .d (.slice 7 (Tm.Ds a0.sub))], .cells [.d (.bool false), .d (.str ByteArray.empty), .nil 3], .cells [.d (.bool v16.1.v), .d (.str v16.1.name), .d (.slice 3 (Ty.Ds v16.1.args))]]]) := by
 unfold terms_formed_j0 at e
 refine ⟨?_, ?_⟩
 ·intro v15
  refine Runs.enter T_ok ?_; conv => whnf
  refine brK.nsplit (fun hb17 => ?_) (fun hb17 => ?_)
  ·replace e := ifpb hb17 e; conv => whnf
   refine ⟨⟨⟨rfl, rfl⟩, ⟨⟨rfl, rfl⟩, trivial⟩⟩, ?_⟩; conv => whnf
   refine draw_rule [] T_ok mixed terms_formed_pl24 (by decide +kernel) ?_; conv => whnf
   obtain ⟨v18, qv18, e⟩ := bnd e
   first | (refine said_pure (P_types_Check qv18) rfl ⟨Keeps.refl _ _, ?_⟩) | (refine said_pure2 (P_types_Check qv18) rfl (by simp [Tm.Ds_all, Ty.Ds_all, Tm.D, Ty.D, listAll] <;> (repeat' first | rfl | apply And.intro)) ⟨Keeps.refl _ _, ?_⟩)
   (conv => whnf)
   refine test.dec ?_; conv => whnf
   obtain rfl := sm e
   repeat' first | exact rfl | exact trivial | refine ⟨_, rfl, ?_, ?_⟩ | refine ⟨?_, ?_⟩ | (simp [Tm.Ds_all, Ty.Ds_all, Tm.D, Ty.D, listAll] <;> (repeat' first | rfl | apply And.intro))
  ·replace e := ifnb hb17 e; conv => whnf
   obtain rfl := sm e
   repeat' first | exact rfl | exact trivial | refine ⟨?_, ?_⟩
 ·refine Runs.enter T_ok ?_; conv => whnf
  refine brK.nsplit (fun hb17 => ?_) (fun hb17 => ?_)
  ·replace e := ifpb hb17 e; conv => whnf
   refine ⟨⟨⟨rfl, rfl⟩, ⟨⟨rfl, rfl⟩, trivial⟩⟩, ?_⟩; conv => whnf
   refine draw_rule [] T_ok mixed terms_formed_pl24 (by decide +kernel) ?_; conv => whnf
   obtain ⟨v18, qv18, e⟩ := bnd e
   first | (refine said_pure (P_types_Check qv18) rfl ⟨Keeps.refl _ _, ?_⟩) | (refine said_pure2 (P_types_Check qv18) rfl (by simp [Tm.Ds_all, Ty.Ds_all, Tm.D, Ty.D, listAll] <;> (repeat' first | rfl | apply And.intro)) ⟨Keeps.refl _ _, ?_⟩)
   (conv => whnf)
   refine test.dec ?_; conv => whnf
   obtain rfl := sm e
   repeat' first | exact rfl | exact trivial | refine ⟨_, rfl, ?_, ?_⟩ | refine ⟨?_, ?_⟩ | (simp [Tm.Ds_all, Ty.Ds_all, Tm.D, Ty.D, listAll] <;> (repeat' first | rfl | apply And.intro))
  ·replace e := ifnb hb17 e; conv => whnf
   obtain rfl := sm e
   repeat' first | exact rfl | exact trivial | refine ⟨?_, ?_⟩
end Go.Proofs.Ytemfpemejagndaa.Fw


set_option maxHeartbeats 4000000
namespace Go.Proofs.Ytemfpemejagndaa.Fw
open Go Go.Proofs Go.RowKit
def M_terms_formed (a0 : Tm) (a1 : (List Ty)) (r : (Ty × Bool)) : Prop := Pure Try.prog 58 [(Tm.D a0), (.slice 3 (Ty.Ds a1))] (.tuple [(Ty.D r.1), (.bool r.2)])
theorem G_terms_formed : (∀ p r, terms_formed' p = some r → ∀ a0 a1, (a0, a1) = p → M_terms_formed a0 a1 r) := by
 refine terms_formed'.partial_correctness (fun (p : (Tm × (List Ty))) (r : (Ty × Bool)) => ∀ (a0 : Tm) (a1 : (List Ty)), (a0, a1) = p → M_terms_formed a0 a1 r) ?_
 ·intro f_terms_formed ih_terms_formed p r e a0 a1 hp
  subst hp
  refine pure_of_awp (js := [21]) T_ok Try.func58 rfl (by decide +kernel) rfl ?_; conv => whnf
  refine ⟨⟨fun h1 => ?_, fun h1 => ?_⟩⟩
  ·replace e := ifp h1 e; conv => whnf
   refine draw_rule [] T_ok mixed terms_formed_pl4 (by decide +kernel) ?_; conv => whnf
   obtain ⟨v2, qv2, e⟩ := bnd e
   refine said_pure (P_terms_plain qv2) rfl ⟨Keeps.refl _ _, ?_⟩; conv => whnf
   refine brK.split (fun hb3 => ?_) (fun hb3 => ?_)
   ·replace e := ifpb hb3 e; conv => whnf
    refine brK.tt hb3 ?_; conv => whnf
    refine brK.tt hb3 ?_; conv => whnf
    obtain ⟨v4, qv4, e⟩ := bnd e
    refine said_pure (P_terms_named qv4) rfl ⟨Keeps.refl _ _, ?_⟩; conv => whnf
    refine brK.tt hb3 ?_; conv => whnf
    refine brK.split (fun hb5 => ?_) (fun hb5 => ?_)
    ·replace e := ifpb hb5 e; conv => whnf
     refine brK.tt hb5 ?_; conv => whnf
     refine brK.tt hb5 ?_; conv => whnf
     refine brK.tt hb5 ?_; conv => whnf
     refine ⟨⟨fun h6 => ?_, fun h6 => ?_⟩⟩
     ·replace e := ifp (by first | exact h6 | omega | simpa [Tm.Ds_all, Ty.Ds_all, Tm.D, Ty.D, listAll] using h6) e; conv => whnf
      refine brK.tt hb5 ?_; conv => whnf
      obtain ⟨v7, qv7, e⟩ := bnd e
      refine said_pure (P_types_Check qv7) rfl ⟨Keeps.refl _ _, ?_⟩; conv => whnf
      refine test.dec ?_; conv => whnf
      obtain rfl := sm e
      repeat' first | exact rfl | exact trivial | refine ⟨?_, ?_⟩
     ·replace e := ifn (by first | exact h6 | omega | simpa [Tm.Ds_all, Ty.Ds_all, Tm.D, Ty.D, listAll] using h6) e; conv => whnf
      refine brK.tt hb5 ?_; conv => whnf
      obtain rfl := sm e
      repeat' first | exact rfl | exact trivial | refine ⟨?_, ?_⟩
    ·replace e := ifnb hb5 e; conv => whnf
     refine brK.ff hb5 ?_; conv => whnf
     refine brK.ff hb5 ?_; conv => whnf
     refine brK.ff hb5 ?_; conv => whnf
     refine brK.ff hb5 ?_; conv => whnf
     obtain rfl := sm e
     repeat' first | exact rfl | exact trivial | refine ⟨?_, ?_⟩
   ·replace e := ifnb hb3 e; conv => whnf
    refine brK.ff hb3 ?_; conv => whnf
    refine brK.ff hb3 ?_; conv => whnf
    refine brK.ff hb3 ?_; conv => whnf
    obtain rfl := sm e
    repeat' first | exact rfl | exact trivial | refine ⟨?_, ?_⟩
  ·replace e := ifn h1 e; conv => whnf
   refine ⟨⟨fun h2 => ?_, fun h2 => ?_⟩⟩
   ·replace e := ifp h2 e; conv => whnf
    refine draw_rule [] T_ok mixed terms_formed_pl4 (by decide +kernel) ?_; conv => whnf
    obtain ⟨v3, qv3, e⟩ := bnd e
    refine said_pure (P_terms_plain qv3) rfl ⟨Keeps.refl _ _, ?_⟩; conv => whnf
    refine brK.split (fun hb4 => ?_) (fun hb4 => ?_)
    ·replace e := ifpb hb4 e; conv => whnf
     refine brK.tt hb4 ?_; conv => whnf
     refine brK.tt hb4 ?_; conv => whnf
     obtain ⟨v5, qv5, e⟩ := bnd e
     refine said_pure (P_terms_named qv5) rfl ⟨Keeps.refl _ _, ?_⟩; conv => whnf
     refine brK.tt hb4 ?_; conv => whnf
     refine brK.split (fun hb6 => ?_) (fun hb6 => ?_)
     ·replace e := ifpb hb6 e; conv => whnf
      refine brK.tt hb6 ?_; conv => whnf
      refine brK.tt hb6 ?_; conv => whnf
      refine brK.tt hb6 ?_; conv => whnf
      refine ⟨⟨fun h7 => ?_, fun h7 => ?_⟩⟩
      ·replace e := ifp (by first | exact h7 | omega | simpa [Tm.Ds_all, Ty.Ds_all, Tm.D, Ty.D, listAll] using h7) e; conv => whnf
       refine brK.tt hb6 ?_; conv => whnf
       obtain ⟨v8, qv8, e⟩ := bnd e
       refine said_pure (P_types_Check qv8) rfl ⟨Keeps.refl _ _, ?_⟩; conv => whnf
       refine test.dec ?_; conv => whnf
       obtain rfl := sm e
       repeat' first | exact rfl | exact trivial | refine ⟨?_, ?_⟩
      ·replace e := ifn (by first | exact h7 | omega | simpa [Tm.Ds_all, Ty.Ds_all, Tm.D, Ty.D, listAll] using h7) e; conv => whnf
       refine brK.tt hb6 ?_; conv => whnf
       obtain rfl := sm e
       repeat' first | exact rfl | exact trivial | refine ⟨?_, ?_⟩
     ·replace e := ifnb hb6 e; conv => whnf
      refine brK.ff hb6 ?_; conv => whnf
      refine brK.ff hb6 ?_; conv => whnf
      refine brK.ff hb6 ?_; conv => whnf
      refine brK.ff hb6 ?_; conv => whnf
      obtain rfl := sm e
      repeat' first | exact rfl | exact trivial | refine ⟨?_, ?_⟩
    ·replace e := ifnb hb4 e; conv => whnf
     refine brK.ff hb4 ?_; conv => whnf
     refine brK.ff hb4 ?_; conv => whnf
     refine brK.ff hb4 ?_; conv => whnf
     obtain rfl := sm e
     repeat' first | exact rfl | exact trivial | refine ⟨?_, ?_⟩
   ·replace e := ifn h2 e; conv => whnf
    refine ⟨⟨fun h3 => ?_, fun h3 => ?_⟩⟩
    ·replace e := ifp h3 e; conv => whnf
     obtain ⟨v4, qv4, e⟩ := bnd e
     refine said_pure (P_terms_plain qv4) rfl ?_; conv => whnf
     refine brK.nsplit (fun hb5 => ?_) (fun hb5 => ?_)
     ·replace e := ifpb hb5 e; conv => whnf
      refine brK.ntt hb5 ?_; conv => whnf
      refine brK.ntt hb5 ?_; conv => whnf
      refine brK.ntt hb5 ?_; conv => whnf
      refine ⟨⟨fun h6 => ?_, fun h6 => ?_⟩⟩
      ·replace e := ifp (by first | exact h6 | omega | simpa [Tm.Ds_all, Ty.Ds_all, Tm.D, Ty.D, listAll] using h6) e; conv => whnf
       refine brK.ntt hb5 ?_; conv => whnf
       obtain rfl := sm e
       repeat' first | exact rfl | exact trivial | refine ⟨?_, ?_⟩
      ·replace e := ifn (by first | exact h6 | omega | simpa [Tm.Ds_all, Ty.Ds_all, Tm.D, Ty.D, listAll] using h6) e; conv => whnf
       refine brK.ntt hb5 ?_; conv => whnf
       refine ⟨⟨fun h7 => ?_, fun h7 => ?_⟩⟩
       ·replace e := ifp h7 e; conv => whnf
        obtain rfl := sm e
        repeat' first | exact rfl | exact trivial | refine ⟨?_, ?_⟩
       ·replace e := ifn h7 e; conv => whnf
        refine ⟨⟨fun h8 => ?_, fun h8 => ?_⟩⟩
        ·replace e := ifp (by first | exact h8 | omega | simpa [Tm.Ds_all, Ty.Ds_all, Tm.D, Ty.D, listAll] using h8) e; conv => whnf
         obtain rfl := sm e
         repeat' first | exact rfl | exact trivial | refine ⟨?_, ?_⟩
        ·replace e := ifn (by first | exact h8 | omega | simpa [Tm.Ds_all, Ty.Ds_all, Tm.D, Ty.D, listAll] using h8) e; conv => whnf
         obtain ⟨v9, qv9, e⟩ := bnd e
         refine ⟨v9, (by have := sm qv9; first | exact this | simpa [Tm.Ds_all, Ty.Ds_all, Tm.D, Ty.D, listAll] using this), ?_⟩; conv => whnf
         obtain ⟨v10, qv10, e⟩ := bnd e
         refine ⟨v10, sm qv10, ?_⟩; conv => whnf
         obtain ⟨v11, qv11, e⟩ := bnd e
         obtain ⟨qv11k, qv11a, qv11b⟩ := geti_some qv11
         refine ⟨qv11k, _, qv11a, Ty.Ds_get qv11b, ?_⟩; conv => whnf
         refine ⟨Ty.Ds_fit _ rfl rfl, ?_⟩; conv => whnf
         obtain rfl := sm e
         repeat' first | exact rfl | exact trivial | refine ⟨?_, ?_⟩
     ·replace e := ifnb hb5 e; conv => whnf
      refine brK.nff hb5 ?_; conv => whnf
      refine brK.nff hb5 ?_; conv => whnf
      refine brK.nff hb5 ?_; conv => whnf
      refine brK.nff hb5 ?_; conv => whnf
      obtain rfl := sm e
      repeat' first | exact rfl | exact trivial | refine ⟨?_, ?_⟩
    ·replace e := ifn h3 e; conv => whnf
     refine ⟨⟨fun h4 => ?_, fun h4 => ?_⟩⟩
     ·replace e := ifp h4 e; conv => whnf
      obtain ⟨v5, qv5, e⟩ := bnd e
      refine said_pure (P_terms_plain qv5) rfl ?_; conv => whnf
      refine brK.nsplit (fun hb6 => ?_) (fun hb6 => ?_)
      ·replace e := ifpb hb6 e; conv => whnf
       refine brK.ntt hb6 ?_; conv => whnf
       refine brK.ntt hb6 ?_; conv => whnf
       refine brK.ntt hb6 ?_; conv => whnf
       refine ⟨⟨fun h7 => ?_, fun h7 => ?_⟩⟩
       ·replace e := ifp (by first | exact h7 | omega | simpa [Tm.Ds_all, Ty.Ds_all, Tm.D, Ty.D, listAll] using h7) e; conv => whnf
        refine brK.ntt hb6 ?_; conv => whnf
        obtain rfl := sm e
        repeat' first | exact rfl | exact trivial | refine ⟨?_, ?_⟩
       ·replace e := ifn (by first | exact h7 | omega | simpa [Tm.Ds_all, Ty.Ds_all, Tm.D, Ty.D, listAll] using h7) e; conv => whnf
        refine brK.ntt hb6 ?_; conv => whnf
        obtain ⟨v8, qv8, e⟩ := bnd e
        obtain ⟨qv8k, qv8a, qv8b⟩ := geti_some qv8
        refine ⟨qv8k, _, qv8a, Tm.Ds_get qv8b, ?_⟩; conv => whnf
        refine ⟨Tm.Ds_fit _ rfl rfl, ?_⟩; conv => whnf
        obtain ⟨v9, qv9, e⟩ := bnd e
        refine said_pure (ih_terms_formed _ _ qv9 _ _ rfl) rfl ?_; conv => whnf
        obtain ⟨v10, qv10, e⟩ := bnd e
        obtain ⟨qv10k, qv10a, qv10b⟩ := geti_some qv10
        refine ⟨qv10k, _, qv10a, Tm.Ds_get qv10b, ?_⟩; conv => whnf
        refine ⟨Tm.Ds_fit _ rfl rfl, ?_⟩; conv => whnf
        obtain ⟨v11, qv11, e⟩ := bnd e
        refine said_pure (ih_terms_formed _ _ qv11 _ _ rfl) rfl ?_; conv => whnf
        refine draw_rule [] T_ok mixed terms_formed_pl14 (by decide +kernel) ?_; conv => whnf
        refine brK.nsplit (fun hb12 => ?_) (fun hb12 => ?_)
        ·replace e := ifpb hb12 e; conv => whnf
         refine brK.ntt hb12 ?_; conv => whnf
         refine brK.ntt hb12 ?_; conv => whnf
         refine brK.nsplit (fun hb13 => ?_) (fun hb13 => ?_)
         ·replace e := ifpb hb13 e; conv => whnf
          refine brK.ntt hb13 ?_; conv => whnf
          refine brK.ntt hb13 ?_; conv => whnf
          refine brK.split (fun hb14 => ?_) (fun hb14 => ?_)
          ·replace e := ifpb hb14 e; conv => whnf
           refine brK.tt hb14 ?_; conv => whnf
           refine brK.tt hb14 ?_; conv => whnf
           refine brK.tt hb14 ?_; conv => whnf
           obtain rfl := sm e
           repeat' first | exact rfl | exact trivial | refine ⟨?_, ?_⟩
          ·replace e := ifnb hb14 e; conv => whnf
           refine brK.ff hb14 ?_; conv => whnf
           refine brK.ff hb14 ?_; conv => whnf
           refine ⟨⟨fun h15 => ?_, fun h15 => ?_⟩⟩
           ·replace e := ifp h15 e; conv => whnf
            refine brK.ff hb14 ?_; conv => whnf
            obtain rfl := sm e
            repeat' first | exact rfl | exact trivial | refine ⟨?_, ?_⟩
           ·replace e := ifn h15 e; conv => whnf
            refine brK.ff hb14 ?_; conv => whnf
            refine ⟨⟨fun h16 => ?_, fun h16 => ?_⟩⟩
            ·replace e := ifp (by first | exact h16 | omega | simpa [Tm.Ds_all, Ty.Ds_all, Tm.D, Ty.D, listAll] using h16) e; conv => whnf
             obtain rfl := sm e
             repeat' first | exact rfl | exact trivial | refine ⟨?_, ?_⟩
            ·replace e := ifn (by first | exact h16 | omega | simpa [Tm.Ds_all, Ty.Ds_all, Tm.D, Ty.D, listAll] using h16) e; conv => whnf
             obtain ⟨v17, qv17, e⟩ := bnd e
             obtain ⟨qv17k, qv17a, qv17b⟩ := geti_some qv17
             refine ⟨qv17k, _, qv17a, Ty.Ds_get qv17b, ?_⟩; conv => whnf
             refine ⟨Ty.Ds_fit _ rfl rfl, ?_⟩; conv => whnf
             obtain ⟨v18, qv18, e⟩ := bnd e
             refine said_pure (P_types_Same qv18) rfl ⟨Keeps.refl _ _, ?_⟩; conv => whnf
             refine brK.nsplit (fun hb19 => ?_) (fun hb19 => ?_)
             ·replace e := ifpb hb19 e; conv => whnf
              obtain ⟨v20, qv20, e⟩ := bnd e
              obtain ⟨qv20k, qv20a, qv20b⟩ := geti_some qv20
              refine ⟨qv20k, _, qv20a, Ty.Ds_get qv20b, ?_⟩; conv => whnf
              refine ⟨Ty.Ds_fit _ rfl rfl, ?_⟩; conv => whnf
              obtain rfl := sm e
              repeat' first | exact rfl | exact trivial | refine ⟨?_, ?_⟩
             ·replace e := ifnb hb19 e; conv => whnf
              obtain rfl := sm e
              repeat' first | exact rfl | exact trivial | refine ⟨?_, ?_⟩
         ·replace e := ifnb hb13 e; conv => whnf
          refine brK.nff hb13 ?_; conv => whnf
          refine brK.nff hb13 ?_; conv => whnf
          obtain rfl := sm e
          repeat' first | exact rfl | exact trivial | refine ⟨?_, ?_⟩
        ·replace e := ifnb hb12 e; conv => whnf
         refine brK.nff hb12 ?_; conv => whnf
         refine brK.nff hb12 ?_; conv => whnf
         obtain rfl := sm e
         repeat' first | exact rfl | exact trivial | refine ⟨?_, ?_⟩
      ·replace e := ifnb hb6 e; conv => whnf
       refine brK.nff hb6 ?_; conv => whnf
       refine brK.nff hb6 ?_; conv => whnf
       refine brK.nff hb6 ?_; conv => whnf
       refine brK.nff hb6 ?_; conv => whnf
       obtain rfl := sm e
       repeat' first | exact rfl | exact trivial | refine ⟨?_, ?_⟩
     ·replace e := ifn h4 e; conv => whnf
      refine ⟨⟨fun h5 => ?_, fun h5 => ?_⟩⟩
      ·replace e := ifp h5 e; conv => whnf
       obtain ⟨v6, qv6, e⟩ := bnd e
       refine said_pure (P_terms_plain qv6) rfl ?_; conv => whnf
       refine brK.nsplit (fun hb7 => ?_) (fun hb7 => ?_)
       ·replace e := ifpb hb7 e; conv => whnf
        refine brK.ntt hb7 ?_; conv => whnf
        refine brK.ntt hb7 ?_; conv => whnf
        refine brK.ntt hb7 ?_; conv => whnf
        refine ⟨⟨fun h8 => ?_, fun h8 => ?_⟩⟩
        ·replace e := ifp (by first | exact h8 | omega | simpa [Tm.Ds_all, Ty.Ds_all, Tm.D, Ty.D, listAll] using h8) e; conv => whnf
         refine brK.ntt hb7 ?_; conv => whnf
         obtain rfl := sm e
         repeat' first | exact rfl | exact trivial | refine ⟨?_, ?_⟩
        ·replace e := ifn (by first | exact h8 | omega | simpa [Tm.Ds_all, Ty.Ds_all, Tm.D, Ty.D, listAll] using h8) e; conv => whnf
         refine brK.ntt hb7 ?_; conv => whnf
         obtain ⟨v9, qv9, e⟩ := bnd e
         refine said_pure (P_terms_named qv9) rfl ?_; conv => whnf
         refine brK.nsplit (fun hb10 => ?_) (fun hb10 => ?_)
         ·replace e := ifpb hb10 e; conv => whnf
          refine brK.ntt hb10 ?_; conv => whnf
          refine brK.ntt hb10 ?_; conv => whnf
          obtain ⟨v11, qv11, e⟩ := bnd e
          refine said_pure (P_types_Check qv11) rfl ?_; conv => whnf
          refine brK.ntt hb10 ?_; conv => whnf
          refine ⟨⟨fun h12 => ?_, fun h12 => ?_⟩⟩
          ·replace e := ifp h12 e; conv => whnf
           refine brK.ntt hb10 ?_; conv => whnf
           obtain rfl := sm e
           repeat' first | exact rfl | exact trivial | refine ⟨?_, ?_⟩
          ·replace e := ifn h12 e; conv => whnf
           refine brK.ntt hb10 ?_; conv => whnf
           refine draw_rule [] T_ok mixed terms_formed_pl20 (by decide +kernel) ?_; conv => whnf
           obtain ⟨v13, qv13, e⟩ := bnd e
           obtain ⟨qv13k, qv13a, qv13b⟩ := geti_some qv13
           refine ⟨qv13k, _, qv13a, Tm.Ds_get qv13b, ?_⟩; conv => whnf
           refine ⟨Tm.Ds_fit _ rfl rfl, ?_⟩; conv => whnf
           obtain ⟨v14, qv14, e⟩ := bnd e
           obtain ⟨qv14l, qv14h, qv14a, qv14b, qv14c, qv14d, qv14e⟩ := cut_some qv14
           refine ⟨qv14l, qv14h, (by show _ = _; omega), (by first | exact congrArg (fun z => AV.d (D.int .i64 z)) qv14b | exact congrArg (fun z => AV.d (D.int .i64 z)) (by simpa [Tm.Ds_all, Ty.Ds_all, Tm.D, Ty.D, listAll] using qv14b)), qv14c, (by first | exact qv14d | simpa [Tm.Ds_all, Ty.Ds_all, Tm.D, Ty.D, listAll] using qv14d), (congrArg (fun z => AV.d (D.int .i64 z)) qv14b), (congrArg (fun z => some (AV.d (D.int .i64 z))) qv14b), ?_⟩; rw [Ty.Ds_cut, ← qv14e]; conv => whnf
           refine ⟨⟨⟨rfl, rfl⟩, trivial⟩, ?_⟩; conv => whnf
           obtain ⟨v15, qv15, e⟩ := bnd e
           obtain ⟨v16, qv16, e⟩ := bnd e
           refine ⟨?_, ?_⟩
           ·(conv => whnf)
            obtain ⟨qv15l, qv15e⟩ := app_some qv15
            refine ⟨(by first | exact qv15l | simpa [Tm.Ds_all, Ty.Ds_all, Tm.D, Ty.D, listAll] using qv15l), rfl, fun h => (by first | cases h | simp at h), fun _ => ?_⟩; conv => whnf
            refine ⟨?_, ?_⟩
            ·(conv => whnf)
             first | (refine said_pure (ih_terms_formed _ _ qv16 _ _ rfl) rfl ⟨Keeps.refl _ _, ?_⟩) | (refine said_pure2 (ih_terms_formed _ _ qv16 _ _ rfl) rfl (by simp [Tm.Ds_all, Ty.Ds_all, Tm.D, Ty.D, listAll, qv15e] <;> (repeat' first | rfl | apply And.intro)) ⟨Keeps.refl _ _, ?_⟩)
             (conv => whnf)
             refine Runs.weak ((P_terms_formed_j0 e).1 v15) ?_
             repeat' first | exact wk.of_eq rfl | exact wk.pure rfl | exact wk.un _ | exact wk.hold _ _ _ | exact wk.holdG _ _ _ | exact rfl | exact trivial | refine ⟨?_, ?_⟩ | (refine wk.of_eq ?_; (conv => lhs; whnf); (simp [Tm.Ds_all, Ty.Ds_all, Tm.D, Ty.D, listAll, qv15e] <;> (repeat' first | rfl | apply And.intro)); done) | (refine wk.pure ?_; (conv => lhs; whnf); (simp [Tm.Ds_all, Ty.Ds_all, Tm.D, Ty.D, listAll, qv15e] <;> (repeat' first | rfl | apply And.intro)); done) | ((simp [Tm.Ds_all, Ty.Ds_all, Tm.D, Ty.D, listAll, qv15e] <;> (repeat' first | rfl | apply And.intro)); done) | (simp [Tm.Ds_all, Ty.Ds_all, Tm.D, Ty.D, listAll, qv15e]; omega)
            ·(conv => whnf)
             first | (refine said_pure (ih_terms_formed _ _ qv16 _ _ rfl) rfl ⟨Keeps.refl _ _, ?_⟩) | (refine said_pure2 (ih_terms_formed _ _ qv16 _ _ rfl) rfl (by simp [Tm.Ds_all, Ty.Ds_all, Tm.D, Ty.D, listAll, qv15e] <;> (repeat' first | rfl | apply And.intro)) ⟨Keeps.refl _ _, ?_⟩)
             (conv => whnf)
             refine Runs.weak ((P_terms_formed_j0 e).1 v15) ?_
             repeat' first | exact wk.of_eq rfl | exact wk.pure rfl | exact wk.un _ | exact wk.hold _ _ _ | exact wk.holdG _ _ _ | exact rfl | exact trivial | refine ⟨?_, ?_⟩ | (refine wk.of_eq ?_; (conv => lhs; whnf); (simp [Tm.Ds_all, Ty.Ds_all, Tm.D, Ty.D, listAll, qv15e] <;> (repeat' first | rfl | apply And.intro)); done) | (refine wk.pure ?_; (conv => lhs; whnf); (simp [Tm.Ds_all, Ty.Ds_all, Tm.D, Ty.D, listAll, qv15e] <;> (repeat' first | rfl | apply And.intro)); done) | ((simp [Tm.Ds_all, Ty.Ds_all, Tm.D, Ty.D, listAll, qv15e] <;> (repeat' first | rfl | apply And.intro)); done) | (simp [Tm.Ds_all, Ty.Ds_all, Tm.D, Ty.D, listAll, qv15e]; omega)
           ·(conv => whnf)
            obtain ⟨qv15l, qv15e⟩ := app_some qv15
            refine ⟨(by first | exact qv15l | simpa [Tm.Ds_all, Ty.Ds_all, Tm.D, Ty.D, listAll] using qv15l), rfl, fun h => (by first | cases h | simp at h), fun _ => ?_⟩; conv => whnf
            first | (refine said_pure (ih_terms_formed _ _ qv16 _ _ rfl) rfl ⟨Keeps.refl _ _, ?_⟩) | (refine said_pure2 (ih_terms_formed _ _ qv16 _ _ rfl) rfl (by simp [Tm.Ds_all, Ty.Ds_all, Tm.D, Ty.D, listAll, qv15e] <;> (repeat' first | rfl | apply And.intro)) ⟨Keeps.refl _ _, ?_⟩)
            (conv => whnf)
            refine Runs.weak (P_terms_formed_j0 e).2 ?_
            repeat' first | exact wk.of_eq rfl | exact wk.pure rfl | exact wk.un _ | exact wk.hold _ _ _ | exact wk.holdG _ _ _ | exact rfl | exact trivial | refine ⟨?_, ?_⟩
         ·replace e := ifnb hb10 e; conv => whnf
          refine brK.nff hb10 ?_; conv => whnf
          refine brK.nff hb10 ?_; conv => whnf
          refine brK.nff hb10 ?_; conv => whnf
          refine brK.nff hb10 ?_; conv => whnf
          obtain rfl := sm e
          repeat' first | exact rfl | exact trivial | refine ⟨?_, ?_⟩
       ·replace e := ifnb hb7 e; conv => whnf
        refine brK.nff hb7 ?_; conv => whnf
        refine brK.nff hb7 ?_; conv => whnf
        refine brK.nff hb7 ?_; conv => whnf
        refine brK.nff hb7 ?_; conv => whnf
        obtain rfl := sm e
        repeat' first | exact rfl | exact trivial | refine ⟨?_, ?_⟩
      ·replace e := ifn h5 e; conv => whnf
       obtain rfl := sm e
       repeat' first | exact rfl | exact trivial | refine ⟨?_, ?_⟩
theorem P_terms_formed {a0 : Tm} {a1 : (List Ty)} {r : (Ty × Bool)} (e : terms_formed a0 a1 = some r) : M_terms_formed a0 a1 r := G_terms_formed _ _ e _ _ rfl
theorem P_terms_typed {a0 : Tm} {r : (Ty × Int)} (e : terms_typed a0 = some r) : Pure Try.prog 43 [(Tm.D a0)] (.tuple [(Ty.D r.1), (.int .i64 r.2)]) := by
 unfold terms_typed at e
 refine pure_of_awp (js := []) T_ok Try.func43 rfl (by decide +kernel) rfl ?_; conv => whnf
 obtain ⟨v1, qv1, e⟩ := bnd e
 refine said_pure (P_terms_great qv1) rfl ?_; conv => whnf
 refine brK.split (fun hb2 => ?_) (fun hb2 => ?_)
 ·replace e := ifpb hb2 e; conv => whnf
  obtain rfl := sm e
  repeat' first | exact rfl | exact trivial | refine ⟨?_, ?_⟩
 ·replace e := ifnb hb2 e; conv => whnf
  obtain ⟨v3, qv3, e⟩ := bnd e
  refine said_pure (P_terms_formed qv3) rfl ?_; conv => whnf
  refine brK.nsplit (fun hb4 => ?_) (fun hb4 => ?_)
  ·replace e := ifpb hb4 e; conv => whnf
   obtain rfl := sm e
   repeat' first | exact rfl | exact trivial | refine ⟨?_, ?_⟩
  ·replace e := ifnb hb4 e; conv => whnf
   obtain rfl := sm e
   repeat' first | exact rfl | exact trivial | refine ⟨?_, ?_⟩
theorem P_terms_Check {a0 : Tm} {r : Int} (e : terms_Check a0 = some r) : Pure Try.prog 28 [(Tm.D a0)] (.int .i64 r) := by
 unfold terms_Check at e
 refine pure_of_awp (js := []) T_ok Try.func28 rfl (by decide +kernel) rfl ?_; conv => whnf
 obtain ⟨v1, qv1, e⟩ := bnd e
 refine said_pure (P_terms_typed qv1) rfl ?_; conv => whnf
 obtain rfl := sm e
 repeat' first | exact rfl | exact trivial | refine ⟨?_, ?_⟩
theorem P_hx_addType_o_io_j1 {t9_2 : Int} {t10_2 : Bool} {a1 : Ty} {c0_0_0 : (List YN)} {c0_1_0 : (List XN)} {c6_2_0 : (List Int)} {m3_0 : (List (HTK × Int))} {m4_0 : (List (HMK × Int))} {v20 : HTK} {r : (Int × (List YN) × (List XN) × (List (HTK × Int)) × (List (HMK × Int)))} (e : hx_addType_o_io_j1 t9_2 t10_2 a1 c0_0_0 c0_1_0 c6_2_0 m3_0 m4_0 v20 = some r) : JoinAt T Try.prog Try.f21 ⟨[], 5⟩ [7, 9] [1, 1, 1, 1, 1, 0, 0] (ES T Try.f21 5 (.d (.int .i64 r.1)) ([.cells [.own 0 1 3 (YN.Ds r.2.1), .own 0 2 5 (XN.Ds r.2.2.1), .map 0 3, .map 0 4], .grow 3 (YN.Ds r.2.1).length, .grow 5 (XN.Ds r.2.2.1).length, .map (mapD HTK.D (D.int .i64) r.2.2.2.1), .map (mapD HMK.D (D.int .i64) r.2.2.2.2)])) [(0, .ptr 0 0 0), (5, .ptr 0 6 0), (8, .ptr 0 8 0), (9, .d (.int .i64 t9_2)), (10, .d (.bool t10_2))] [[.cells [.own 0 1 3 (YN.Ds c0_0_0), .own 0 2 5 (XN.Ds c0_1_0), .map 0 3, .map 0 4], .grow 3 (YN.Ds c0_0_0).length, .grow 5 (XN.Ds c0_1_0).length, .map (mapD HTK.D (D.int .i64) m3_0), .map (mapD HMK.D (D.int .i64) m4_0), .cells [.d (.bool a1.v), .d (.str a1.name), .d (.os 3 (D.ageds (Ty.Ds a1.args)))], .cells [.d (.bool a1.v), .d (.str a1.name), .own 0 7 1 (intDs_i64 c6_2_0)], .grow 1 (intDs_i64 c6_2_0).length, .cells [.d (.bool v20.v), .d (.str v20.name), .d (.int .i64 v20.many), .d (.int .i64 v20.args.e0), .d (.int .i64 v20.args.e1), .d (.int .i64 v20.args.e2), .d (.int .i64 v20.args.e3), .d (.int .i64 v20.args.e4), .d (.int .i64 v20.args.e5), .d (.int .i64 v20.args.e6), .d (.int .i64 v20.args.e7)]]] := by
 unfold hx_addType_o_io_j1 at e
 refine Runs.enter T_ok ?_; conv => whnf
 refine brK.nsplit (fun hb22 => ?_) (fun hb22 => ?_)
 ·replace e := ifpb hb22 e; conv => whnf
  obtain rfl := sm e
  refine ⟨[0, 1, 2, 3, 4], ⟨rfl, rfl, rfl⟩, rfl, ⟨⟨_, rfl, ⟨⟨?_, ?_, rfl, rfl, trivial⟩, rfl⟩⟩, ⟨_, rfl, ?_⟩, ⟨_, rfl, ?_⟩, ⟨_, rfl, rfl⟩, ⟨_, rfl, rfl⟩, trivial⟩⟩
  repeat' first | exact rfl | exact trivial | refine ⟨?_, ?_⟩ | (simp [YN.Ds_all, Ty.Ds_all, intDs_i64_all, YN.D, Arr8_i64.D, HTK.D, Ty.D, listAll, ageds_len, ageds_nil] <;> (repeat' first | rfl | apply And.intro); done)
 ·replace e := ifnb hb22 e; conv => whnf
  refine draw_rule [] T_ok mixed hx_addType_o_io_pl11 (by decide +kernel) ?_; conv => whnf
  obtain ⟨v23, qv23, e⟩ := bnd e
  refine mupd_of KF_85 (sm qv23) ?_; conv => whnf
  refine draw_rule [] T_ok mixed hx_addType_o_io_pl12 (by decide +kernel) ?_; conv => whnf
  refine ⟨⟨⟨rfl, rfl⟩, trivial⟩, ?_⟩; conv => whnf
  obtain ⟨v24, qv24, e⟩ := bnd e
  obtain ⟨qv24l, qv24e⟩ := app_some qv24
  refine ⟨(by first | exact qv24l | simpa [YN.Ds_all, Ty.Ds_all, intDs_i64_all, YN.D, Arr8_i64.D, HTK.D, Ty.D, listAll, ageds_len, ageds_nil] using qv24l), rfl, (by first | rfl | simp [YN.Ds_all, Ty.Ds_all, intDs_i64_all, YN.D, Arr8_i64.D, HTK.D, Ty.D, listAll, ageds_len, ageds_nil]), ?_⟩; conv => whnf
  obtain rfl := sm e
  refine ⟨[0, 1, 2, 3, 4], ⟨rfl, rfl, rfl⟩, ?_, ⟨⟨_, rfl, ⟨⟨?_, ?_, rfl, rfl, trivial⟩, rfl⟩⟩, ⟨_, rfl, ?_⟩, ⟨_, rfl, ?_⟩, ⟨_, rfl, rfl⟩, ⟨_, rfl, rfl⟩, trivial⟩⟩
  repeat' first | exact rfl | exact trivial | refine ⟨?_, ?_⟩ | (simp [YN.Ds_all, Ty.Ds_all, intDs_i64_all, YN.D, Arr8_i64.D, HTK.D, Ty.D, listAll, ageds_len, ageds_nil, qv24e] <;> (repeat' first | rfl | apply And.intro); done)
end Go.Proofs.Ytemfpemejagndaa.Fw


set_option maxHeartbeats 4000000
namespace Go.Proofs.Ytemfpemejagndaa.Fw
open Go Go.Proofs Go.RowKit
theorem P_hx_addType_o_io_j0 {a1 : Ty} {c0_0_0 : (List YN)} {c0_1_0 : (List XN)} {c6_2_0 : (List Int)} {m3_0 : (List (HTK × Int))} {m4_0 : (List (HMK × Int))} {r : (Int × (List YN) × (List XN) × (List (HTK × Int)) × (List (HMK × Int)))} (e : hx_addType_o_io_j0 a1 c0_0_0 c0_1_0 c6_2_0 m3_0 m4_0 = some r) : JoinAt T Try.prog Try.f21 ⟨[], 5⟩ [7, 9] [1, 1, 1, 0] (ES T Try.f21 5 (.d (.int .i64 r.1)) ([.cells [.own 0 1 3 (YN.Ds r.2.1), .own 0 2 5 (XN.Ds r.2.2.1), .map 0 3, .map 0 4], .grow 3 (YN.Ds r.2.1).length, .grow 5 (XN.Ds r.2.2.1).length, .map (mapD HTK.D (D.int .i64) r.2.2.2.1), .map (mapD HMK.D (D.int .i64) r.2.2.2.2)])) [(0, .ptr 0 0 0), (5, .ptr 0 6 0)] [[.cells [.own 0 1 3 (YN.Ds c0_0_0), .own 0 2 5 (XN.Ds c0_1_0), .map 0 3, .map 0 4], .grow 3 (YN.Ds c0_0_0).length, .grow 5 (XN.Ds c0_1_0).length, .map (mapD HTK.D (D.int .i64) m3_0), .map (mapD HMK.D (D.int .i64) m4_0), .cells [.d (.bool a1.v), .d (.str a1.name), .d (.os 3 (D.ageds (Ty.Ds a1.args)))], .cells [.d (.bool a1.v), .d (.str a1.name), .own 0 7 1 (intDs_i64 c6_2_0)], .grow 1 (intDs_i64 c6_2_0).length]] := by
 unfold hx_addType_o_io_j0 at e
 refine Runs.enter T_ok ?_; conv => whnf
 obtain ⟨v20, qv20, e⟩ := bnd e
 first | (refine said_pure (P_hash_keyType qv20) rfl ?_) | (refine said_pure2 (P_hash_keyType qv20) rfl (by simp [YN.Ds_all, Ty.Ds_all, intDs_i64_all, YN.D, Arr8_i64.D, HTK.D, Ty.D, listAll, ageds_len, ageds_nil] <;> (repeat' first | rfl | apply And.intro)) ?_)
 (conv => whnf)
 refine draw_rule [] T_ok mixed hx_addType_o_io_pl8 (by decide +kernel) ?_; conv => whnf
 refine mlook_of KF_85 (fun v21 hv21 => ?_) (fun hv21 => ?_)
 ·rw [hv21] at e; conv => whnf
  refine Runs.weak (P_hx_addType_o_io_j1 e) ?_
  repeat' first | exact wk.of_eq rfl | exact wk.pure rfl | exact wk.un _ | exact wk.hold _ _ _ | exact wk.holdG _ _ _ | exact rfl | exact trivial | refine ⟨?_, ?_⟩ | (refine wk.of_eq ?_; (conv => lhs; whnf); (simp [YN.Ds_all, Ty.Ds_all, intDs_i64_all, YN.D, Arr8_i64.D, HTK.D, Ty.D, listAll, ageds_len, ageds_nil] <;> (repeat' first | rfl | apply And.intro)); done) | (refine wk.pure ?_; (conv => lhs; whnf); (simp [YN.Ds_all, Ty.Ds_all, intDs_i64_all, YN.D, Arr8_i64.D, HTK.D, Ty.D, listAll, ageds_len, ageds_nil] <;> (repeat' first | rfl | apply And.intro)); done) | ((simp [YN.Ds_all, Ty.Ds_all, intDs_i64_all, YN.D, Arr8_i64.D, HTK.D, Ty.D, listAll, ageds_len, ageds_nil] <;> (repeat' first | rfl | apply And.intro)); done) | (simp [YN.Ds_all, Ty.Ds_all, intDs_i64_all, YN.D, Arr8_i64.D, HTK.D, Ty.D, listAll, ageds_len, ageds_nil]; omega)
 ·rw [hv21] at e; conv => whnf
  refine Runs.weak (P_hx_addType_o_io_j1 e) ?_
  repeat' first | exact wk.of_eq rfl | exact wk.pure rfl | exact wk.un _ | exact wk.hold _ _ _ | exact wk.holdG _ _ _ | exact rfl | exact trivial | refine ⟨?_, ?_⟩ | (refine wk.of_eq ?_; (conv => lhs; whnf); (simp [YN.Ds_all, Ty.Ds_all, intDs_i64_all, YN.D, Arr8_i64.D, HTK.D, Ty.D, listAll, ageds_len, ageds_nil] <;> (repeat' first | rfl | apply And.intro)); done) | (refine wk.pure ?_; (conv => lhs; whnf); (simp [YN.Ds_all, Ty.Ds_all, intDs_i64_all, YN.D, Arr8_i64.D, HTK.D, Ty.D, listAll, ageds_len, ageds_nil] <;> (repeat' first | rfl | apply And.intro)); done) | ((simp [YN.Ds_all, Ty.Ds_all, intDs_i64_all, YN.D, Arr8_i64.D, HTK.D, Ty.D, listAll, ageds_len, ageds_nil] <;> (repeat' first | rfl | apply And.intro)); done) | (simp [YN.Ds_all, Ty.Ds_all, intDs_i64_all, YN.D, Arr8_i64.D, HTK.D, Ty.D, listAll, ageds_len, ageds_nil]; omega)
def M_hx_addType_o_io (a1 : Ty) (b0_0 : (List YN)) (b0_1 : (List XN)) (b3 : (List (HTK × Int))) (b4 : (List (HMK × Int))) (r : (Int × (List YN) × (List XN) × (List (HTK × Int)) × (List (HMK × Int)))) : Prop := IoR Try.prog 21 [.ptr 0 0 0, .d (D.aged (Ty.D a1))] [.cells [.own 0 1 3 (YN.Ds b0_0), .own 0 2 5 (XN.Ds b0_1), .map 0 3, .map 0 4], .grow 3 (YN.Ds b0_0).length, .grow 5 (XN.Ds b0_1).length, .map (mapD HTK.D (D.int .i64) b3), .map (mapD HMK.D (D.int .i64) b4)] (.d (.int .i64 r.1)) ([.cells [.own 0 1 3 (YN.Ds r.2.1), .own 0 2 5 (XN.Ds r.2.2.1), .map 0 3, .map 0 4], .grow 3 (YN.Ds r.2.1).length, .grow 5 (XN.Ds r.2.2.1).length, .map (mapD HTK.D (D.int .i64) r.2.2.2.1), .map (mapD HMK.D (D.int .i64) r.2.2.2.2)])
def M_hx_addType_o_io_l0 (rest0 : (List Ty)) (c0_0_0 : (List YN)) (c0_1_0 : (List XN)) (m3_0 : (List (HTK × Int))) (m4_0 : (List (HMK × Int))) (c6_2_0 : (List Int)) (a1 : Ty) (r : (Int × (List YN) × (List XN) × (List (HTK × Int)) × (List (HMK × Int)))) : Prop := ∀ (k0 : Nat) (hd0 : rest0 = a1.args.drop k0), LoopAt T Try.prog Try.f21 ⟨[], 5⟩ [7, 9] [1, 1, 0, 1, 0] (ES T Try.f21 5 (.d (.int .i64 r.1)) ([.cells [.own 0 1 3 (YN.Ds r.2.1), .own 0 2 5 (XN.Ds r.2.2.1), .map 0 3, .map 0 4], .grow 3 (YN.Ds r.2.1).length, .grow 5 (XN.Ds r.2.2.1).length, .map (mapD HTK.D (D.int .i64) r.2.2.2.1), .map (mapD HMK.D (D.int .i64) r.2.2.2.2)])) [(0, .ptr 0 0 0), (5, .ptr 0 6 0), (17, .d (.os 3 (D.ageds (Ty.Ds a1.args)))), (18, .d (.int .i64 ((Ty.Ds a1.args).length : Int))), (19, .d (.int .i64 (k0 : Int)))] [[.cells [.own 0 1 3 (YN.Ds c0_0_0), .own 0 2 5 (XN.Ds c0_1_0), .map 0 3, .map 0 4], .grow 3 (YN.Ds c0_0_0).length, .grow 5 (XN.Ds c0_1_0).length, .map (mapD HTK.D (D.int .i64) m3_0), .map (mapD HMK.D (D.int .i64) m4_0), .cells [.d (.bool a1.v), .d (.str a1.name), .d (.os 3 (D.ageds (Ty.Ds a1.args)))], .cells [.d (.bool a1.v), .d (.str a1.name), .own 0 7 1 (intDs_i64 c6_2_0)], .grow 1 (intDs_i64 c6_2_0).length]]
theorem G_hx_addType_o_io : (∀ p r, hx_addType_o_io' p = some r → ∀ a1 b0_0 b0_1 b3 b4, (a1, b0_0, b0_1, b3, b4) = p → M_hx_addType_o_io a1 b0_0 b0_1 b3 b4 r) ∧
  (∀ p r, hx_addType_o_io_l0' p = some r → ∀ rest0 c0_0_0 c0_1_0 m3_0 m4_0 c6_2_0 a1, (rest0, c0_0_0, c0_1_0, m3_0, m4_0, c6_2_0, a1) = p → M_hx_addType_o_io_l0 rest0 c0_0_0 c0_1_0 m3_0 m4_0 c6_2_0 a1 r) := by
 refine hx_addType_o_io'.mutual_partial_correctness (fun (p : (Ty × (List YN) × (List XN) × (List (HTK × Int)) × (List (HMK × Int)))) (r : (Int × (List YN) × (List XN) × (List (HTK × Int)) × (List (HMK × Int)))) => ∀ (a1 : Ty) (b0_0 : (List YN)) (b0_1 : (List XN)) (b3 : (List (HTK × Int))) (b4 : (List (HMK × Int))), (a1, b0_0, b0_1, b3, b4) = p → M_hx_addType_o_io a1 b0_0 b0_1 b3 b4 r) (fun (p : ((List Ty) × (List YN) × (List XN) × (List (HTK × Int)) × (List (HMK × Int)) × (List Int) × Ty)) (r : (Int × (List YN) × (List XN) × (List (HTK × Int)) × (List (HMK × Int)))) => ∀ (rest0 : (List Ty)) (c0_0_0 : (List YN)) (c0_1_0 : (List XN)) (m3_0 : (List (HTK × Int))) (m4_0 : (List (HMK × Int))) (c6_2_0 : (List Int)) (a1 : Ty), (rest0, c0_0_0, c0_1_0, m3_0, m4_0, c6_2_0, a1) = p → M_hx_addType_o_io_l0 rest0 c0_0_0 c0_1_0 m3_0 m4_0 c6_2_0 a1 r) ?_ ?_
 ·intro f_hx_addType_o_io_l0 ih_hx_addType_o_io_l0 p r e a1 b0_0 b0_1 b3 b4 hp
  subst hp
  refine io_of_awp2 (js := [7, 9]) T_ok Try.func21 rfl (by decide +kernel) rfl ?_; conv => whnf
  try simp only [ageds_len]
  refine Runs.hold 1 ?_
  refine RunsL.runs (RunsL.weak ((ih_hx_addType_o_io_l0 _ _ e _ _ _ _ _ _ _ rfl) 0 (by simp)) ?_)
  repeat' first | exact wk.of_eq rfl | exact wk.pure rfl | exact wk.un _ | exact wk.hold _ _ _ | exact wk.holdG _ _ _ | exact rfl | exact trivial | refine ⟨?_, ?_⟩ | (refine wk.of_eq ?_; (conv => lhs; whnf); (simp [YN.Ds_all, Ty.Ds_all, intDs_i64_all, YN.D, Arr8_i64.D, HTK.D, Ty.D, listAll, ageds_len, ageds_nil] <;> (repeat' first | rfl | apply And.intro)); done) | (refine wk.pure ?_; (conv => lhs; whnf); (simp [YN.Ds_all, Ty.Ds_all, intDs_i64_all, YN.D, Arr8_i64.D, HTK.D, Ty.D, listAll, ageds_len, ageds_nil] <;> (repeat' first | rfl | apply And.intro)); done) | ((simp [YN.Ds_all, Ty.Ds_all, intDs_i64_all, YN.D, Arr8_i64.D, HTK.D, Ty.D, listAll, ageds_len, ageds_nil] <;> (repeat' first | rfl | apply And.intro)); done) | (simp [YN.Ds_all, Ty.Ds_all, intDs_i64_all, YN.D, Arr8_i64.D, HTK.D, Ty.D, listAll, ageds_len, ageds_nil]; omega)
 ·intro f_hx_addType_o_io f_hx_addType_o_io_l0 ih_hx_addType_o_io ih_hx_addType_o_io_l0 p r e rest0 c0_0_0 c0_1_0 m3_0 m4_0 c6_2_0 a1 hp
  subst hp
  intro k0 hd0
  refine RunsL.len_tmp 17 rfl fun hlenk0 => ?_
  rw [ageds_len] at hlenk0
  refine RunsL.of_awp (js := [7, 9]) T_ok ?_; conv => whnf
  have hls := Ty.Ds_len a1.args
  cases rest0 with
  | nil =>
   have hk := drop_nil hd0
   refine ⟨⟨fun h => absurd h (by omega), fun _ => ?_⟩⟩; conv => whnf
   refine Runs.weak (P_hx_addType_o_io_j0 e) ?_
   repeat' first | exact wk.of_eq rfl | exact wk.pure rfl | exact wk.un _ | exact wk.hold _ _ _ | exact wk.holdG _ _ _ | exact rfl | exact trivial | refine ⟨?_, ?_⟩ | (refine wk.of_eq ?_; (conv => lhs; whnf); (simp [YN.Ds_all, Ty.Ds_all, intDs_i64_all, YN.D, Arr8_i64.D, HTK.D, Ty.D, listAll, ageds_len, ageds_nil] <;> (repeat' first | rfl | apply And.intro)); done) | (refine wk.pure ?_; (conv => lhs; whnf); (simp [YN.Ds_all, Ty.Ds_all, intDs_i64_all, YN.D, Arr8_i64.D, HTK.D, Ty.D, listAll, ageds_len, ageds_nil] <;> (repeat' first | rfl | apply And.intro)); done) | ((simp [YN.Ds_all, Ty.Ds_all, intDs_i64_all, YN.D, Arr8_i64.D, HTK.D, Ty.D, listAll, ageds_len, ageds_nil] <;> (repeat' first | rfl | apply And.intro)); done) | (simp [YN.Ds_all, Ty.Ds_all, intDs_i64_all, YN.D, Arr8_i64.D, HTK.D, Ty.D, listAll, ageds_len, ageds_nil]; omega)
  | cons v20 rest0 =>
   obtain ⟨hxv20, hd0, hltv20⟩ := drop_head hd0
   refine ⟨⟨fun _ => ?_, fun h => absurd (by omega) h⟩⟩; conv => whnf
   refine ⟨k0, _, rfl, ageds_get (Ty.Ds_get hxv20), ?_⟩; conv => whnf
   refine ⟨ageds_fit (Ty.Ds_fit _ rfl rfl), ?_⟩; conv => whnf
   refine draw_rule [0, 1, 2, 3, 4] T_ok mixed hx_addType_o_io_pl5 (by decide +kernel) ?_; conv => whnf
   obtain ⟨v21, qv21, e⟩ := bnd e
   first | (refine said_iorF (ih_hx_addType_o_io _ _ qv21 _ _ _ _ _ rfl) [0, 1, 2, 3, 4] [.ptr 0 0 0, .d (D.aged (Ty.D v20))] rfl ⟨wk.refl _, wk.pure rfl, trivial⟩ rfl rfl ⟨(keeps_back rfl), ?_⟩) | (refine said_iorF2 (ih_hx_addType_o_io _ _ qv21 _ _ _ _ _ rfl) [0, 1, 2, 3, 4] [.ptr 0 0 0, .d (D.aged (Ty.D v20))] rfl ⟨wk.refl _, wk.pure rfl, trivial⟩ rfl rfl (by simp [YN.Ds_all, Ty.Ds_all, intDs_i64_all, YN.D, Arr8_i64.D, HTK.D, Ty.D, listAll, ageds_len, ageds_nil] <;> (repeat' first | rfl | apply And.intro)) ⟨(keeps_back rfl), ?_⟩)
   (conv => whnf)
   refine ⟨⟨⟨rfl, rfl⟩, trivial⟩, ?_⟩; conv => whnf
   obtain ⟨v22, qv22, e⟩ := bnd e
   obtain ⟨qv22l, qv22e⟩ := app_some qv22
   refine ⟨(by first | exact qv22l | simpa [YN.Ds_all, Ty.Ds_all, intDs_i64_all, YN.D, Arr8_i64.D, HTK.D, Ty.D, listAll, ageds_len, ageds_nil] using qv22l), rfl, (by first | rfl | simp [YN.Ds_all, Ty.Ds_all, intDs_i64_all, YN.D, Arr8_i64.D, HTK.D, Ty.D, listAll, ageds_len, ageds_nil]), ?_⟩; conv => whnf
   refine ⟨((k0 + 1 : Nat) : Int), wrap64e (by omega) (by omega) (by omega), ?_⟩; conv => whnf
   refine (RunsL.weak ((ih_hx_addType_o_io_l0 _ _ e _ _ _ _ _ _ _ rfl) (k0 + 1) hd0) ?_)
   repeat' first | exact wk.of_eq rfl | exact wk.pure rfl | exact wk.un _ | exact wk.hold _ _ _ | exact wk.holdG _ _ _ | exact rfl | exact trivial | refine ⟨?_, ?_⟩ | (refine wk.of_eq ?_; (conv => lhs; whnf); (simp [YN.Ds_all, Ty.Ds_all, intDs_i64_all, YN.D, Arr8_i64.D, HTK.D, Ty.D, listAll, ageds_len, ageds_nil, qv22e] <;> (repeat' first | rfl | apply And.intro)); done) | (refine wk.pure ?_; (conv => lhs; whnf); (simp [YN.Ds_all, Ty.Ds_all, intDs_i64_all, YN.D, Arr8_i64.D, HTK.D, Ty.D, listAll, ageds_len, ageds_nil, qv22e] <;> (repeat' first | rfl | apply And.intro)); done) | ((simp [YN.Ds_all, Ty.Ds_all, intDs_i64_all, YN.D, Arr8_i64.D, HTK.D, Ty.D, listAll, ageds_len, ageds_nil, qv22e] <;> (repeat' first | rfl | apply And.intro)); done) | (simp [YN.Ds_all, Ty.Ds_all, intDs_i64_all, YN.D, Arr8_i64.D, HTK.D, Ty.D, listAll, ageds_len, ageds_nil, qv22e]; omega)
theorem P_hx_addType_o_io {a1 : Ty} {b0_0 : (List YN)} {b0_1 : (List XN)} {b3 : (List (HTK × Int))} {b4 : (List (HMK × Int))} {r : (Int × (List YN) × (List XN) × (List (HTK × Int)) × (List (HMK × Int)))} (e : hx_addType_o_io a1 b0_0 b0_1 b3 b4 = some r) : M_hx_addType_o_io a1 b0_0 b0_1 b3 b4 r := G_hx_addType_o_io.1 _ _ e _ _ _ _ _ rfl
theorem P_hx_add_o_io_j2 {t9_3 : Int} {t10_3 : Bool} {a1 : Tm} {c0_0_0 : (List YN)} {c0_1_0 : (List XN)} {c6_2_1 : Int} {c6_4_0 : (List Int)} {m3_0 : (List (HTK × Int))} {m4_0 : (List (HMK × Int))} {v35 : HMK} {r : (Int × (List YN) × (List XN) × (List (HTK × Int)) × (List (HMK × Int)))} (e : hx_add_o_io_j2 t9_3 t10_3 a1 c0_0_0 c0_1_0 c6_2_1 c6_4_0 m3_0 m4_0 v35 = some r) : JoinAt T Try.prog Try.f29 ⟨[], 5⟩ [4, 9, 11] [1, 1, 1, 1, 1, 1, 0, 0] (ES T Try.f29 5 (.d (.int .i64 r.1)) ([.cells [.own 0 1 3 (YN.Ds r.2.1), .own 0 2 5 (XN.Ds r.2.2.1), .map 0 3, .map 0 4], .grow 3 (YN.Ds r.2.1).length, .grow 5 (XN.Ds r.2.2.1).length, .map (mapD HTK.D (D.int .i64) r.2.2.2.1), .map (mapD HMK.D (D.int .i64) r.2.2.2.2)])) [(0, .ptr 0 0 0), (5, .ptr 0 6 0), (8, .ptr 0 8 0), (9, .d (.int .i64 t9_3)), (10, .d (.bool t10_3))] [[.cells [.own 0 1 3 (YN.Ds c0_0_0), .own 0 2 5 (XN.Ds c0_1_0), .map 0 3, .map 0 4], .grow 3 (YN.Ds c0_0_0).length, .grow 5 (XN.Ds c0_1_0).length, .map (mapD HTK.D (D.int .i64) m3_0), .map (mapD HMK.D (D.int .i64) m4_0), .cells [.d (.int .u8 a1.kind), .d (.str a1.name), .d (.bool a1.ty.v), .d (.str a1.ty.name), .d (.os 3 (D.ageds (Ty.Ds a1.ty.args))), .d (.int .i64 a1.index), .d (.os 7 (D.ageds (Tm.Ds a1.sub)))], .cells [.d (.int .u8 a1.kind), .d (.str a1.name), .d (.int .i64 c6_2_1), .d (.int .i64 a1.index), .own 0 7 1 (intDs_i64 c6_4_0)], .grow 1 (intDs_i64 c6_4_0).length, .cells [.d (.int .u8 v35.kind), .d (.str v35.name), .d (.int .i64 v35.typ), .d (.int .i64 v35.index), .d (.int .i64 v35.many), .d (.int .i64 v35.a), .d (.int .i64 v35.b)]]] := by
 unfold hx_add_o_io_j2 at e
 refine Runs.enter T_ok ?_; conv => whnf
 refine brK.nsplit (fun hb37 => ?_) (fun hb37 => ?_)
 ·replace e := ifpb hb37 e; conv => whnf
  obtain rfl := sm e
  refine ⟨[0, 1, 2, 3, 4], ⟨rfl, rfl, rfl⟩, rfl, ⟨⟨_, rfl, ⟨⟨?_, ?_, rfl, rfl, trivial⟩, rfl⟩⟩, ⟨_, rfl, ?_⟩, ⟨_, rfl, ?_⟩, ⟨_, rfl, rfl⟩, ⟨_, rfl, rfl⟩, trivial⟩⟩
  repeat' first | exact rfl | exact trivial | refine ⟨?_, ?_⟩ | (simp [XN.Ds_all, Tm.Ds_all, Ty.Ds_all, intDs_i64_all, XN.D, HMK.D, Tm.D, Ty.D, listAll, ageds_len, ageds_nil] <;> (repeat' first | rfl | apply And.intro); done)
 ·replace e := ifnb hb37 e; conv => whnf
  refine draw_rule [] T_ok mixed hx_add_o_io_pl13 (by decide +kernel) ?_; conv => whnf
  obtain ⟨v38, qv38, e⟩ := bnd e
  refine mupd_of KF_79 (sm qv38) ?_; conv => whnf
  refine draw_rule [] T_ok mixed hx_add_o_io_pl14 (by decide +kernel) ?_; conv => whnf
  refine ⟨⟨⟨rfl, rfl⟩, trivial⟩, ?_⟩; conv => whnf
  obtain ⟨v39, qv39, e⟩ := bnd e
  obtain ⟨qv39l, qv39e⟩ := app_some qv39
  refine ⟨(by first | exact qv39l | simpa [XN.Ds_all, Tm.Ds_all, Ty.Ds_all, intDs_i64_all, XN.D, HMK.D, Tm.D, Ty.D, listAll, ageds_len, ageds_nil] using qv39l), rfl, (by first | rfl | simp [XN.Ds_all, Tm.Ds_all, Ty.Ds_all, intDs_i64_all, XN.D, HMK.D, Tm.D, Ty.D, listAll, ageds_len, ageds_nil]), ?_⟩; conv => whnf
  obtain rfl := sm e
  refine ⟨[0, 1, 2, 3, 4], ⟨rfl, rfl, rfl⟩, ?_, ⟨⟨_, rfl, ⟨⟨?_, ?_, rfl, rfl, trivial⟩, rfl⟩⟩, ⟨_, rfl, ?_⟩, ⟨_, rfl, ?_⟩, ⟨_, rfl, rfl⟩, ⟨_, rfl, rfl⟩, trivial⟩⟩
  repeat' first | exact rfl | exact trivial | refine ⟨?_, ?_⟩ | (simp [XN.Ds_all, Tm.Ds_all, Ty.Ds_all, intDs_i64_all, XN.D, HMK.D, Tm.D, Ty.D, listAll, ageds_len, ageds_nil, qv39e] <;> (repeat' first | rfl | apply And.intro); done)
theorem P_hx_add_o_io_j1 {a1 : Tm} {c0_0_0 : (List YN)} {c0_1_0 : (List XN)} {c6_2_1 : Int} {c6_4_0 : (List Int)} {m3_0 : (List (HTK × Int))} {m4_0 : (List (HMK × Int))} {r : (Int × (List YN) × (List XN) × (List (HTK × Int)) × (List (HMK × Int)))} (e : hx_add_o_io_j1 a1 c0_0_0 c0_1_0 c6_2_1 c6_4_0 m3_0 m4_0 = some r) : JoinAt T Try.prog Try.f29 ⟨[], 5⟩ [4, 9, 11] [1, 1, 1, 1, 0] (ES T Try.f29 5 (.d (.int .i64 r.1)) ([.cells [.own 0 1 3 (YN.Ds r.2.1), .own 0 2 5 (XN.Ds r.2.2.1), .map 0 3, .map 0 4], .grow 3 (YN.Ds r.2.1).length, .grow 5 (XN.Ds r.2.2.1).length, .map (mapD HTK.D (D.int .i64) r.2.2.2.1), .map (mapD HMK.D (D.int .i64) r.2.2.2.2)])) [(0, .ptr 0 0 0), (5, .ptr 0 6 0)] [[.cells [.own 0 1 3 (YN.Ds c0_0_0), .own 0 2 5 (XN.Ds c0_1_0), .map 0 3, .map 0 4], .grow 3 (YN.Ds c0_0_0).length, .grow 5 (XN.Ds c0_1_0).length, .map (mapD HTK.D (D.int .i64) m3_0), .map (mapD HMK.D (D.int .i64) m4_0), .cells [.d (.int .u8 a1.kind), .d (.str a1.name), .d (.bool a1.ty.v), .d (.str a1.ty.name), .d (.os 3 (D.ageds (Ty.Ds a1.ty.args))), .d (.int .i64 a1.index), .d (.os 7 (D.ageds (Tm.Ds a1.sub)))], .cells [.d (.int .u8 a1.kind), .d (.str a1.name), .d (.int .i64 c6_2_1), .d (.int .i64 a1.index), .own 0 7 1 (intDs_i64 c6_4_0)], .grow 1 (intDs_i64 c6_4_0).length]] := by
 unfold hx_add_o_io_j1 at e
 refine Runs.enter T_ok ?_; conv => whnf
 obtain ⟨v35, qv35, e⟩ := bnd e
 first | (refine said_pure (P_hash_keyTerm qv35) rfl ?_) | (refine said_pure2 (P_hash_keyTerm qv35) rfl (by simp [XN.Ds_all, Tm.Ds_all, Ty.Ds_all, intDs_i64_all, XN.D, HMK.D, Tm.D, Ty.D, listAll, ageds_len, ageds_nil] <;> (repeat' first | rfl | apply And.intro)) ?_)
 (conv => whnf)
 refine draw_rule [] T_ok mixed hx_add_o_io_pl10 (by decide +kernel) ?_; conv => whnf
 refine mlook_of KF_79 (fun v36 hv36 => ?_) (fun hv36 => ?_)
 ·rw [hv36] at e; conv => whnf
  refine Runs.weak (P_hx_add_o_io_j2 e) ?_
  repeat' first | exact wk.of_eq rfl | exact wk.pure rfl | exact wk.un _ | exact wk.hold _ _ _ | exact wk.holdG _ _ _ | exact rfl | exact trivial | refine ⟨?_, ?_⟩ | (refine wk.of_eq ?_; (conv => lhs; whnf); (simp [XN.Ds_all, Tm.Ds_all, Ty.Ds_all, intDs_i64_all, XN.D, HMK.D, Tm.D, Ty.D, listAll, ageds_len, ageds_nil] <;> (repeat' first | rfl | apply And.intro)); done) | (refine wk.pure ?_; (conv => lhs; whnf); (simp [XN.Ds_all, Tm.Ds_all, Ty.Ds_all, intDs_i64_all, XN.D, HMK.D, Tm.D, Ty.D, listAll, ageds_len, ageds_nil] <;> (repeat' first | rfl | apply And.intro)); done) | ((simp [XN.Ds_all, Tm.Ds_all, Ty.Ds_all, intDs_i64_all, XN.D, HMK.D, Tm.D, Ty.D, listAll, ageds_len, ageds_nil] <;> (repeat' first | rfl | apply And.intro)); done) | (simp [XN.Ds_all, Tm.Ds_all, Ty.Ds_all, intDs_i64_all, XN.D, HMK.D, Tm.D, Ty.D, listAll, ageds_len, ageds_nil]; omega)
 ·rw [hv36] at e; conv => whnf
  refine Runs.weak (P_hx_add_o_io_j2 e) ?_
  repeat' first | exact wk.of_eq rfl | exact wk.pure rfl | exact wk.un _ | exact wk.hold _ _ _ | exact wk.holdG _ _ _ | exact rfl | exact trivial | refine ⟨?_, ?_⟩ | (refine wk.of_eq ?_; (conv => lhs; whnf); (simp [XN.Ds_all, Tm.Ds_all, Ty.Ds_all, intDs_i64_all, XN.D, HMK.D, Tm.D, Ty.D, listAll, ageds_len, ageds_nil] <;> (repeat' first | rfl | apply And.intro)); done) | (refine wk.pure ?_; (conv => lhs; whnf); (simp [XN.Ds_all, Tm.Ds_all, Ty.Ds_all, intDs_i64_all, XN.D, HMK.D, Tm.D, Ty.D, listAll, ageds_len, ageds_nil] <;> (repeat' first | rfl | apply And.intro)); done) | ((simp [XN.Ds_all, Tm.Ds_all, Ty.Ds_all, intDs_i64_all, XN.D, HMK.D, Tm.D, Ty.D, listAll, ageds_len, ageds_nil] <;> (repeat' first | rfl | apply And.intro)); done) | (simp [XN.Ds_all, Tm.Ds_all, Ty.Ds_all, intDs_i64_all, XN.D, HMK.D, Tm.D, Ty.D, listAll, ageds_len, ageds_nil]; omega)
end Go.Proofs.Ytemfpemejagndaa.Fw

