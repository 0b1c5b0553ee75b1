/- The code computes the functions. -/
import Derived.Test.YtemfpemejagndaaG3
set_option autoImplicit false
set_option linter.unusedVariables false
set_option linter.unnecessarySimpa false
set_option linter.unusedSimpArgs false
set_option maxHeartbeats 4000000
namespace Go.Proofs.Ytemfpemejagndaa.Fw
open Go Go.Proofs Go.RowKit
def M_z02_Formed (a0 : Tm) (a1 : (List Ty)) (r : (Ty × Bool)) : Prop := Pure Try.prog 44 [(Tm.D a0), (.slice 3 (Ty.Ds a1))] (.tuple [(Ty.D r.1), (.bool r.2)])
theorem G_z02_Formed : (∀ p r, z02_Formed' p = some r → ∀ a0 a1, (a0, a1) = p → M_z02_Formed a0 a1 r) := by
 refine z02_Formed'.partial_correctness (fun (p : (Tm × (List Ty))) (r : (Ty × Bool)) => ∀ (a0 : Tm) (a1 : (List Ty)), (a0, a1) = p → M_z02_Formed a0 a1 r) ?_
 ·intro f_z02_Formed ih_z02_Formed p r e a0 a1 hp
  subst hp
  refine pure_of_awp (js := [21]) T_ok Try.func44 rfl (by decide +kernel) rfl ?_; conv => whnf
  refine ⟨⟨fun h1 => ?_, fun h1 => ?_⟩⟩
  ·replace e := ifp h1 e; conv => whnf
   refine draw_rule [] T_ok mixed z02_Formed_pl4 (by decide +kernel) ?_; conv => whnf
   obtain ⟨v2, qv2, e⟩ := bnd e
   refine said_pure (P_z02_Name qv2) rfl ⟨Keeps.refl _ _, ?_⟩; conv => whnf
   refine brK.split (fun hb3 => ?_) (fun hb3 => ?_)
   ·replace e := ifpb hb3 e; conv => whnf
    refine brK.tt hb3 ?_; conv => whnf
    refine brK.tt hb3 ?_; conv => whnf
    obtain ⟨v4, qv4, e⟩ := bnd e
    refine said_pure (P_z01_Valid qv4) rfl ⟨Keeps.refl _ _, ?_⟩; conv => whnf
    refine brK.tt hb3 ?_; conv => whnf
    refine brK.split (fun hb5 => ?_) (fun hb5 => ?_)
    ·replace e := ifpb hb5 e; conv => whnf
     refine brK.tt hb5 ?_; conv => whnf
     refine brK.tt hb5 ?_; conv => whnf
     refine ⟨⟨fun h6 => ?_, fun h6 => ?_⟩⟩
     ·replace e := ifp h6 e; conv => whnf
      refine brK.tt hb5 ?_; conv => whnf
      refine test.dec ?_; conv => whnf
      obtain rfl := sm e
      repeat' first | exact rfl | exact trivial | refine ⟨?_, ?_⟩
     ·replace e := ifn h6 e; conv => whnf
      refine brK.tt hb5 ?_; conv => whnf
      obtain rfl := sm e
      repeat' first | exact rfl | exact trivial | refine ⟨?_, ?_⟩
    ·replace e := ifnb hb5 e; conv => whnf
     refine brK.ff hb5 ?_; conv => whnf
     refine brK.ff hb5 ?_; conv => whnf
     refine brK.ff hb5 ?_; conv => whnf
     obtain rfl := sm e
     repeat' first | exact rfl | exact trivial | refine ⟨?_, ?_⟩
   ·replace e := ifnb hb3 e; conv => whnf
    refine brK.ff hb3 ?_; conv => whnf
    refine brK.ff hb3 ?_; conv => whnf
    refine brK.ff hb3 ?_; conv => whnf
    obtain rfl := sm e
    repeat' first | exact rfl | exact trivial | refine ⟨?_, ?_⟩
  ·replace e := ifn h1 e; conv => whnf
   refine ⟨⟨fun h2 => ?_, fun h2 => ?_⟩⟩
   ·replace e := ifp h2 e; conv => whnf
    refine draw_rule [] T_ok mixed z02_Formed_pl4 (by decide +kernel) ?_; conv => whnf
    obtain ⟨v3, qv3, e⟩ := bnd e
    refine said_pure (P_z02_Name qv3) rfl ⟨Keeps.refl _ _, ?_⟩; conv => whnf
    refine brK.split (fun hb4 => ?_) (fun hb4 => ?_)
    ·replace e := ifpb hb4 e; conv => whnf
     refine brK.tt hb4 ?_; conv => whnf
     refine brK.tt hb4 ?_; conv => whnf
     obtain ⟨v5, qv5, e⟩ := bnd e
     refine said_pure (P_z01_Valid qv5) rfl ⟨Keeps.refl _ _, ?_⟩; conv => whnf
     refine brK.tt hb4 ?_; conv => whnf
     refine brK.split (fun hb6 => ?_) (fun hb6 => ?_)
     ·replace e := ifpb hb6 e; conv => whnf
      refine brK.tt hb6 ?_; conv => whnf
      refine brK.tt hb6 ?_; conv => whnf
      refine ⟨⟨fun h7 => ?_, fun h7 => ?_⟩⟩
      ·replace e := ifp h7 e; conv => whnf
       refine brK.tt hb6 ?_; conv => whnf
       refine test.dec ?_; conv => whnf
       obtain rfl := sm e
       repeat' first | exact rfl | exact trivial | refine ⟨?_, ?_⟩
      ·replace e := ifn h7 e; conv => whnf
       refine brK.tt hb6 ?_; conv => whnf
       obtain rfl := sm e
       repeat' first | exact rfl | exact trivial | refine ⟨?_, ?_⟩
     ·replace e := ifnb hb6 e; conv => whnf
      refine brK.ff hb6 ?_; conv => whnf
      refine brK.ff hb6 ?_; conv => whnf
      refine brK.ff hb6 ?_; conv => whnf
      obtain rfl := sm e
      repeat' first | exact rfl | exact trivial | refine ⟨?_, ?_⟩
    ·replace e := ifnb hb4 e; conv => whnf
     refine brK.ff hb4 ?_; conv => whnf
     refine brK.ff hb4 ?_; conv => whnf
     refine brK.ff hb4 ?_; conv => whnf
     obtain rfl := sm e
     repeat' first | exact rfl | exact trivial | refine ⟨?_, ?_⟩
   ·replace e := ifn h2 e; conv => whnf
    refine ⟨⟨fun h3 => ?_, fun h3 => ?_⟩⟩
    ·replace e := ifp h3 e; conv => whnf
     refine ⟨⟨fun h4 => ?_, fun h4 => ?_⟩⟩
     ·replace e := ifp h4 e; conv => whnf
      obtain rfl := sm e
      repeat' first | exact rfl | exact trivial | refine ⟨?_, ?_⟩
     ·replace e := ifn h4 e; conv => whnf
      obtain ⟨v5, qv5, e⟩ := bnd e
      refine said_pure (P_z02_none qv5) rfl ?_; conv => whnf
      refine brK.nsplit (fun hb6 => ?_) (fun hb6 => ?_)
      ·replace e := ifpb hb6 e; conv => whnf
       refine brK.ntt hb6 ?_; conv => whnf
       refine brK.ntt hb6 ?_; conv => whnf
       refine brK.ntt hb6 ?_; conv => whnf
       refine ⟨⟨fun h7 => ?_, fun h7 => ?_⟩⟩
       ·replace e := ifp (by first | exact h7 | omega | simpa [Tm.Ds_all, Ty.Ds_all, Tm.D, Ty.D, listAll] using h7) e; conv => whnf
        refine brK.ntt hb6 ?_; conv => whnf
        obtain rfl := sm e
        repeat' first | exact rfl | exact trivial | refine ⟨?_, ?_⟩
       ·replace e := ifn (by first | exact h7 | omega | simpa [Tm.Ds_all, Ty.Ds_all, Tm.D, Ty.D, listAll] using h7) e; conv => whnf
        refine brK.ntt hb6 ?_; conv => whnf
        refine ⟨⟨fun h8 => ?_, fun h8 => ?_⟩⟩
        ·replace e := ifp h8 e; conv => whnf
         obtain rfl := sm e
         repeat' first | exact rfl | exact trivial | refine ⟨?_, ?_⟩
        ·replace e := ifn h8 e; conv => whnf
         refine ⟨⟨fun h9 => ?_, fun h9 => ?_⟩⟩
         ·replace e := ifp (by first | exact h9 | omega | simpa [Tm.Ds_all, Ty.Ds_all, Tm.D, Ty.D, listAll] using h9) e; conv => whnf
          obtain rfl := sm e
          repeat' first | exact rfl | exact trivial | refine ⟨?_, ?_⟩
         ·replace e := ifn (by first | exact h9 | omega | simpa [Tm.Ds_all, Ty.Ds_all, Tm.D, Ty.D, listAll] using h9) e; conv => whnf
          obtain ⟨v10, qv10, e⟩ := bnd e
          obtain ⟨qv10k, qv10a, qv10b⟩ := geti_some qv10
          refine ⟨qv10k, _, qv10a, Ty.Ds_get qv10b, ?_⟩; conv => whnf
          refine ⟨Ty.Ds_fit _ rfl rfl, ?_⟩; conv => whnf
          obtain rfl := sm e
          repeat' first | exact rfl | exact trivial | refine ⟨?_, ?_⟩
      ·replace e := ifnb hb6 e; conv => whnf
       refine brK.nff hb6 ?_; conv => whnf
       refine brK.nff hb6 ?_; conv => whnf
       refine brK.nff hb6 ?_; conv => whnf
       refine brK.nff hb6 ?_; conv => whnf
       obtain rfl := sm e
       repeat' first | exact rfl | exact trivial | refine ⟨?_, ?_⟩
    ·replace e := ifn h3 e; conv => whnf
     refine ⟨⟨fun h4 => ?_, fun h4 => ?_⟩⟩
     ·replace e := ifp h4 e; conv => whnf
      refine ⟨⟨fun h5 => ?_, fun h5 => ?_⟩⟩
      ·replace e := ifp h5 e; conv => whnf
       obtain rfl := sm e
       repeat' first | exact rfl | exact trivial | refine ⟨?_, ?_⟩
      ·replace e := ifn h5 e; conv => whnf
       obtain ⟨v6, qv6, e⟩ := bnd e
       refine said_pure (P_z02_none qv6) rfl ?_; conv => whnf
       refine brK.nsplit (fun hb7 => ?_) (fun hb7 => ?_)
       ·replace e := ifpb hb7 e; conv => whnf
        refine brK.ntt hb7 ?_; conv => whnf
        refine brK.ntt hb7 ?_; conv => whnf
        refine ⟨⟨fun h8 => ?_, fun h8 => ?_⟩⟩
        ·replace e := ifp h8 e; conv => whnf
         refine brK.ntt hb7 ?_; conv => whnf
         obtain rfl := sm e
         repeat' first | exact rfl | exact trivial | refine ⟨?_, ?_⟩
        ·replace e := ifn h8 e; conv => whnf
         refine brK.ntt hb7 ?_; conv => whnf
         refine ⟨⟨fun h9 => ?_, fun h9 => ?_⟩⟩
         ·replace e := ifp (by first | exact h9 | omega | simpa [Tm.Ds_all, Ty.Ds_all, Tm.D, Ty.D, listAll] using h9) e; conv => whnf
          obtain rfl := sm e
          repeat' first | exact rfl | exact trivial | refine ⟨?_, ?_⟩
         ·replace e := ifn (by first | exact h9 | omega | simpa [Tm.Ds_all, Ty.Ds_all, Tm.D, Ty.D, listAll] using h9) e; conv => whnf
          obtain ⟨v10, qv10, e⟩ := bnd e
          obtain ⟨qv10k, qv10a, qv10b⟩ := geti_some qv10
          refine ⟨qv10k, _, qv10a, Tm.Ds_get qv10b, ?_⟩; conv => whnf
          refine ⟨Tm.Ds_fit _ rfl rfl, ?_⟩; conv => whnf
          obtain ⟨v11, qv11, e⟩ := bnd e
          refine said_pure (ih_z02_Formed _ _ qv11 _ _ rfl) rfl ?_; conv => whnf
          obtain ⟨v12, qv12, e⟩ := bnd e
          obtain ⟨qv12k, qv12a, qv12b⟩ := geti_some qv12
          refine ⟨qv12k, _, qv12a, Tm.Ds_get qv12b, ?_⟩; conv => whnf
          refine ⟨Tm.Ds_fit _ rfl rfl, ?_⟩; conv => whnf
          obtain ⟨v13, qv13, e⟩ := bnd e
          refine said_pure (ih_z02_Formed _ _ qv13 _ _ rfl) rfl ?_; conv => whnf
          refine draw_rule [] T_ok mixed z02_Formed_pl14 (by decide +kernel) ?_; conv => whnf
          refine brK.nsplit (fun hb14 => ?_) (fun hb14 => ?_)
          ·replace e := ifpb hb14 e; conv => whnf
           refine brK.ntt hb14 ?_; conv => whnf
           refine brK.ntt hb14 ?_; conv => whnf
           refine brK.nsplit (fun hb15 => ?_) (fun hb15 => ?_)
           ·replace e := ifpb hb15 e; conv => whnf
            refine brK.ntt hb15 ?_; conv => whnf
            refine brK.ntt hb15 ?_; conv => whnf
            refine brK.split (fun hb16 => ?_) (fun hb16 => ?_)
            ·replace e := ifpb hb16 e; conv => whnf
             refine brK.tt hb16 ?_; conv => whnf
             refine brK.tt hb16 ?_; conv => whnf
             refine brK.tt hb16 ?_; conv => whnf
             obtain rfl := sm e
             repeat' first | exact rfl | exact trivial | refine ⟨?_, ?_⟩
            ·replace e := ifnb hb16 e; conv => whnf
             refine brK.ff hb16 ?_; conv => whnf
             refine brK.ff hb16 ?_; conv => whnf
             refine ⟨⟨fun h17 => ?_, fun h17 => ?_⟩⟩
             ·replace e := ifp h17 e; conv => whnf
              refine brK.ff hb16 ?_; conv => whnf
              obtain rfl := sm e
              repeat' first | exact rfl | exact trivial | refine ⟨?_, ?_⟩
             ·replace e := ifn h17 e; conv => whnf
              refine brK.ff hb16 ?_; conv => whnf
              refine ⟨⟨fun h18 => ?_, fun h18 => ?_⟩⟩
              ·replace e := ifp (by first | exact h18 | omega | simpa [Tm.Ds_all, Ty.Ds_all, Tm.D, Ty.D, listAll] using h18) e; conv => whnf
               obtain rfl := sm e
               repeat' first | exact rfl | exact trivial | refine ⟨?_, ?_⟩
              ·replace e := ifn (by first | exact h18 | omega | simpa [Tm.Ds_all, Ty.Ds_all, Tm.D, Ty.D, listAll] using h18) e; conv => whnf
               obtain ⟨v19, qv19, e⟩ := bnd e
               obtain ⟨qv19k, qv19a, qv19b⟩ := geti_some qv19
               refine ⟨qv19k, _, qv19a, Ty.Ds_get qv19b, ?_⟩; conv => whnf
               refine ⟨Ty.Ds_fit _ rfl rfl, ?_⟩; conv => whnf
               obtain ⟨v20, qv20, e⟩ := bnd e
               refine said_pure (P_z01_Same qv20) rfl ⟨Keeps.refl _ _, ?_⟩; conv => whnf
               refine brK.nsplit (fun hb21 => ?_) (fun hb21 => ?_)
               ·replace e := ifpb hb21 e; conv => whnf
                obtain ⟨v22, qv22, e⟩ := bnd e
                obtain ⟨qv22k, qv22a, qv22b⟩ := geti_some qv22
                refine ⟨qv22k, _, qv22a, Ty.Ds_get qv22b, ?_⟩; conv => whnf
                refine ⟨Ty.Ds_fit _ rfl rfl, ?_⟩; conv => whnf
                obtain rfl := sm e
                repeat' first | exact rfl | exact trivial | refine ⟨?_, ?_⟩
               ·replace e := ifnb hb21 e; conv => whnf
                obtain rfl := sm e
                repeat' first | exact rfl | exact trivial | refine ⟨?_, ?_⟩
           ·replace e := ifnb hb15 e; conv => whnf
            refine brK.nff hb15 ?_; conv => whnf
            refine brK.nff hb15 ?_; conv => whnf
            obtain rfl := sm e
            repeat' first | exact rfl | exact trivial | refine ⟨?_, ?_⟩
          ·replace e := ifnb hb14 e; conv => whnf
           refine brK.nff hb14 ?_; conv => whnf
           refine brK.nff hb14 ?_; conv => whnf
           obtain rfl := sm e
           repeat' first | exact rfl | exact trivial | refine ⟨?_, ?_⟩
       ·replace e := ifnb hb7 e; conv => whnf
        refine brK.nff hb7 ?_; conv => whnf
        refine brK.nff hb7 ?_; conv => whnf
        refine brK.nff hb7 ?_; conv => whnf
        obtain rfl := sm e
        repeat' first | exact rfl | exact trivial | refine ⟨?_, ?_⟩
     ·replace e := ifn h4 e; conv => whnf
      refine ⟨⟨fun h5 => ?_, fun h5 => ?_⟩⟩
      ·replace e := ifp h5 e; conv => whnf
       obtain ⟨v6, qv6, e⟩ := bnd e
       refine said_pure (P_z02_Name qv6) rfl ?_; conv => whnf
       refine brK.nsplit (fun hb7 => ?_) (fun hb7 => ?_)
       ·replace e := ifpb hb7 e; conv => whnf
        refine brK.ntt hb7 ?_; conv => whnf
        refine brK.ntt hb7 ?_; conv => whnf
        obtain ⟨v8, qv8, e⟩ := bnd e
        refine said_pure (P_z01_Valid qv8) rfl ?_; conv => whnf
        refine brK.ntt hb7 ?_; conv => whnf
        refine brK.ntt hb7 ?_; conv => whnf
        refine brK.nsplit (fun hb9 => ?_) (fun hb9 => ?_)
        ·replace e := ifpb hb9 e; conv => whnf
         refine brK.ntt hb9 ?_; conv => whnf
         refine brK.ntt hb9 ?_; conv => whnf
         refine ⟨⟨fun h10 => ?_, fun h10 => ?_⟩⟩
         ·replace e := ifp h10 e; conv => whnf
          refine brK.ntt hb9 ?_; conv => whnf
          obtain rfl := sm e
          repeat' first | exact rfl | exact trivial | refine ⟨?_, ?_⟩
         ·replace e := ifn h10 e; conv => whnf
          refine brK.ntt hb9 ?_; conv => whnf
          refine ⟨⟨fun h11 => ?_, fun h11 => ?_⟩⟩
          ·replace e := ifp (by first | exact h11 | omega | simpa [Tm.Ds_all, Ty.Ds_all, Tm.D, Ty.D, listAll] using h11) e; conv => whnf
           obtain rfl := sm e
           repeat' first | exact rfl | exact trivial | refine ⟨?_, ?_⟩
          ·replace e := ifn (by first | exact h11 | omega | simpa [Tm.Ds_all, Ty.Ds_all, Tm.D, Ty.D, listAll] using h11) e; conv => whnf
           refine draw_rule [] T_ok mixed z02_Formed_pl20 (by decide +kernel) ?_; conv => whnf
           obtain ⟨v12, qv12, e⟩ := bnd e
           obtain ⟨qv12k, qv12a, qv12b⟩ := geti_some qv12
           refine ⟨qv12k, _, qv12a, Tm.Ds_get qv12b, ?_⟩; conv => whnf
           refine ⟨Tm.Ds_fit _ rfl rfl, ?_⟩; conv => whnf
           refine ⟨⟨⟨rfl, rfl⟩, trivial⟩, ?_⟩; conv => whnf
           obtain ⟨v13, qv13, e⟩ := bnd e
           obtain ⟨v14, qv14, e⟩ := bnd e
           refine ⟨?_, ?_⟩
           ·(conv => whnf)
            obtain ⟨qv13l, qv13e⟩ := app_some qv13
            refine ⟨(by first | exact qv13l | simpa [Tm.Ds_all, Ty.Ds_all, Tm.D, Ty.D, listAll] using qv13l), rfl, fun hz => ?_, fun hz => ?_⟩
            ·have hyv13 : a1 = [] := by simpa [Ty.Ds_map, List.map_eq_nil_iff, Tm.Ds_all, Ty.Ds_all, Tm.D, Ty.D, listAll] using hz
             have hzv13 : v13 = [a0.ty] := by rw [qv13e, hyv13]; simp
             (conv => whnf)
             refine ⟨?_, ?_⟩
             ·(conv => whnf)
              first | (refine said_pure (ih_z02_Formed _ _ qv14 _ _ rfl) rfl ⟨Keeps.refl _ _, ?_⟩) | (refine said_pure2 (ih_z02_Formed _ _ qv14 _ _ rfl) rfl (by simp [Tm.Ds_all, Ty.Ds_all, Tm.D, Ty.D, listAll, hzv13] <;> (repeat' first | rfl | apply And.intro)) ⟨Keeps.refl _ _, ?_⟩)
              (conv => whnf)
              refine Runs.weak (P_z02_Formed_j0 e).2 ?_
              repeat' first | exact wk.of_eq rfl | exact wk.pure rfl | exact wk.un _ | exact wk.hold _ _ _ | exact wk.holdG _ _ _ | exact rfl | exact trivial | refine ⟨?_, ?_⟩
             ·(conv => whnf)
              first | (refine said_pure (ih_z02_Formed _ _ qv14 _ _ rfl) rfl ⟨Keeps.refl _ _, ?_⟩) | (refine said_pure2 (ih_z02_Formed _ _ qv14 _ _ rfl) rfl (by simp [Tm.Ds_all, Ty.Ds_all, Tm.D, Ty.D, listAll, hzv13] <;> (repeat' first | rfl | apply And.intro)) ⟨Keeps.refl _ _, ?_⟩)
              (conv => whnf)
              refine Runs.weak (P_z02_Formed_j0 e).2 ?_
              repeat' first | exact wk.of_eq rfl | exact wk.pure rfl | exact wk.un _ | exact wk.hold _ _ _ | exact wk.holdG _ _ _ | exact rfl | exact trivial | refine ⟨?_, ?_⟩
            ·(conv => whnf)
             refine ⟨?_, ?_⟩
             ·(conv => whnf)
              first | (refine said_pure (ih_z02_Formed _ _ qv14 _ _ rfl) rfl ⟨Keeps.refl _ _, ?_⟩) | (refine said_pure2 (ih_z02_Formed _ _ qv14 _ _ rfl) rfl (by simp [Tm.Ds_all, Ty.Ds_all, Tm.D, Ty.D, listAll, qv13e] <;> (repeat' first | rfl | apply And.intro)) ⟨Keeps.refl _ _, ?_⟩)
              (conv => whnf)
              refine Runs.weak ((P_z02_Formed_j0 e).1 v13) ?_
              repeat' first | exact wk.of_eq rfl | exact wk.pure rfl | exact wk.un _ | exact wk.hold _ _ _ | exact wk.holdG _ _ _ | exact rfl | exact trivial | refine ⟨?_, ?_⟩ | (refine wk.of_eq ?_; (conv => lhs; whnf); (simp [Tm.Ds_all, Ty.Ds_all, Tm.D, Ty.D, listAll, qv13e] <;> (repeat' first | rfl | apply And.intro)); done) | (refine wk.pure ?_; (conv => lhs; whnf); (simp [Tm.Ds_all, Ty.Ds_all, Tm.D, Ty.D, listAll, qv13e] <;> (repeat' first | rfl | apply And.intro)); done) | ((simp [Tm.Ds_all, Ty.Ds_all, Tm.D, Ty.D, listAll, qv13e] <;> (repeat' first | rfl | apply And.intro)); done) | (simp [Tm.Ds_all, Ty.Ds_all, Tm.D, Ty.D, listAll, qv13e]; omega)
             ·(conv => whnf)
              first | (refine said_pure (ih_z02_Formed _ _ qv14 _ _ rfl) rfl ⟨Keeps.refl _ _, ?_⟩) | (refine said_pure2 (ih_z02_Formed _ _ qv14 _ _ rfl) rfl (by simp [Tm.Ds_all, Ty.Ds_all, Tm.D, Ty.D, listAll, qv13e] <;> (repeat' first | rfl | apply And.intro)) ⟨Keeps.refl _ _, ?_⟩)
              (conv => whnf)
              refine Runs.weak ((P_z02_Formed_j0 e).1 v13) ?_
              repeat' first | exact wk.of_eq rfl | exact wk.pure rfl | exact wk.un _ | exact wk.hold _ _ _ | exact wk.holdG _ _ _ | exact rfl | exact trivial | refine ⟨?_, ?_⟩ | (refine wk.of_eq ?_; (conv => lhs; whnf); (simp [Tm.Ds_all, Ty.Ds_all, Tm.D, Ty.D, listAll, qv13e] <;> (repeat' first | rfl | apply And.intro)); done) | (refine wk.pure ?_; (conv => lhs; whnf); (simp [Tm.Ds_all, Ty.Ds_all, Tm.D, Ty.D, listAll, qv13e] <;> (repeat' first | rfl | apply And.intro)); done) | ((simp [Tm.Ds_all, Ty.Ds_all, Tm.D, Ty.D, listAll, qv13e] <;> (repeat' first | rfl | apply And.intro)); done) | (simp [Tm.Ds_all, Ty.Ds_all, Tm.D, Ty.D, listAll, qv13e]; omega)
           ·(conv => whnf)
            obtain ⟨qv13l, qv13e⟩ := app_some qv13
            refine ⟨(by first | exact qv13l | simpa [Tm.Ds_all, Ty.Ds_all, Tm.D, Ty.D, listAll] using qv13l), rfl, fun hz => ?_, fun hz => ?_⟩
            ·have hyv13 : a1 = [] := by simpa [Ty.Ds_map, List.map_eq_nil_iff, Tm.Ds_all, Ty.Ds_all, Tm.D, Ty.D, listAll] using hz
             have hzv13 : v13 = [a0.ty] := by rw [qv13e, hyv13]; simp
             (conv => whnf)
             first | (refine said_pure (ih_z02_Formed _ _ qv14 _ _ rfl) rfl ⟨Keeps.refl _ _, ?_⟩) | (refine said_pure2 (ih_z02_Formed _ _ qv14 _ _ rfl) rfl (by simp [Tm.Ds_all, Ty.Ds_all, Tm.D, Ty.D, listAll, hzv13] <;> (repeat' first | rfl | apply And.intro)) ⟨Keeps.refl _ _, ?_⟩)
             (conv => whnf)
             refine Runs.weak (P_z02_Formed_j0 e).2 ?_
             repeat' first | exact wk.of_eq rfl | exact wk.pure rfl | exact wk.un _ | exact wk.hold _ _ _ | exact wk.holdG _ _ _ | exact rfl | exact trivial | refine ⟨?_, ?_⟩
            ·(conv => whnf)
             first | (refine said_pure (ih_z02_Formed _ _ qv14 _ _ rfl) rfl ⟨Keeps.refl _ _, ?_⟩) | (refine said_pure2 (ih_z02_Formed _ _ qv14 _ _ rfl) rfl (by simp [Tm.Ds_all, Ty.Ds_all, Tm.D, Ty.D, listAll, qv13e] <;> (repeat' first | rfl | apply And.intro)) ⟨Keeps.refl _ _, ?_⟩)
             (conv => whnf)
             refine Runs.weak (P_z02_Formed_j0 e).2 ?_
             repeat' first | exact wk.of_eq rfl | exact wk.pure rfl | exact wk.un _ | exact wk.hold _ _ _ | exact wk.holdG _ _ _ | exact rfl | exact trivial | refine ⟨?_, ?_⟩
        ·replace e := ifnb hb9 e; conv => whnf
         refine brK.nff hb9 ?_; conv => whnf
         refine brK.nff hb9 ?_; conv => whnf
         refine brK.nff hb9 ?_; conv => whnf
         obtain rfl := sm e
         repeat' first | exact rfl | exact trivial | refine ⟨?_, ?_⟩
       ·replace e := ifnb hb7 e; conv => whnf
        refine brK.nff hb7 ?_; conv => whnf
        refine brK.nff hb7 ?_; conv => whnf
        refine brK.nff hb7 ?_; conv => whnf
        refine brK.nff hb7 ?_; conv => whnf
        obtain rfl := sm e
        repeat' first | exact rfl | exact trivial | refine ⟨?_, ?_⟩
      ·replace e := ifn h5 e; conv => whnf
       obtain rfl := sm e
       repeat' first | exact rfl | exact trivial | refine ⟨?_, ?_⟩
theorem P_z02_Formed {a0 : Tm} {a1 : (List Ty)} {r : (Ty × Bool)} (e : z02_Formed a0 a1 = some r) : M_z02_Formed a0 a1 r := G_z02_Formed _ _ e _ _ rfl
theorem P_z02_Check {a0 : Tm} {r : Int} (e : z02_Check a0 = some r) : Pure Try.prog 30 [(Tm.D a0)] (.int .i64 r) := by
 unfold z02_Check at e
 refine pure_of_awp (js := []) T_ok Try.func30 rfl (by decide +kernel) rfl ?_; conv => whnf
 obtain ⟨v1, qv1, e⟩ := bnd e
 refine said_pure (P_z02_Small qv1) rfl ?_; conv => whnf
 refine brK.nsplit (fun hb2 => ?_) (fun hb2 => ?_)
 ·replace e := ifpb hb2 e; conv => whnf
  obtain ⟨v3, qv3, e⟩ := bnd e
  refine said_pure (P_z02_Formed qv3) rfl ?_; conv => whnf
  refine brK.nsplit (fun hb4 => ?_) (fun hb4 => ?_)
  ·replace e := ifpb hb4 e; conv => whnf
   obtain rfl := sm e
   repeat' first | exact rfl | exact trivial | refine ⟨?_, ?_⟩
  ·replace e := ifnb hb4 e; conv => whnf
   obtain rfl := sm e
   repeat' first | exact rfl | exact trivial | refine ⟨?_, ?_⟩
 ·replace e := ifnb hb2 e; conv => whnf
  obtain rfl := sm e
  repeat' first | exact rfl | exact trivial | refine ⟨?_, ?_⟩
end Go.Proofs.Ytemfpemejagndaa.Fw


set_option maxHeartbeats 4000000
namespace Go.Proofs.Ytemfpemejagndaa.Fw
open Go Go.Proofs Go.RowKit
def M_z31_Put_l1 (rest1 : (List XN)) (k1 : Nat) (a1 : Tm) (c0_0_0 : (List YN)) (c0_1_0 : (List XN)) (c3_2_2 : Int) (c3_4_0 : (List Int)) (r : (AStore × Int)) : Prop := ∀ (hd1 : rest1 = c0_1_0.drop k1), LoopAt T Try.prog Try.f31 Fx0 [6, 12] [1, 1, 1, 1, 0, 1, 0] (EP T Try.f31 (.tuple [(AStore.D r.1), (.int .i64 r.2)])) [(2, .ptr 0 0 0), (4, .ptr 0 2 0), (6, .ptr 0 3 0), (12, .d (.int .i64 (k1 : Int)))] [[.cells [.d (.slice 3 (YN.Ds c0_0_0)), .d (.slice 5 (XN.Ds c0_1_0))], .cells [.d (.int .u8 a1.kind), .d (.str a1.name), .d (.bool a1.ty.v), .d (.str a1.ty.name), .d (.slice 3 (Ty.Ds a1.ty.args)), .d (.int .i64 a1.index), .d (.slice 7 (Tm.Ds a1.sub))], .cells [.nil 3, .nil 5], .cells [.d (.int .u8 a1.kind), .d (.str a1.name), .d (.int .i64 c3_2_2), .d (.int .i64 a1.index), .own 0 4 1 (intDs_i64 c3_4_0)], .grow 1 (intDs_i64 c3_4_0).length]]
theorem G_z31_Put_l1 : (∀ p r, z31_Put_l1' p = some r → ∀ rest1 k1 a1 c0_0_0 c0_1_0 c3_2_2 c3_4_0, (rest1, k1, a1, c0_0_0, c0_1_0, c3_2_2, c3_4_0) = p → M_z31_Put_l1 rest1 k1 a1 c0_0_0 c0_1_0 c3_2_2 c3_4_0 r) := by
 refine z31_Put_l1'.partial_correctness (fun (p : ((List XN) × Nat × Tm × (List YN) × (List XN) × Int × (List Int))) (r : (AStore × Int)) => ∀ (rest1 : (List XN)) (k1 : Nat) (a1 : Tm) (c0_0_0 : (List YN)) (c0_1_0 : (List XN)) (c3_2_2 : Int) (c3_4_0 : (List Int)), (rest1, k1, a1, c0_0_0, c0_1_0, c3_2_2, c3_4_0) = p → M_z31_Put_l1 rest1 k1 a1 c0_0_0 c0_1_0 c3_2_2 c3_4_0 r) ?_
 ·intro f_z31_Put_l1 ih_z31_Put_l1 p r e rest1 k1 a1 c0_0_0 c0_1_0 c3_2_2 c3_4_0 hp
  subst hp
  intro hd1
  refine RunsL.len_cell 0 1 rfl rfl rfl fun hlenk1 => ?_
  refine RunsL.of_awp (js := [6, 12]) T_ok ?_; conv => whnf
  have hls := XN.Ds_len c0_1_0
  cases rest1 with
  | nil =>
   have hk := drop_nil hd1
   refine ⟨⟨fun h => absurd h (by omega), fun _ => ?_⟩⟩; conv => whnf
   refine draw_rule [] T_ok mixed z31_Put_pl17 (by decide +kernel) ?_; conv => whnf
   refine ⟨trivial, ?_⟩; conv => whnf
   refine ⟨⟨⟨rfl, rfl⟩, trivial⟩, ?_⟩; conv => whnf
   obtain ⟨v14, qv14, e⟩ := bnd e
   obtain ⟨qv14l, qv14e⟩ := app_some qv14
   refine ⟨(by first | exact qv14l | simpa [XN.Ds_all, YN.Ds_all, Tm.Ds_all, Ty.Ds_all, intDs_i64_all, AStore.D, XN.D, YN.D, Tm.D, Ty.D, listAll] using qv14l), rfl, fun hz => ?_, fun hz => ?_⟩
   ·have hyv14 : c0_1_0 = [] := by simpa [XN.Ds_map, List.map_eq_nil_iff, XN.Ds_all, YN.Ds_all, Tm.Ds_all, Ty.Ds_all, intDs_i64_all, AStore.D, XN.D, YN.D, Tm.D, Ty.D, listAll] using hz
    have hzv14 : v14 = ([] : List XN) := by rw [qv14e, hyv14]; simp
    (conv => whnf)
    obtain ⟨v15, qv15, e⟩ := bnd e
    obtain ⟨qv15l, qv15e⟩ := app_some qv15
    refine ⟨(by first | exact qv15l | simpa [XN.Ds_all, YN.Ds_all, Tm.Ds_all, Ty.Ds_all, intDs_i64_all, AStore.D, XN.D, YN.D, Tm.D, Ty.D, listAll] using qv15l | simpa [XN.Ds_all, YN.Ds_all, Tm.Ds_all, Ty.Ds_all, intDs_i64_all, AStore.D, XN.D, YN.D, Tm.D, Ty.D, listAll, hzv14] using qv15l), rfl, fun h => (by first | cases h | simp at h), fun _ => ?_⟩; conv => whnf
    refine draw_rule [] T_ok mixed z31_Put_pl18 (by decide +kernel) ?_; conv => whnf
    obtain ⟨v16, qv16, e⟩ := bnd e
    refine ⟨v16, (by have := sm qv16; first | exact this | simpa [XN.Ds_all, YN.Ds_all, Tm.Ds_all, Ty.Ds_all, intDs_i64_all, AStore.D, XN.D, YN.D, Tm.D, Ty.D, listAll] using this | simpa [XN.Ds_all, YN.Ds_all, Tm.Ds_all, Ty.Ds_all, intDs_i64_all, AStore.D, XN.D, YN.D, Tm.D, Ty.D, listAll, hzv14, qv15e] using this), ?_⟩; conv => whnf
    obtain rfl := sm e
    repeat' first | exact rfl | exact trivial | refine ⟨_, rfl, ?_, ?_⟩ | refine ⟨?_, ?_⟩ | (simp [XN.Ds_all, YN.Ds_all, Tm.Ds_all, Ty.Ds_all, intDs_i64_all, AStore.D, XN.D, YN.D, Tm.D, Ty.D, listAll, hzv14, qv15e] <;> (repeat' first | rfl | apply And.intro))
   ·(conv => whnf)
    obtain ⟨v15, qv15, e⟩ := bnd e
    obtain ⟨qv15l, qv15e⟩ := app_some qv15
    refine ⟨(by first | exact qv15l | simpa [XN.Ds_all, YN.Ds_all, Tm.Ds_all, Ty.Ds_all, intDs_i64_all, AStore.D, XN.D, YN.D, Tm.D, Ty.D, listAll] using qv15l | simpa [XN.Ds_all, YN.Ds_all, Tm.Ds_all, Ty.Ds_all, intDs_i64_all, AStore.D, XN.D, YN.D, Tm.D, Ty.D, listAll, qv14e] using qv15l), rfl, (by first | rfl | simp [XN.Ds_all, YN.Ds_all, Tm.Ds_all, Ty.Ds_all, intDs_i64_all, AStore.D, XN.D, YN.D, Tm.D, Ty.D, listAll]), ?_⟩; conv => whnf
    refine draw_rule [] T_ok mixed z31_Put_pl18 (by decide +kernel) ?_; conv => whnf
    obtain ⟨v16, qv16, e⟩ := bnd e
    refine ⟨v16, (by have := sm qv16; first | exact this | simpa [XN.Ds_all, YN.Ds_all, Tm.Ds_all, Ty.Ds_all, intDs_i64_all, AStore.D, XN.D, YN.D, Tm.D, Ty.D, listAll] using this | simpa [XN.Ds_all, YN.Ds_all, Tm.Ds_all, Ty.Ds_all, intDs_i64_all, AStore.D, XN.D, YN.D, Tm.D, Ty.D, listAll, qv14e, qv15e] using this), ?_⟩; conv => whnf
    obtain rfl := sm e
    repeat' first | exact rfl | exact trivial | refine ⟨_, rfl, ?_, ?_⟩ | refine ⟨?_, ?_⟩ | (simp [XN.Ds_all, YN.Ds_all, Tm.Ds_all, Ty.Ds_all, intDs_i64_all, AStore.D, XN.D, YN.D, Tm.D, Ty.D, listAll, qv14e, qv15e] <;> (repeat' first | rfl | apply And.intro))
  | cons v13 rest1 =>
   obtain ⟨hxv13, hd1, hltv13⟩ := drop_head hd1
   refine ⟨⟨fun _ => ?_, fun h => absurd (by omega) h⟩⟩; conv => whnf
   refine draw_rule [] T_ok mixed z31_Put_pl15 (by decide +kernel) ?_; conv => whnf
   refine ⟨k1, _, rfl, XN.Ds_get hxv13, ?_⟩; conv => whnf
   refine ⟨XN.Ds_fit _ rfl rfl, ?_⟩; conv => whnf
   obtain ⟨v14, qv14, e⟩ := bnd e
   first | (refine said_pure (P_z31_sameTerm qv14) rfl ⟨Keeps.refl _ _, ?_⟩) | (refine said_pure2 (P_z31_sameTerm qv14) rfl (by simp [XN.Ds_all, YN.Ds_all, Tm.Ds_all, Ty.Ds_all, intDs_i64_all, AStore.D, XN.D, YN.D, Tm.D, Ty.D, listAll] <;> (repeat' first | rfl | apply And.intro)) ⟨Keeps.refl _ _, ?_⟩)
   (conv => whnf)
   refine brK.split (fun hb15 => ?_) (fun hb15 => ?_)
   ·replace e := ifpb hb15 e; conv => whnf
    obtain rfl := sm e
    repeat' first | exact rfl | exact trivial | refine ⟨?_, ?_⟩
   ·replace e := ifnb hb15 e; conv => whnf
    refine ⟨((k1 + 1 : Nat) : Int), wrap64e (by omega) (by omega) (by omega), ?_⟩; conv => whnf
    refine (RunsL.weak ((ih_z31_Put_l1 _ _ e _ _ _ _ _ _ _ rfl) hd1) ?_)
    repeat' first | exact wk.of_eq rfl | exact wk.pure rfl | exact wk.un _ | exact wk.hold _ _ _ | exact wk.holdG _ _ _ | exact rfl | exact trivial | refine ⟨?_, ?_⟩ | (refine wk.of_eq ?_; (conv => lhs; whnf); (simp [XN.Ds_all, YN.Ds_all, Tm.Ds_all, Ty.Ds_all, intDs_i64_all, AStore.D, XN.D, YN.D, Tm.D, Ty.D, listAll] <;> (repeat' first | rfl | apply And.intro)); done) | (refine wk.pure ?_; (conv => lhs; whnf); (simp [XN.Ds_all, YN.Ds_all, Tm.Ds_all, Ty.Ds_all, intDs_i64_all, AStore.D, XN.D, YN.D, Tm.D, Ty.D, listAll] <;> (repeat' first | rfl | apply And.intro)); done) | ((simp [XN.Ds_all, YN.Ds_all, Tm.Ds_all, Ty.Ds_all, intDs_i64_all, AStore.D, XN.D, YN.D, Tm.D, Ty.D, listAll] <;> (repeat' first | rfl | apply And.intro)); done) | (simp [XN.Ds_all, YN.Ds_all, Tm.Ds_all, Ty.Ds_all, intDs_i64_all, AStore.D, XN.D, YN.D, Tm.D, Ty.D, listAll]; omega)
theorem P_z31_Put_l1 {rest1 : (List XN)} {k1 : Nat} {a1 : Tm} {c0_0_0 : (List YN)} {c0_1_0 : (List XN)} {c3_2_2 : Int} {c3_4_0 : (List Int)} {r : (AStore × Int)} (e : z31_Put_l1 rest1 k1 a1 c0_0_0 c0_1_0 c3_2_2 c3_4_0 = some r) : M_z31_Put_l1 rest1 k1 a1 c0_0_0 c0_1_0 c3_2_2 c3_4_0 r := G_z31_Put_l1 _ _ e _ _ _ _ _ _ _ rfl
theorem P_z31_Put_j1 {a1 : Tm} {c0_0_0 : (List YN)} {c0_1_0 : (List XN)} {c3_2_2 : Int} {c3_4_0 : (List Int)} {r : (AStore × Int)} (e : z31_Put_j1 a1 c0_0_0 c0_1_0 c3_2_2 c3_4_0 = some r) : JoinAt T Try.prog Try.f31 Fx0 [6, 12] [1, 1, 1, 1, 0, 0] (EP T Try.f31 (.tuple [(AStore.D r.1), (.int .i64 r.2)])) [(2, .ptr 0 0 0), (4, .ptr 0 2 0), (6, .ptr 0 3 0)] [[.cells [.d (.slice 3 (YN.Ds c0_0_0)), .d (.slice 5 (XN.Ds c0_1_0))], .cells [.d (.int .u8 a1.kind), .d (.str a1.name), .d (.bool a1.ty.v), .d (.str a1.ty.name), .d (.slice 3 (Ty.Ds a1.ty.args)), .d (.int .i64 a1.index), .d (.slice 7 (Tm.Ds a1.sub))], .cells [.nil 3, .nil 5], .cells [.d (.int .u8 a1.kind), .d (.str a1.name), .d (.int .i64 c3_2_2), .d (.int .i64 a1.index), .own 0 4 1 (intDs_i64 c3_4_0)], .grow 1 (intDs_i64 c3_4_0).length]] := by
 unfold z31_Put_j1 at e
 refine Runs.enter T_ok ?_; conv => whnf
 refine RunsL.runs (RunsL.weak ((P_z31_Put_l1 e) (by simp)) ?_)
 repeat' first | exact wk.of_eq rfl | exact wk.pure rfl | exact wk.un _ | exact wk.hold _ _ _ | exact wk.holdG _ _ _ | exact rfl | exact trivial | refine ⟨?_, ?_⟩ | (refine wk.of_eq ?_; (conv => lhs; whnf); (simp [XN.Ds_all, YN.Ds_all, Tm.Ds_all, Ty.Ds_all, intDs_i64_all, AStore.D, XN.D, YN.D, Tm.D, Ty.D, listAll] <;> (repeat' first | rfl | apply And.intro)); done) | (refine wk.pure ?_; (conv => lhs; whnf); (simp [XN.Ds_all, YN.Ds_all, Tm.Ds_all, Ty.Ds_all, intDs_i64_all, AStore.D, XN.D, YN.D, Tm.D, Ty.D, listAll] <;> (repeat' first | rfl | apply And.intro)); done) | ((simp [XN.Ds_all, YN.Ds_all, Tm.Ds_all, Ty.Ds_all, intDs_i64_all, AStore.D, XN.D, YN.D, Tm.D, Ty.D, listAll] <;> (repeat' first | rfl | apply And.intro)); done) | (simp [XN.Ds_all, YN.Ds_all, Tm.Ds_all, Ty.Ds_all, intDs_i64_all, AStore.D, XN.D, YN.D, Tm.D, Ty.D, listAll]; omega)
def M_z31_Put (a0 : AStore) (a1 : Tm) (r : (AStore × Int)) : Prop := Pure Try.prog 31 [(AStore.D a0), (Tm.D a1)] (.tuple [(AStore.D r.1), (.int .i64 r.2)])
def M_z31_Put_j0 (c0_0_2 : (List YN)) (c0_1_2 : (List XN)) (c3_2_2 : Int) (a1 : Tm) (r : (AStore × Int)) : Prop := JoinAt T Try.prog Try.f31 Fx0 [6, 12] [1, 1, 1, 0, 0] (EP T Try.f31 (.tuple [(AStore.D r.1), (.int .i64 r.2)])) [(2, .ptr 0 0 0), (3, .ptr 0 1 0), (4, .ptr 0 2 0), (6, .ptr 0 3 0)] [[.cells [.d (.slice 3 (YN.Ds c0_0_2)), .d (.slice 5 (XN.Ds c0_1_2))], .cells [.d (.int .u8 a1.kind), .d (.str a1.name), .d (.bool a1.ty.v), .d (.str a1.ty.name), .d (.slice 3 (Ty.Ds a1.ty.args)), .d (.int .i64 a1.index), .d (.slice 7 (Tm.Ds a1.sub))], .cells [.nil 3, .nil 5], .cells [.d (.int .u8 a1.kind), .d (.str a1.name), .d (.int .i64 c3_2_2), .d (.int .i64 a1.index), .nil 1]]]
def M_z31_Put_l0 (rest0 : (List Tm)) (c0_0_0 : (List YN)) (c0_1_0 : (List XN)) (c3_4_0 : (List Int)) (a1 : Tm) (c3_2_2 : Int) (r : (AStore × Int)) : Prop := ∀ (k0 : Nat) (hd0 : rest0 = a1.sub.drop k0), LoopAt T Try.prog Try.f31 Fx0 [6, 12] [1, 1, 1, 0, 1, 0] (EP T Try.f31 (.tuple [(AStore.D r.1), (.int .i64 r.2)])) [(2, .ptr 0 0 0), (3, .ptr 0 1 0), (4, .ptr 0 2 0), (6, .ptr 0 3 0), (9, .d (.int .i64 (k0 : Int)))] [[.cells [.d (.slice 3 (YN.Ds c0_0_0)), .d (.slice 5 (XN.Ds c0_1_0))], .cells [.d (.int .u8 a1.kind), .d (.str a1.name), .d (.bool a1.ty.v), .d (.str a1.ty.name), .d (.slice 3 (Ty.Ds a1.ty.args)), .d (.int .i64 a1.index), .d (.slice 7 (Tm.Ds a1.sub))], .cells [.nil 3, .nil 5], .cells [.d (.int .u8 a1.kind), .d (.str a1.name), .d (.int .i64 c3_2_2), .d (.int .i64 a1.index), .own 0 4 1 (intDs_i64 c3_4_0)], .grow 1 (intDs_i64 c3_4_0).length]]
theorem G_z31_Put : (∀ p r, z31_Put' p = some r → ∀ a0 a1, (a0, a1) = p → M_z31_Put a0 a1 r) ∧
  (∀ p r, z31_Put_j0' p = some r → ∀ c0_0_2 c0_1_2 c3_2_2 a1, (c0_0_2, c0_1_2, c3_2_2, a1) = p → M_z31_Put_j0 c0_0_2 c0_1_2 c3_2_2 a1 r) ∧
  (∀ p r, z31_Put_l0' p = some r → ∀ rest0 c0_0_0 c0_1_0 c3_4_0 a1 c3_2_2, (rest0, c0_0_0, c0_1_0, c3_4_0, a1, c3_2_2) = p → M_z31_Put_l0 rest0 c0_0_0 c0_1_0 c3_4_0 a1 c3_2_2 r) := by
 refine z31_Put'.mutual_partial_correctness (fun (p : (AStore × Tm)) (r : (AStore × Int)) => ∀ (a0 : AStore) (a1 : Tm), (a0, a1) = p → M_z31_Put a0 a1 r) (fun (p : ((List YN) × (List XN) × Int × Tm)) (r : (AStore × Int)) => ∀ (c0_0_2 : (List YN)) (c0_1_2 : (List XN)) (c3_2_2 : Int) (a1 : Tm), (c0_0_2, c0_1_2, c3_2_2, a1) = p → M_z31_Put_j0 c0_0_2 c0_1_2 c3_2_2 a1 r) (fun (p : ((List Tm) × (List YN) × (List XN) × (List Int) × Tm × Int)) (r : (AStore × Int)) => ∀ (rest0 : (List Tm)) (c0_0_0 : (List YN)) (c0_1_0 : (List XN)) (c3_4_0 : (List Int)) (a1 : Tm) (c3_2_2 : Int), (rest0, c0_0_0, c0_1_0, c3_4_0, a1, c3_2_2) = p → M_z31_Put_l0 rest0 c0_0_0 c0_1_0 c3_4_0 a1 c3_2_2 r) ?_ ?_ ?_
 ·intro f_z31_Put_j0 ih_z31_Put_j0 p r e a0 a1 hp
  subst hp
  refine pure_of_awp (js := [6, 12]) T_ok Try.func31 rfl (by decide +kernel) rfl ?_; conv => whnf
  refine ⟨⟨fun h1 => ?_, fun h1 => ?_⟩⟩
  ·replace e := ifp h1 e; conv => whnf
   obtain ⟨v2, qv2, e⟩ := bnd e
   refine said_pure (P_z31_PutType qv2) rfl ?_; conv => whnf
   refine Runs.weak (ih_z31_Put_j0 _ _ e _ _ _ _ rfl) ?_
   repeat' first | exact wk.of_eq rfl | exact wk.pure rfl | exact wk.un _ | exact wk.hold _ _ _ | exact wk.holdG _ _ _ | exact rfl | exact trivial | refine ⟨?_, ?_⟩
  ·replace e := ifn h1 e; conv => whnf
   refine ⟨⟨fun h2 => ?_, fun h2 => ?_⟩⟩
   ·replace e := ifp h2 e; conv => whnf
    obtain ⟨v3, qv3, e⟩ := bnd e
    refine said_pure (P_z31_PutType qv3) rfl ?_; conv => whnf
    refine Runs.weak (ih_z31_Put_j0 _ _ e _ _ _ _ rfl) ?_
    repeat' first | exact wk.of_eq rfl | exact wk.pure rfl | exact wk.un _ | exact wk.hold _ _ _ | exact wk.holdG _ _ _ | exact rfl | exact trivial | refine ⟨?_, ?_⟩
   ·replace e := ifn h2 e; conv => whnf
    refine ⟨⟨fun h3 => ?_, fun h3 => ?_⟩⟩
    ·replace e := ifp h3 e; conv => whnf
     obtain ⟨v4, qv4, e⟩ := bnd e
     refine said_pure (P_z31_PutType qv4) rfl ?_; conv => whnf
     refine Runs.weak (ih_z31_Put_j0 _ _ e _ _ _ _ rfl) ?_
     repeat' first | exact wk.of_eq rfl | exact wk.pure rfl | exact wk.un _ | exact wk.hold _ _ _ | exact wk.holdG _ _ _ | exact rfl | exact trivial | refine ⟨?_, ?_⟩
    ·replace e := ifn h3 e; conv => whnf
     refine Runs.weak (ih_z31_Put_j0 _ _ e _ _ _ _ rfl) ?_
     repeat' first | exact wk.of_eq rfl | exact wk.pure rfl | exact wk.un _ | exact wk.hold _ _ _ | exact wk.holdG _ _ _ | exact rfl | exact trivial | refine ⟨?_, ?_⟩
 ·intro f_z31_Put_l0 ih_z31_Put_l0 p r e c0_0_2 c0_1_2 c3_2_2 a1 hp
  subst hp
  refine Runs.enter T_ok ?_; conv => whnf
  refine Runs.hold 1 ?_
  refine RunsL.runs (RunsL.weak ((ih_z31_Put_l0 _ _ e _ _ _ _ _ _ rfl) 0 (by simp)) ?_)
  repeat' first | exact wk.of_eq rfl | exact wk.pure rfl | exact wk.un _ | exact wk.hold _ _ _ | exact wk.holdG _ _ _ | exact rfl | exact trivial | refine ⟨?_, ?_⟩ | (refine wk.of_eq ?_; (conv => lhs; whnf); (simp [XN.Ds_all, YN.Ds_all, Tm.Ds_all, Ty.Ds_all, intDs_i64_all, AStore.D, XN.D, YN.D, Tm.D, Ty.D, listAll] <;> (repeat' first | rfl | apply And.intro)); done) | (refine wk.pure ?_; (conv => lhs; whnf); (simp [XN.Ds_all, YN.Ds_all, Tm.Ds_all, Ty.Ds_all, intDs_i64_all, AStore.D, XN.D, YN.D, Tm.D, Ty.D, listAll] <;> (repeat' first | rfl | apply And.intro)); done) | ((simp [XN.Ds_all, YN.Ds_all, Tm.Ds_all, Ty.Ds_all, intDs_i64_all, AStore.D, XN.D, YN.D, Tm.D, Ty.D, listAll] <;> (repeat' first | rfl | apply And.intro)); done) | (simp [XN.Ds_all, YN.Ds_all, Tm.Ds_all, Ty.Ds_all, intDs_i64_all, AStore.D, XN.D, YN.D, Tm.D, Ty.D, listAll]; omega)
 ·intro f_z31_Put f_z31_Put_l0 ih_z31_Put ih_z31_Put_l0 p r e rest0 c0_0_0 c0_1_0 c3_4_0 a1 c3_2_2 hp
  subst hp
  intro k0 hd0
  refine RunsL.len_cell 1 6 rfl rfl rfl fun hlenk0 => ?_
  refine RunsL.of_awp (js := [6, 12]) T_ok ?_; conv => whnf
  have hls := Tm.Ds_len a1.sub
  cases rest0 with
  | nil =>
   have hk := drop_nil hd0
   refine ⟨⟨fun h => absurd h (by omega), fun _ => ?_⟩⟩; conv => whnf
   refine Runs.weak (P_z31_Put_j1 e) ?_
   repeat' first | exact wk.of_eq rfl | exact wk.pure rfl | exact wk.un _ | exact wk.hold _ _ _ | exact wk.holdG _ _ _ | exact rfl | exact trivial | refine ⟨?_, ?_⟩ | (refine wk.of_eq ?_; (conv => lhs; whnf); (simp [XN.Ds_all, YN.Ds_all, Tm.Ds_all, Ty.Ds_all, intDs_i64_all, AStore.D, XN.D, YN.D, Tm.D, Ty.D, listAll] <;> (repeat' first | rfl | apply And.intro)); done) | (refine wk.pure ?_; (conv => lhs; whnf); (simp [XN.Ds_all, YN.Ds_all, Tm.Ds_all, Ty.Ds_all, intDs_i64_all, AStore.D, XN.D, YN.D, Tm.D, Ty.D, listAll] <;> (repeat' first | rfl | apply And.intro)); done) | ((simp [XN.Ds_all, YN.Ds_all, Tm.Ds_all, Ty.Ds_all, intDs_i64_all, AStore.D, XN.D, YN.D, Tm.D, Ty.D, listAll] <;> (repeat' first | rfl | apply And.intro)); done) | (simp [XN.Ds_all, YN.Ds_all, Tm.Ds_all, Ty.Ds_all, intDs_i64_all, AStore.D, XN.D, YN.D, Tm.D, Ty.D, listAll]; omega)
  | cons v10 rest0 =>
   obtain ⟨hxv10, hd0, hltv10⟩ := drop_head hd0
   refine ⟨⟨fun _ => ?_, fun h => absurd (by omega) h⟩⟩; conv => whnf
   refine draw_rule [] T_ok mixed z31_Put_pl9 (by decide +kernel) ?_; conv => whnf
   refine ⟨k0, _, rfl, Tm.Ds_get hxv10, ?_⟩; conv => whnf
   refine ⟨Tm.Ds_fit _ rfl rfl, ?_⟩; conv => whnf
   obtain ⟨v11, qv11, e⟩ := bnd e
   refine ⟨?_, ?_⟩
   ·(conv => whnf)
    refine said_pure (ih_z31_Put _ _ qv11 _ _ rfl) rfl ⟨Keeps.refl _ _, ?_⟩; conv => whnf
    refine ⟨⟨⟨rfl, rfl⟩, trivial⟩, ?_⟩; conv => whnf
    obtain ⟨v12, qv12, e⟩ := bnd e
    obtain ⟨qv12l, qv12e⟩ := app_some qv12
    refine ⟨(by first | exact qv12l | simpa [XN.Ds_all, YN.Ds_all, Tm.Ds_all, Ty.Ds_all, intDs_i64_all, AStore.D, XN.D, YN.D, Tm.D, Ty.D, listAll] using qv12l), rfl, (by first | rfl | simp [XN.Ds_all, YN.Ds_all, Tm.Ds_all, Ty.Ds_all, intDs_i64_all, AStore.D, XN.D, YN.D, Tm.D, Ty.D, listAll]), ?_⟩; conv => whnf
    refine ⟨((k0 + 1 : Nat) : Int), wrap64e (by omega) (by omega) (by omega), ?_⟩; conv => whnf
    refine (RunsL.weak ((ih_z31_Put_l0 _ _ e _ _ _ _ _ _ rfl) (k0 + 1) hd0) ?_)
    repeat' first | exact wk.of_eq rfl | exact wk.pure rfl | exact wk.un _ | exact wk.hold _ _ _ | exact wk.holdG _ _ _ | exact rfl | exact trivial | refine ⟨?_, ?_⟩ | (refine wk.of_eq ?_; (conv => lhs; whnf); (simp [XN.Ds_all, YN.Ds_all, Tm.Ds_all, Ty.Ds_all, intDs_i64_all, AStore.D, XN.D, YN.D, Tm.D, Ty.D, listAll, qv12e] <;> (repeat' first | rfl | apply And.intro)); done) | (refine wk.pure ?_; (conv => lhs; whnf); (simp [XN.Ds_all, YN.Ds_all, Tm.Ds_all, Ty.Ds_all, intDs_i64_all, AStore.D, XN.D, YN.D, Tm.D, Ty.D, listAll, qv12e] <;> (repeat' first | rfl | apply And.intro)); done) | ((simp [XN.Ds_all, YN.Ds_all, Tm.Ds_all, Ty.Ds_all, intDs_i64_all, AStore.D, XN.D, YN.D, Tm.D, Ty.D, listAll, qv12e] <;> (repeat' first | rfl | apply And.intro)); done) | (simp [XN.Ds_all, YN.Ds_all, Tm.Ds_all, Ty.Ds_all, intDs_i64_all, AStore.D, XN.D, YN.D, Tm.D, Ty.D, listAll, qv12e]; omega)
   ·(conv => whnf)
    refine said_pure (ih_z31_Put _ _ qv11 _ _ rfl) rfl ⟨Keeps.refl _ _, ?_⟩; conv => whnf
    refine ⟨⟨⟨rfl, rfl⟩, trivial⟩, ?_⟩; conv => whnf
    obtain ⟨v13, qv13, e⟩ := bnd e
    obtain ⟨qv13l, qv13e⟩ := app_some qv13
    refine ⟨(by first | exact qv13l | simpa [XN.Ds_all, YN.Ds_all, Tm.Ds_all, Ty.Ds_all, intDs_i64_all, AStore.D, XN.D, YN.D, Tm.D, Ty.D, listAll] using qv13l), rfl, (by first | rfl | simp [XN.Ds_all, YN.Ds_all, Tm.Ds_all, Ty.Ds_all, intDs_i64_all, AStore.D, XN.D, YN.D, Tm.D, Ty.D, listAll]), ?_⟩; conv => whnf
    refine ⟨((k0 + 1 : Nat) : Int), wrap64e (by omega) (by omega) (by omega), ?_⟩; conv => whnf
    refine (RunsL.weak ((ih_z31_Put_l0 _ _ e _ _ _ _ _ _ rfl) (k0 + 1) hd0) ?_)
    repeat' first | exact wk.of_eq rfl | exact wk.pure rfl | exact wk.un _ | exact wk.hold _ _ _ | exact wk.holdG _ _ _ | exact rfl | exact trivial | refine ⟨?_, ?_⟩ | (refine wk.of_eq ?_; (conv => lhs; whnf); (simp [XN.Ds_all, YN.Ds_all, Tm.Ds_all, Ty.Ds_all, intDs_i64_all, AStore.D, XN.D, YN.D, Tm.D, Ty.D, listAll, qv13e] <;> (repeat' first | rfl | apply And.intro)); done) | (refine wk.pure ?_; (conv => lhs; whnf); (simp [XN.Ds_all, YN.Ds_all, Tm.Ds_all, Ty.Ds_all, intDs_i64_all, AStore.D, XN.D, YN.D, Tm.D, Ty.D, listAll, qv13e] <;> (repeat' first | rfl | apply And.intro)); done) | ((simp [XN.Ds_all, YN.Ds_all, Tm.Ds_all, Ty.Ds_all, intDs_i64_all, AStore.D, XN.D, YN.D, Tm.D, Ty.D, listAll, qv13e] <;> (repeat' first | rfl | apply And.intro)); done) | (simp [XN.Ds_all, YN.Ds_all, Tm.Ds_all, Ty.Ds_all, intDs_i64_all, AStore.D, XN.D, YN.D, Tm.D, Ty.D, listAll, qv13e]; omega)
theorem P_z31_Put {a0 : AStore} {a1 : Tm} {r : (AStore × Int)} (e : z31_Put a0 a1 = some r) : M_z31_Put a0 a1 r := G_z31_Put.1 _ _ e _ _ rfl
theorem P_z31_Add_j0 {t7_0 : Int} {a0 : AStore} {a1 : Tm} {r : (AStore × Int × Int)} (e : z31_Add_j0 t7_0 a0 a1 = some r) : JoinAt T Try.prog Try.f12 Fx0 [4] [1, 1, 1, 0, 0] (EP T Try.f12 (.tuple [(AStore.D r.1), (.int .i64 r.2.1), (.int .i64 r.2.2)])) [(2, .ptr 0 0 0), (3, .ptr 0 1 0), (4, .ptr 0 2 0), (7, .d (.int .i64 t7_0))] [[.cells [.d (.slice 3 (YN.Ds a0.types)), .d (.slice 5 (XN.Ds a0.terms))], .cells [.d (.int .u8 a1.kind), .d (.str a1.name), .d (.bool a1.ty.v), .d (.str a1.ty.name), .d (.slice 3 (Ty.Ds a1.ty.args)), .d (.int .i64 a1.index), .d (.slice 7 (Tm.Ds a1.sub))], .cells [.nil 3, .nil 5]]] := by
 unfold z31_Add_j0 at e
 refine Runs.enter T_ok ?_; conv => whnf
 refine ⟨⟨fun h8 => ?_, fun h8 => ?_⟩⟩
 ·replace e := ifp h8 e; conv => whnf
  obtain rfl := sm e
  repeat' first | exact rfl | exact trivial | refine ⟨?_, ?_⟩
 ·replace e := ifn h8 e; conv => whnf
  obtain ⟨v9, qv9, e⟩ := bnd e
  refine said_pure (P_z31_Put qv9) rfl ?_; conv => whnf
  obtain ⟨v10, qv10, e⟩ := bnd e
  refine said_pure (P_z31_full qv10) rfl ?_; conv => whnf
  obtain rfl := sm e
  repeat' first | exact rfl | exact trivial | refine ⟨?_, ?_⟩
theorem P_z31_Add {a0 : AStore} {a1 : Tm} {r : (AStore × Int × Int)} (e : z31_Add a0 a1 = some r) : Pure Try.prog 12 [(AStore.D a0), (Tm.D a1)] (.tuple [(AStore.D r.1), (.int .i64 r.2.1), (.int .i64 r.2.2)]) := by
 unfold z31_Add at e
 refine pure_of_awp (js := [4]) T_ok Try.func12 rfl (by decide +kernel) rfl ?_; conv => whnf
 obtain ⟨v1, qv1, e⟩ := bnd e
 refine said_pure (P_z31_Check qv1) rfl ?_; conv => whnf
 refine ⟨⟨fun h2 => ?_, fun h2 => ?_⟩⟩
 ·replace e := ifp h2 e; conv => whnf
  obtain ⟨v3, qv3, e⟩ := bnd e
  refine said_pure (P_z02_Check qv3) rfl ?_; conv => whnf
  refine Runs.weak (P_z31_Add_j0 e) ?_
  repeat' first | exact wk.of_eq rfl | exact wk.pure rfl | exact wk.un _ | exact wk.hold _ _ _ | exact wk.holdG _ _ _ | exact rfl | exact trivial | refine ⟨?_, ?_⟩
 ·replace e := ifn h2 e; conv => whnf
  refine Runs.weak (P_z31_Add_j0 e) ?_
  repeat' first | exact wk.of_eq rfl | exact wk.pure rfl | exact wk.un _ | exact wk.hold _ _ _ | exact wk.holdG _ _ _ | exact rfl | exact trivial | refine ⟨?_, ?_⟩
theorem P_z31_Find_j0 {t7_0 : Int} {a0 : AStore} {a1 : Tm} {r : (Int × Bool × Int)} (e : z31_Find_j0 t7_0 a0 a1 = some r) : JoinAt T Try.prog Try.f14 Fx0 [4] [1, 1, 1, 0, 0] (EP T Try.f14 (.tuple [(.int .i64 r.1), (.bool r.2.1), (.int .i64 r.2.2)])) [(2, .ptr 0 0 0), (3, .ptr 0 1 0), (7, .d (.int .i64 t7_0))] [[.cells [.d (.slice 3 (YN.Ds a0.types)), .d (.slice 5 (XN.Ds a0.terms))], .cells [.d (.int .u8 a1.kind), .d (.str a1.name), .d (.bool a1.ty.v), .d (.str a1.ty.name), .d (.slice 3 (Ty.Ds a1.ty.args)), .d (.int .i64 a1.index), .d (.slice 7 (Tm.Ds a1.sub))]]] := by
 unfold z31_Find_j0 at e
 refine Runs.enter T_ok ?_; conv => whnf
 refine ⟨⟨fun h8 => ?_, fun h8 => ?_⟩⟩
 ·replace e := ifp h8 e; conv => whnf
  obtain rfl := sm e
  repeat' first | exact rfl | exact trivial | refine ⟨?_, ?_⟩
 ·replace e := ifn h8 e; conv => whnf
  obtain ⟨v9, qv9, e⟩ := bnd e
  refine said_pure (P_z31_Put qv9) rfl ?_; conv => whnf
  refine ⟨⟨fun h10 => ?_, fun h10 => ?_⟩⟩
  ·replace e := ifp (by first | exact h10 | omega | simpa [XN.Ds_all, YN.Ds_all, Tm.Ds_all, Ty.Ds_all, AStore.D, XN.D, YN.D, Tm.D, Ty.D, listAll] using h10) e; conv => whnf
   obtain rfl := sm e
   repeat' first | exact rfl | exact trivial | refine ⟨?_, ?_⟩
  ·replace e := ifn (by first | exact h10 | omega | simpa [XN.Ds_all, YN.Ds_all, Tm.Ds_all, Ty.Ds_all, AStore.D, XN.D, YN.D, Tm.D, Ty.D, listAll] using h10) e; conv => whnf
   obtain rfl := sm e
   repeat' first | exact rfl | exact trivial | refine ⟨?_, ?_⟩
theorem P_z31_Find {a0 : AStore} {a1 : Tm} {r : (Int × Bool × Int)} (e : z31_Find a0 a1 = some r) : Pure Try.prog 14 [(AStore.D a0), (Tm.D a1)] (.tuple [(.int .i64 r.1), (.bool r.2.1), (.int .i64 r.2.2)]) := by
 unfold z31_Find at e
 refine pure_of_awp (js := [4]) T_ok Try.func14 rfl (by decide +kernel) rfl ?_; conv => whnf
 obtain ⟨v1, qv1, e⟩ := bnd e
 refine said_pure (P_z31_Check qv1) rfl ?_; conv => whnf
 refine ⟨⟨fun h2 => ?_, fun h2 => ?_⟩⟩
 ·replace e := ifp h2 e; conv => whnf
  obtain ⟨v3, qv3, e⟩ := bnd e
  refine said_pure (P_z02_Check qv3) rfl ?_; conv => whnf
  refine Runs.weak (P_z31_Find_j0 e) ?_
  repeat' first | exact wk.of_eq rfl | exact wk.pure rfl | exact wk.un _ | exact wk.hold _ _ _ | exact wk.holdG _ _ _ | exact rfl | exact trivial | refine ⟨?_, ?_⟩
 ·replace e := ifn h2 e; conv => whnf
  refine Runs.weak (P_z31_Find_j0 e) ?_
  repeat' first | exact wk.of_eq rfl | exact wk.pure rfl | exact wk.un _ | exact wk.hold _ _ _ | exact wk.holdG _ _ _ | exact rfl | exact trivial | refine ⟨?_, ?_⟩
end Go.Proofs.Ytemfpemejagndaa.Fw


set_option maxHeartbeats 4000000
namespace Go.Proofs.Ytemfpemejagndaa.Fw
open Go Go.Proofs Go.RowKit
def M_z31_Same_l1 (rest1 : (List XN)) (k1 : Nat) (a1 : AStore) (r : Bool) : Prop := ∀ (a0 : AStore) (hd1 : rest1 = a0.terms.drop k1), LoopAt T Try.prog Try.f10 Fx0 [] [1, 1, 1, 0, 1, 0] (EP T Try.f10 (.bool r)) [(2, .ptr 0 0 0), (3, .ptr 0 1 0), (6, .d (.int .i64 (k1 : Int)))] [[.cells [.d (.slice 3 (YN.Ds a0.types)), .d (.slice 5 (XN.Ds a0.terms))], .cells [.d (.slice 3 (YN.Ds a1.types)), .d (.slice 5 (XN.Ds a1.terms))]]]
theorem G_z31_Same_l1 : (∀ p r, z31_Same_l1' p = some r → ∀ rest1 k1 a1, (rest1, k1, a1) = p → M_z31_Same_l1 rest1 k1 a1 r) := by
 refine z31_Same_l1'.partial_correctness (fun (p : ((List XN) × Nat × AStore)) (r : Bool) => ∀ (rest1 : (List XN)) (k1 : Nat) (a1 : AStore), (rest1, k1, a1) = p → M_z31_Same_l1 rest1 k1 a1 r) ?_
 ·intro f_z31_Same_l1 ih_z31_Same_l1 p r e rest1 k1 a1 hp
  subst hp
  intro a0 hd1
  refine RunsL.len_cell 0 1 rfl rfl rfl fun hlenk1 => ?_
  refine RunsL.of_awp (js := []) T_ok ?_; conv => whnf
  have hls := XN.Ds_len a0.terms
  cases rest1 with
  | nil =>
   have hk := drop_nil hd1
   refine ⟨⟨fun h => absurd h (by omega), fun _ => ?_⟩⟩; conv => whnf
   obtain rfl := sm e
   repeat' first | exact rfl | exact trivial | refine ⟨?_, ?_⟩
  | cons v7 rest1 =>
   obtain ⟨hxv7, hd1, hltv7⟩ := drop_head hd1
   refine ⟨⟨fun _ => ?_, fun h => absurd (by omega) h⟩⟩; conv => whnf
   refine draw_rule [] T_ok mixed z31_Same_pl11 (by decide +kernel) ?_; conv => whnf
   refine ⟨k1, _, rfl, XN.Ds_get hxv7, ?_⟩; conv => whnf
   refine ⟨XN.Ds_fit _ rfl rfl, ?_⟩; conv => whnf
   obtain ⟨v8, qv8, e⟩ := bnd e
   obtain ⟨qv8k, qv8a, qv8b⟩ := geti_some qv8
   refine ⟨qv8k, _, qv8a, XN.Ds_get qv8b, ?_⟩; conv => whnf
   refine ⟨XN.Ds_fit _ rfl rfl, ?_⟩; conv => whnf
   obtain ⟨v9, qv9, e⟩ := bnd e
   refine said_pure (P_z31_sameTerm qv9) rfl ⟨Keeps.refl _ _, ?_⟩; conv => whnf
   refine brK.nsplit (fun hb10 => ?_) (fun hb10 => ?_)
   ·replace e := ifpb hb10 e; conv => whnf
    refine brK.ntt hb10 ?_; conv => whnf
    refine brK.ntt hb10 ?_; conv => whnf
    refine brK.ntt hb10 ?_; conv => whnf
    refine ⟨k1, _, rfl, XN.Ds_get hxv7, ?_⟩; conv => whnf
    refine brK.ntt hb10 ?_; conv => whnf
    refine brK.ntt hb10 ?_; conv => whnf
    refine brK.ntt hb10 ?_; conv => whnf
    refine brK.ntt hb10 ?_; conv => whnf
    refine brK.ntt hb10 ?_; conv => whnf
    refine brK.ntt hb10 ?_; conv => whnf
    obtain ⟨v11, qv11, e⟩ := bnd e
    obtain ⟨qv11k, qv11a, qv11b⟩ := geti_some qv11
    refine ⟨qv11k, _, qv11a, XN.Ds_get qv11b, ?_⟩; conv => whnf
    refine brK.ntt hb10 ?_; conv => whnf
    refine brK.ntt hb10 ?_; conv => whnf
    refine brK.ntt hb10 ?_; conv => whnf
    refine ⟨⟨fun h12 => ?_, fun h12 => ?_⟩⟩
    ·replace e := ifp h12 e; conv => whnf
     refine brK.ntt hb10 ?_; conv => whnf
     obtain rfl := sm e
     repeat' first | exact rfl | exact trivial | refine ⟨?_, ?_⟩
    ·replace e := ifn h12 e; conv => whnf
     refine brK.ntt hb10 ?_; conv => whnf
     refine ⟨((k1 + 1 : Nat) : Int), wrap64e (by omega) (by omega) (by omega), ?_⟩; conv => whnf
     refine (RunsL.weak ((ih_z31_Same_l1 _ _ e _ _ _ rfl) a0 hd1) ?_)
     repeat' first | exact wk.of_eq rfl | exact wk.pure rfl | exact wk.un _ | exact wk.hold _ _ _ | exact wk.holdG _ _ _ | exact rfl | exact trivial | refine ⟨?_, ?_⟩
   ·replace e := ifnb hb10 e; conv => whnf
    refine brK.nff hb10 ?_; conv => whnf
    refine brK.nff hb10 ?_; conv => whnf
    refine brK.nff hb10 ?_; conv => whnf
    refine brK.nff hb10 ?_; conv => whnf
    refine brK.nff hb10 ?_; conv => whnf
    refine brK.nff hb10 ?_; conv => whnf
    refine brK.nff hb10 ?_; conv => whnf
    refine brK.nff hb10 ?_; conv => whnf
    refine brK.nff hb10 ?_; conv => whnf
    refine brK.nff hb10 ?_; conv => whnf
    refine brK.nff hb10 ?_; conv => whnf
    refine brK.nff hb10 ?_; conv => whnf
    refine brK.nff hb10 ?_; conv => whnf
    obtain rfl := sm e
    repeat' first | exact rfl | exact trivial | refine ⟨?_, ?_⟩
theorem P_z31_Same_l1 {rest1 : (List XN)} {k1 : Nat} {a1 : AStore} {r : Bool} (e : z31_Same_l1 rest1 k1 a1 = some r) : M_z31_Same_l1 rest1 k1 a1 r := G_z31_Same_l1 _ _ e _ _ _ rfl
def M_z31_Same_l0 (rest0 : (List YN)) (k0 : Nat) (a0 : AStore) (a1 : AStore) (r : Bool) : Prop := ∀ (hd0 : rest0 = a0.types.drop k0), LoopAt T Try.prog Try.f10 Fx0 [] [1, 1, 0, 1, 0] (EP T Try.f10 (.bool r)) [(2, .ptr 0 0 0), (3, .ptr 0 1 0), (5, .d (.int .i64 (k0 : Int)))] [[.cells [.d (.slice 3 (YN.Ds a0.types)), .d (.slice 5 (XN.Ds a0.terms))], .cells [.d (.slice 3 (YN.Ds a1.types)), .d (.slice 5 (XN.Ds a1.terms))]]]
theorem G_z31_Same_l0 : (∀ p r, z31_Same_l0' p = some r → ∀ rest0 k0 a0 a1, (rest0, k0, a0, a1) = p → M_z31_Same_l0 rest0 k0 a0 a1 r) := by
 refine z31_Same_l0'.partial_correctness (fun (p : ((List YN) × Nat × AStore × AStore)) (r : Bool) => ∀ (rest0 : (List YN)) (k0 : Nat) (a0 : AStore) (a1 : AStore), (rest0, k0, a0, a1) = p → M_z31_Same_l0 rest0 k0 a0 a1 r) ?_
 ·intro f_z31_Same_l0 ih_z31_Same_l0 p r e rest0 k0 a0 a1 hp
  subst hp
  intro hd0
  refine RunsL.len_cell 0 0 rfl rfl rfl fun hlenk0 => ?_
  refine RunsL.of_awp (js := []) T_ok ?_; conv => whnf
  have hls := YN.Ds_len a0.types
  cases rest0 with
  | nil =>
   have hk := drop_nil hd0
   refine ⟨⟨fun h => absurd h (by omega), fun _ => ?_⟩⟩; conv => whnf
   refine RunsL.runs (RunsL.weak ((P_z31_Same_l1 e) a0 (by simp)) ?_)
   repeat' first | exact wk.of_eq rfl | exact wk.pure rfl | exact wk.un _ | exact wk.hold _ _ _ | exact wk.holdG _ _ _ | exact rfl | exact trivial | refine ⟨?_, ?_⟩
  | cons v6 rest0 =>
   obtain ⟨hxv6, hd0, hltv6⟩ := drop_head hd0
   refine ⟨⟨fun _ => ?_, fun h => absurd (by omega) h⟩⟩; conv => whnf
   refine draw_rule [] T_ok mixed z31_Same_pl6 (by decide +kernel) ?_; conv => whnf
   refine ⟨k0, _, rfl, YN.Ds_get hxv6, ?_⟩; conv => whnf
   refine ⟨YN.Ds_fit _ rfl rfl, ?_⟩; conv => whnf
   obtain ⟨v7, qv7, e⟩ := bnd e
   obtain ⟨qv7k, qv7a, qv7b⟩ := geti_some qv7
   refine ⟨qv7k, _, qv7a, YN.Ds_get qv7b, ?_⟩; conv => whnf
   refine ⟨YN.Ds_fit _ rfl rfl, ?_⟩; conv => whnf
   obtain ⟨v8, qv8, e⟩ := bnd e
   refine said_pure (P_z31_sameType qv8) rfl ⟨Keeps.refl _ _, ?_⟩; conv => whnf
   refine brK.nsplit (fun hb9 => ?_) (fun hb9 => ?_)
   ·replace e := ifpb hb9 e; conv => whnf
    refine ⟨((k0 + 1 : Nat) : Int), wrap64e (by omega) (by omega) (by omega), ?_⟩; conv => whnf
    refine (RunsL.weak ((ih_z31_Same_l0 _ _ e _ _ _ _ rfl) hd0) ?_)
    repeat' first | exact wk.of_eq rfl | exact wk.pure rfl | exact wk.un _ | exact wk.hold _ _ _ | exact wk.holdG _ _ _ | exact rfl | exact trivial | refine ⟨?_, ?_⟩
   ·replace e := ifnb hb9 e; conv => whnf
    obtain rfl := sm e
    repeat' first | exact rfl | exact trivial | refine ⟨?_, ?_⟩
theorem P_z31_Same_l0 {rest0 : (List YN)} {k0 : Nat} {a0 : AStore} {a1 : AStore} {r : Bool} (e : z31_Same_l0 rest0 k0 a0 a1 = some r) : M_z31_Same_l0 rest0 k0 a0 a1 r := G_z31_Same_l0 _ _ e _ _ _ _ rfl
theorem P_z31_Same {a0 : AStore} {a1 : AStore} {r : Bool} (e : z31_Same a0 a1 = some r) : Pure Try.prog 10 [(AStore.D a0), (AStore.D a1)] (.bool r) := by
 unfold z31_Same at e
 refine pure_of_awp (js := []) T_ok Try.func10 rfl (by decide +kernel) rfl ?_; conv => whnf
 refine ⟨⟨fun h1 => ?_, fun h1 => ?_⟩⟩
 ·replace e := ifp (by first | exact h1 | omega | simpa [XN.Ds_all, YN.Ds_all, AStore.D, XN.D, YN.D, listAll] using h1) e; conv => whnf
  obtain rfl := sm e
  repeat' first | exact rfl | exact trivial | refine ⟨?_, ?_⟩
 ·replace e := ifn (by first | exact h1 | omega | simpa [XN.Ds_all, YN.Ds_all, AStore.D, XN.D, YN.D, listAll] using h1) e; conv => whnf
  refine ⟨⟨fun h2 => ?_, fun h2 => ?_⟩⟩
  ·replace e := ifp (by first | exact h2 | omega | simpa [XN.Ds_all, YN.Ds_all, AStore.D, XN.D, YN.D, listAll] using h2) e; conv => whnf
   obtain rfl := sm e
   repeat' first | exact rfl | exact trivial | refine ⟨?_, ?_⟩
  ·replace e := ifn (by first | exact h2 | omega | simpa [XN.Ds_all, YN.Ds_all, AStore.D, XN.D, YN.D, listAll] using h2) e; conv => whnf
   refine RunsL.runs (RunsL.weak ((P_z31_Same_l0 e) (by simp)) ?_)
   repeat' first | exact wk.of_eq rfl | exact wk.pure rfl | exact wk.un _ | exact wk.hold _ _ _ | exact wk.holdG _ _ _ | exact rfl | exact trivial | refine ⟨?_, ?_⟩
def M_z01_count (a0 : Ty) (a1 : Int) (a2 : Int) (r : Int) : Prop := Pure Try.prog 15 [(Ty.D a0), (.int .i64 a1), (.int .i64 a2)] (.int .i64 r)
def M_z01_count_l0 (rest0 : (List Ty)) (t1_0 : Int) (a2 : Int) (r : Int) : Prop := ∀ (a0 : Ty) (k0 : Nat) (hd0 : rest0 = a0.args.drop k0), LoopAt T Try.prog Try.f15 Fx0 [] [1, 1, 1, 0, 1, 0] (EP T Try.f15 (.int .i64 r)) [(1, .d (.int .i64 t1_0)), (2, .d (.int .i64 a2)), (3, .ptr 0 0 0), (7, .d (.int .i64 (k0 : Int)))] [[.cells [.d (.bool a0.v), .d (.str a0.name), .d (.slice 3 (Ty.Ds a0.args))]]]
theorem G_z01_count : (∀ p r, z01_count' p = some r → ∀ a0 a1 a2, (a0, a1, a2) = p → M_z01_count a0 a1 a2 r) ∧
  (∀ p r, z01_count_l0' p = some r → ∀ rest0 t1_0 a2, (rest0, t1_0, a2) = p → M_z01_count_l0 rest0 t1_0 a2 r) := by
 refine z01_count'.mutual_partial_correctness (fun (p : (Ty × Int × Int)) (r : Int) => ∀ (a0 : Ty) (a1 : Int) (a2 : Int), (a0, a1, a2) = p → M_z01_count a0 a1 a2 r) (fun (p : ((List Ty) × Int × Int)) (r : Int) => ∀ (rest0 : (List Ty)) (t1_0 : Int) (a2 : Int), (rest0, t1_0, a2) = p → M_z01_count_l0 rest0 t1_0 a2 r) ?_ ?_
 ·intro f_z01_count_l0 ih_z01_count_l0 p r e a0 a1 a2 hp
  subst hp
  refine pure_of_awp (js := []) T_ok Try.func15 rfl (by decide +kernel) rfl ?_; conv => whnf
  refine ⟨⟨fun h1 => ?_, fun h1 => ?_⟩⟩
  ·replace e := ifp h1 e; conv => whnf
   obtain rfl := sm e
   repeat' first | exact rfl | exact trivial | refine ⟨?_, ?_⟩
  ·replace e := ifn h1 e; conv => whnf
   obtain ⟨v2, qv2, e⟩ := bnd e
   refine ⟨v2, sm qv2, ?_⟩; conv => whnf
   obtain ⟨v3, qv3, e⟩ := bnd e
   refine ⟨by decide, v3, sm qv3, ?_⟩; conv => whnf
   obtain ⟨v4, qv4, e⟩ := bnd e
   refine ⟨v4, sm qv4, ?_⟩; conv => whnf
   refine RunsL.runs (RunsL.weak ((ih_z01_count_l0 _ _ e _ _ _ rfl) a0 0 (by simp)) ?_)
   repeat' first | exact wk.of_eq rfl | exact wk.pure rfl | exact wk.un _ | exact wk.hold _ _ _ | exact wk.holdG _ _ _ | exact rfl | exact trivial | refine ⟨?_, ?_⟩
 ·intro f_z01_count f_z01_count_l0 ih_z01_count ih_z01_count_l0 p r e rest0 t1_0 a2 hp
  subst hp
  intro a0 k0 hd0
  refine RunsL.len_cell 0 2 rfl rfl rfl fun hlenk0 => ?_
  refine RunsL.of_awp (js := []) T_ok ?_; conv => whnf
  have hls := Ty.Ds_len a0.args
  cases rest0 with
  | nil =>
   have hk := drop_nil hd0
   refine ⟨⟨fun h => absurd h (by omega), fun _ => ?_⟩⟩; conv => whnf
   obtain rfl := sm e
   repeat' first | exact rfl | exact trivial | refine ⟨?_, ?_⟩
  | cons v8 rest0 =>
   obtain ⟨hxv8, hd0, hltv8⟩ := drop_head hd0
   refine ⟨⟨fun _ => ?_, fun h => absurd (by omega) h⟩⟩; conv => whnf
   refine ⟨⟨fun h9 => ?_, fun h9 => ?_⟩⟩
   ·replace e := ifp h9 e; conv => whnf
    refine ⟨k0, _, rfl, Ty.Ds_get hxv8, ?_⟩; conv => whnf
    refine ⟨Ty.Ds_fit _ rfl rfl, ?_⟩; conv => whnf
    obtain ⟨v10, qv10, e⟩ := bnd e
    refine ⟨v10, sm qv10, ?_⟩; conv => whnf
    obtain ⟨v11, qv11, e⟩ := bnd e
    refine said_pure (ih_z01_count _ _ qv11 _ _ _ rfl) rfl ?_; conv => whnf
    refine ⟨((k0 + 1 : Nat) : Int), wrap64e (by omega) (by omega) (by omega), ?_⟩; conv => whnf
    refine (RunsL.weak ((ih_z01_count_l0 _ _ e _ _ _ rfl) a0 (k0 + 1) hd0) ?_)
    repeat' first | exact wk.of_eq rfl | exact wk.pure rfl | exact wk.un _ | exact wk.hold _ _ _ | exact wk.holdG _ _ _ | exact rfl | exact trivial | refine ⟨?_, ?_⟩
   ·replace e := ifn h9 e; conv => whnf
    obtain rfl := sm e
    repeat' first | exact rfl | exact trivial | refine ⟨?_, ?_⟩
theorem P_z01_count {a0 : Ty} {a1 : Int} {a2 : Int} {r : Int} (e : z01_count a0 a1 a2 = some r) : M_z01_count a0 a1 a2 r := G_z01_count.1 _ _ e _ _ _ rfl
theorem P_z01_Great {a0 : Ty} {r : Bool} (e : z01_Great a0 = some r) : Pure Try.prog 5 [(Ty.D a0)] (.bool r) := by
 unfold z01_Great at e
 refine pure_of_awp (js := []) T_ok Try.func5 rfl (by decide +kernel) rfl ?_; conv => whnf
 obtain ⟨v1, qv1, e⟩ := bnd e
 refine said_pure (P_z01_count qv1) rfl ?_; conv => whnf
 refine test.dec ?_; conv => whnf
 obtain rfl := sm e
 repeat' first | exact rfl | exact trivial | refine ⟨?_, ?_⟩
def M_z02_count (a0 : Tm) (a1 : Int) (a2 : Int) (r : Int) : Prop := Pure Try.prog 32 [(Tm.D a0), (.int .i64 a1), (.int .i64 a2)] (.int .i64 r)
def M_z02_count_l0 (rest0 : (List Tm)) (t1_0 : Int) (a2 : Int) (r : Int) : Prop := ∀ (a0 : Tm) (k0 : Nat) (hd0 : rest0 = a0.sub.drop k0), LoopAt T Try.prog Try.f32 Fx0 [] [1, 1, 1, 0, 1, 0] (EP T Try.f32 (.int .i64 r)) [(1, .d (.int .i64 t1_0)), (2, .d (.int .i64 a2)), (3, .ptr 0 0 0), (7, .d (.int .i64 (k0 : Int)))] [[.cells [.d (.int .u8 a0.kind), .d (.str a0.name), .d (.bool a0.ty.v), .d (.str a0.ty.name), .d (.slice 3 (Ty.Ds a0.ty.args)), .d (.int .i64 a0.index), .d (.slice 7 (Tm.Ds a0.sub))]]]
theorem G_z02_count : (∀ p r, z02_count' p = some r → ∀ a0 a1 a2, (a0, a1, a2) = p → M_z02_count a0 a1 a2 r) ∧
  (∀ p r, z02_count_l0' p = some r → ∀ rest0 t1_0 a2, (rest0, t1_0, a2) = p → M_z02_count_l0 rest0 t1_0 a2 r) := by
 refine z02_count'.mutual_partial_correctness (fun (p : (Tm × Int × Int)) (r : Int) => ∀ (a0 : Tm) (a1 : Int) (a2 : Int), (a0, a1, a2) = p → M_z02_count a0 a1 a2 r) (fun (p : ((List Tm) × Int × Int)) (r : Int) => ∀ (rest0 : (List Tm)) (t1_0 : Int) (a2 : Int), (rest0, t1_0, a2) = p → M_z02_count_l0 rest0 t1_0 a2 r) ?_ ?_
 ·intro f_z02_count_l0 ih_z02_count_l0 p r e a0 a1 a2 hp
  subst hp
  refine pure_of_awp (js := []) T_ok Try.func32 rfl (by decide +kernel) rfl ?_; conv => whnf
  refine ⟨⟨fun h1 => ?_, fun h1 => ?_⟩⟩
  ·replace e := ifp h1 e; conv => whnf
   obtain rfl := sm e
   repeat' first | exact rfl | exact trivial | refine ⟨?_, ?_⟩
  ·replace e := ifn h1 e; conv => whnf
   obtain ⟨v2, qv2, e⟩ := bnd e
   refine said_pure (P_z01_Great qv2) rfl ?_; conv => whnf
   refine brK.split (fun hb3 => ?_) (fun hb3 => ?_)
   ·replace e := ifpb hb3 e; conv => whnf
    obtain rfl := sm e
    repeat' first | exact rfl | exact trivial | refine ⟨?_, ?_⟩
   ·replace e := ifnb hb3 e; conv => whnf
    obtain ⟨v4, qv4, e⟩ := bnd e
    refine ⟨v4, sm qv4, ?_⟩; conv => whnf
    obtain ⟨v5, qv5, e⟩ := bnd e
    refine ⟨by decide, v5, sm qv5, ?_⟩; conv => whnf
    obtain ⟨v6, qv6, e⟩ := bnd e
    refine ⟨v6, sm qv6, ?_⟩; conv => whnf
    refine RunsL.runs (RunsL.weak ((ih_z02_count_l0 _ _ e _ _ _ rfl) a0 0 (by simp)) ?_)
    repeat' first | exact wk.of_eq rfl | exact wk.pure rfl | exact wk.un _ | exact wk.hold _ _ _ | exact wk.holdG _ _ _ | exact rfl | exact trivial | refine ⟨?_, ?_⟩
 ·intro f_z02_count f_z02_count_l0 ih_z02_count ih_z02_count_l0 p r e rest0 t1_0 a2 hp
  subst hp
  intro a0 k0 hd0
  refine RunsL.len_cell 0 6 rfl rfl rfl fun hlenk0 => ?_
  refine RunsL.of_awp (js := []) T_ok ?_; conv => whnf
  have hls := Tm.Ds_len a0.sub
  cases rest0 with
  | nil =>
   have hk := drop_nil hd0
   refine ⟨⟨fun h => absurd h (by omega), fun _ => ?_⟩⟩; conv => whnf
   obtain rfl := sm e
   repeat' first | exact rfl | exact trivial | refine ⟨?_, ?_⟩
  | cons v8 rest0 =>
   obtain ⟨hxv8, hd0, hltv8⟩ := drop_head hd0
   refine ⟨⟨fun _ => ?_, fun h => absurd (by omega) h⟩⟩; conv => whnf
   refine ⟨⟨fun h9 => ?_, fun h9 => ?_⟩⟩
   ·replace e := ifp h9 e; conv => whnf
    refine ⟨k0, _, rfl, Tm.Ds_get hxv8, ?_⟩; conv => whnf
    refine ⟨Tm.Ds_fit _ rfl rfl, ?_⟩; conv => whnf
    obtain ⟨v10, qv10, e⟩ := bnd e
    refine ⟨v10, sm qv10, ?_⟩; conv => whnf
    obtain ⟨v11, qv11, e⟩ := bnd e
    refine said_pure (ih_z02_count _ _ qv11 _ _ _ rfl) rfl ?_; conv => whnf
    refine ⟨((k0 + 1 : Nat) : Int), wrap64e (by omega) (by omega) (by omega), ?_⟩; conv => whnf
    refine (RunsL.weak ((ih_z02_count_l0 _ _ e _ _ _ rfl) a0 (k0 + 1) hd0) ?_)
    repeat' first | exact wk.of_eq rfl | exact wk.pure rfl | exact wk.un _ | exact wk.hold _ _ _ | exact wk.holdG _ _ _ | exact rfl | exact trivial | refine ⟨?_, ?_⟩
   ·replace e := ifn h9 e; conv => whnf
    obtain rfl := sm e
    repeat' first | exact rfl | exact trivial | refine ⟨?_, ?_⟩
theorem P_z02_count {a0 : Tm} {a1 : Int} {a2 : Int} {r : Int} (e : z02_count a0 a1 a2 = some r) : M_z02_count a0 a1 a2 r := G_z02_count.1 _ _ e _ _ _ rfl
theorem P_z02_Great {a0 : Tm} {r : Bool} (e : z02_Great a0 = some r) : Pure Try.prog 16 [(Tm.D a0)] (.bool r) := by
 unfold z02_Great at e
 refine pure_of_awp (js := []) T_ok Try.func16 rfl (by decide +kernel) rfl ?_; conv => whnf
 obtain ⟨v1, qv1, e⟩ := bnd e
 refine said_pure (P_z02_count qv1) rfl ?_; conv => whnf
 refine ⟨⟨fun h2 => ?_, fun h2 => ?_⟩⟩
 ·replace e := ifp h2 e; conv => whnf
  obtain rfl := sm e
  repeat' first | exact rfl | exact trivial | refine ⟨?_, ?_⟩
 ·replace e := ifn h2 e; conv => whnf
  obtain ⟨v3, qv3, e⟩ := bnd e
  refine said_pure (P_z02_count qv3) rfl ?_; conv => whnf
  refine ⟨⟨fun h4 => ?_, fun h4 => ?_⟩⟩
  ·replace e := ifp h4 e; conv => whnf
   obtain rfl := sm e
   repeat' first | exact rfl | exact trivial | refine ⟨?_, ?_⟩
  ·replace e := ifn h4 e; conv => whnf
   obtain ⟨v5, qv5, e⟩ := bnd e
   refine said_pure (P_z02_Small qv5) rfl ?_; conv => whnf
   obtain rfl := sm e
   repeat' first | exact rfl | exact trivial | refine ⟨?_, ?_⟩
theorem P_z31_Wide {a0 : Tm} {r : Bool} (e : z31_Wide a0 = some r) : Pure Try.prog 6 [(Tm.D a0)] (.bool r) := by
 unfold z31_Wide at e
 refine pure_of_awp (js := []) T_ok Try.func6 rfl (by decide +kernel) rfl ?_; conv => whnf
 obtain ⟨v1, qv1, e⟩ := bnd e
 refine said_pure (P_z02_Great qv1) rfl ?_; conv => whnf
 refine brK.split (fun hb2 => ?_) (fun hb2 => ?_)
 ·replace e := ifpb hb2 e; conv => whnf
  refine brK.tt hb2 ?_; conv => whnf
  refine brK.tt hb2 ?_; conv => whnf
  refine brK.tt hb2 ?_; conv => whnf
  refine brK.tt hb2 ?_; conv => whnf
  refine brK.tt hb2 ?_; conv => whnf
  obtain rfl := sm e
  repeat' first | exact rfl | exact trivial | refine ⟨?_, ?_⟩
 ·replace e := ifnb hb2 e; conv => whnf
  refine brK.ff hb2 ?_; conv => whnf
  obtain ⟨v3, qv3, e⟩ := bnd e
  refine said_pure (P_z02_Size qv3) rfl ?_; conv => whnf
  refine brK.ff hb2 ?_; conv => whnf
  refine ⟨⟨fun h4 => ?_, fun h4 => ?_⟩⟩
  ·replace e := ifp h4 e; conv => whnf
   refine brK.ff hb2 ?_; conv => whnf
   obtain ⟨v5, qv5, e⟩ := bnd e
   refine said_pure (P_z02_Size qv5) rfl ?_; conv => whnf
   refine test.dec ?_; conv => whnf
   refine brK.ff hb2 ?_; conv => whnf
   refine brK.ff hb2 ?_; conv => whnf
   obtain rfl := sm e
   repeat' first | exact rfl | exact trivial | refine ⟨?_, ?_⟩
  ·replace e := ifn h4 e; conv => whnf
   refine brK.ff hb2 ?_; conv => whnf
   refine brK.ff hb2 ?_; conv => whnf
   refine brK.ff hb2 ?_; conv => whnf
   obtain rfl := sm e
   repeat' first | exact rfl | exact trivial | refine ⟨?_, ?_⟩
end Go.Proofs.Ytemfpemejagndaa.Fw

