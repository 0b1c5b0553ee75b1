/- The statement HashAdds of the given program: the program's store operations give what the reference's give, and nothing of the given store is written. -/
import Derived.Test.YtemfpemejagndaaR
import Derived.Test.YtemfpemejagndaaHr
import Derived.Test.YtemfpemejagndaaHW
import Derived.Test.YtemfpemejagndaaRows
set_option autoImplicit false
set_option linter.unusedVariables false
set_option linter.unusedSimpArgs false
namespace Go.Proofs.Ytemfpemejagndaa.Fw
open Go Go.Proofs Go.RowKit
theorem dargs {H : Imm} {v0 : Value} {x0 : Fw.D} {v1 : Value} {x1 : Fw.D} {v2 : Value} {x2 : Fw.D} (h0 : DRel H v0 x0) (h1 : DRel H v1 x1) (h2 : DRel H v2 x2) : ∀ j (h : j < [x0, x1, x2].length), DRel H ([v0, v1, v2].getD j default) ([x0, x1, x2][j])
 | 0, _ => h0
 | 1, _ => h1
 | 2, _ => h2
 | j + 3, h => by simp at h; omega
end Go.Proofs.Ytemfpemejagndaa.Fw
namespace Go.Proofs.Ytemfpemejagndaa
open Go Go.Proofs Go.Proofs.Ytemfpemejagndaa.Fw Go.ChangeShapes Go.WideShapes Go.ChangeAt Go.RowKit
set_option maxRecDepth 100000 in
theorem hashAdds_lifted (os : Os) (started : os.Started) (H : Type) (enc : TypeId × Value → H) :
  ReturnsInHanded {} Try.checked os 3 .any (Rows.hashAddsSpec.pre6 enc Try.prog Try.f3 Rows.hashAddsRow.domain false) (Rows.hashAddsSpec.post enc Try.prog Try.f3 false true false false) := by
 refine returnsInHanded_of_change (C := Try.checked) Try.own started (by kernel_rfl) Try.func3
  (ChangeSpec.witness6 (enc := enc) (C := Try.checked) false ⟨#[], #[.agg #[.slice none 0 0, .slice none 0 0], .agg #[.bool false, .string ByteArray.empty, .slice none 0 0], .agg #[.int .u8 0, .string ByteArray.empty, .bool false, .string ByteArray.empty, .slice none 0 0, .int .i64 0, .slice none 0 0]], []⟩ 8 (by kernel_rfl) (by kernel_rfl) (by kernel_rfl) (by kernel_rfl)) ?_
 intro W base args ds gs before hval0 hW hcnd _
 have hval : ∀ (j : Nat) t v, Try.f3.params[j]? = some t → args[j]? = some v → Value.okWide Try.prog W .any base t v := hval0
 have hW' := hW
 obtain ⟨p, q, hA0, hV, rfl, hfz, hnd⟩ := hW
 have hA : DataW.TrodAll enc Try.prog W 0 (fun _ => true) true Try.f3.params.toList args.toList ds p := hA0
 rw [Try.params3] at hA hval
 obtain ⟨v0, v1, v2, d0, d1, d2, p0, p1, p2, rfl, rfl, rfl, h0, h1, h2⟩ := trodAll_three hA
 obtain ⟨rfl, rfl⟩ := trodVars_none hV
 obtain ⟨n0, x0, s0, r0⟩ := reads_agg argTypes_shut (by decide) Try.underlying25 (hval 0 25 v0 rfl rfl) h0
 obtain ⟨t0, k0, rfl⟩ := AStore.of_shape _ _ s0
 rw [← agg_eq t0.D_agg] at r0
 obtain ⟨n1, x1, s1, r1⟩ := reads_agg argTypes_shut (by decide) Try.underlying28 (hval 1 28 v1 rfl rfl) h1
 obtain ⟨t1, k1, rfl⟩ := Ty.of_shape _ _ s1
 rw [← agg_eq t1.D_agg] at r1
 obtain ⟨n2, x2, s2, r2⟩ := reads_agg argTypes_shut (by decide) Try.underlying31 (hval 2 31 v2 rfl rfl) h2
 obtain ⟨t2, k2, rfl⟩ := Tm.of_shape _ _ s2
 rw [← agg_eq t2.D_agg] at r2
 refine (calls_of_pure (P := Try.prog) (vs := [v0, v1, v2]) (by decide +kernel) (id (HashAdds_law t0 t1 t2 k0 k1 k2)) rfl (dargs r0 r1 r2)).mono fun e W' ⟨he, hw⟩ => ?_
 exact ⟨_, he, post_law (enc := enc) Try.laidOut (by rw [Try.params3]; decide +kernel) rfl (tb := 4) rfl Try.underlying4 hW' rfl hw⟩
theorem hashAdds_holds : Rows.HashAddsSaid :=
 OpenClaim.holds_of_wide 3 Try.f3 rfl rfl rfl rfl rfl rfl rfl ⟨rfl, rfl, rfl, rfl, rfl⟩ rfl rfl rfl rfl rfl (by kernel_rfl) Try.func3 (by kernel_rfl)
  (of_decide_eq_true (by kernel_rfl)) (by unfold Func.isWrapper; first | (rw [if_pos (by decide +kernel)]; kernel_rfl) | (rw [if_neg (by decide +kernel)]; exact ⟨rfl, rfl⟩))
  (fun os started H enc _ => hashAdds_lifted os started H enc)
end Go.Proofs.Ytemfpemejagndaa

