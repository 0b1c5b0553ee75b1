/- The statement TacticChecks of the given program: Check, Same and Twin of tactics answer what the reference answers, for any two tactics; the arguments stay as they are. -/
import Derived.Test.YtdjmibbgoajcaaaR
import Derived.Test.YtdjmibbgoajcaaaTC
import Derived.Test.YtdjmibbgoajcaaaGP4
import Derived.Test.YtdjmibbgoajcaaaRows
set_option autoImplicit false
set_option linter.unusedVariables false
set_option linter.unusedSimpArgs false
namespace Go.Proofs.Ytdjmibbgoajcaaa.Fw
open Go Go.Proofs Go.RowKit
theorem dargs {H : Imm} {v0 : Value} {x0 : Fw.D} {v1 : Value} {x1 : Fw.D} (h0 : DRel H v0 x0) (h1 : DRel H v1 x1) : ∀ j (h : j < [x0, x1].length), DRel H ([v0, v1].getD j default) ([x0, x1][j])
  | 0, _ => h0
  | 1, _ => h1
  | j + 2, h => by simp at h; omega
end Go.Proofs.Ytdjmibbgoajcaaa.Fw
namespace Go.Proofs.Ytdjmibbgoajcaaa
open Go Go.Proofs Go.Proofs.Ytdjmibbgoajcaaa.Fw Go.ChangeShapes Go.WideShapes Go.ChangeAt Go.RowKit
set_option maxRecDepth 100000 in
theorem tacticChecks_lifted (os : Os) (started : os.Started) (H : Type) (enc : TypeId × Value → H) :
    ReturnsInHanded {} Try.checked os 7 .any (Rows.tacticChecksSpec.pre6 enc Try.prog Try.f7 Rows.tacticChecksRow.domain false) (Rows.tacticChecksSpec.post enc Try.prog Try.f7 false true false false) := by
  refine returnsInHanded_of_change (C := Try.checked) Try.own started (by kernel_rfl) Try.func7
    (ChangeSpec.witness6 (enc := enc) (C := Try.checked) false ⟨#[], #[.agg #[.int .u8 0, .int .i64 0, .int .i64 0, .int .u8 0, .string ByteArray.empty, .bool false, .string ByteArray.empty, .slice none 0 0, .int .i64 0, .slice none 0 0, .slice none 0 0], .agg #[.int .u8 0, .int .i64 0, .int .i64 0, .int .u8 0, .string ByteArray.empty, .bool false, .string ByteArray.empty, .slice none 0 0, .int .i64 0, .slice none 0 0, .slice none 0 0]], []⟩ 8 (by kernel_rfl) (by kernel_rfl) (by kernel_rfl) (by kernel_rfl)) ?_
  intro W base args ds gs before hval0 hW hcnd _
  have hval : ∀ (j : Nat) t v, Try.f7.params[j]? = some t → args[j]? = some v → Value.okWide Try.prog W .any base t v := hval0
  have hW' := hW
  obtain ⟨p, q, hA0, hV, rfl, hfz, hnd⟩ := hW
  have hA : DataW.TrodAll enc Try.prog W 0 (fun _ => true) true Try.f7.params.toList args.toList ds p := hA0
  rw [Try.params7] at hA hval
  obtain ⟨v0, v1, d0, d1, p0, p1, rfl, rfl, rfl, h0, h1⟩ := trodAll_two hA
  obtain ⟨rfl, rfl⟩ := trodVars_none hV
  obtain ⟨n0, x0, s0, r0⟩ := reads_agg argTypes_shut (by decide) Try.underlying39 (hval 0 39 v0 rfl rfl) h0
  obtain ⟨t0, k0, rfl⟩ := ATactic.of_shape _ _ s0
  rw [← agg_eq t0.D_agg] at r0
  obtain ⟨n1, x1, s1, r1⟩ := reads_agg argTypes_shut (by decide) Try.underlying39 (hval 1 39 v1 rfl rfl) h1
  obtain ⟨t1, k1, rfl⟩ := ATactic.of_shape _ _ s1
  rw [← agg_eq t1.D_agg] at r1
  refine (calls_of_pure (P := Try.prog) (vs := [v0, v1]) (by decide +kernel) (P_sequentlaw29_TacticChecks (TacticChecks_law t0 t1 k0 k1)) rfl (dargs r0 r1)).mono fun e W' ⟨he, hw⟩ => ?_
  exact ⟨_, he, post_law (enc := enc) Try.laidOut (by rw [Try.params7]; decide +kernel) rfl (tb := 4) rfl Try.underlying4 hW' rfl hw⟩
theorem tacticChecks_holds : Rows.TacticChecksSaid :=
  OpenClaim.holds_of_wide 7 Try.f7 rfl rfl rfl rfl rfl rfl rfl ⟨rfl, rfl, rfl, rfl, rfl⟩ rfl rfl rfl rfl rfl (by kernel_rfl) Try.func7 (by kernel_rfl)
    (of_decide_eq_true (by kernel_rfl)) (by unfold Func.isWrapper; first | (rw [if_pos (by decide +kernel)]; kernel_rfl) | (rw [if_neg (by decide +kernel)]; exact ⟨rfl, rfl⟩))
    (fun os started H enc _ => tacticChecks_lifted os started H enc)
end Go.Proofs.Ytdjmibbgoajcaaa

