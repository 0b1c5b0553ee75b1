/- The statement HashGets of the given program: GetType, Get, Size, Shared, Check, Same and Twin of stores answer what the reference answers; for all stores, indices and sizes. -/
import Derived.Test.YtpgecpmonaldiaaR
import Derived.Test.YtpgecpmonaldiaaHC
import Derived.Test.YtpgecpmonaldiaaGP5
import Derived.Test.YtpgecpmonaldiaaRows
set_option autoImplicit false
set_option linter.unusedVariables false
set_option linter.unusedSimpArgs false
namespace Go.Proofs.Ytpgecpmonaldiaa.Fw
open Go Go.Proofs Go.RowKit
theorem dargs {H : Imm} {v0 : Value} {x0 : Fw.D} {v1 : Value} {x1 : Fw.D} {v2 : Value} {x2 : Fw.D} {v3 : Value} {x3 : Fw.D} (h0 : DRel H v0 x0) (h1 : DRel H v1 x1) (h2 : DRel H v2 x2) (h3 : DRel H v3 x3) : ∀ j (h : j < [x0, x1, x2, x3].length), DRel H ([v0, v1, v2, v3].getD j default) ([x0, x1, x2, x3][j])
  | 0, _ => h0
  | 1, _ => h1
  | 2, _ => h2
  | 3, _ => h3
  | j + 4, h => by simp at h; omega
end Go.Proofs.Ytpgecpmonaldiaa.Fw
namespace Go.Proofs.Ytpgecpmonaldiaa
open Go Go.Proofs Go.Proofs.Ytpgecpmonaldiaa.Fw Go.ChangeShapes Go.WideShapes Go.ChangeAt Go.RowKit
set_option maxRecDepth 100000 in
theorem hashGets_lifted (os : Os) (started : os.Started) (H : Type) (enc : TypeId × Value → H) :
    ReturnsInHanded {} Try.checked os 4 .any (Rows.hashGetsSpec.pre6 enc Try.prog Try.f4 Rows.hashGetsRow.domain false) (Rows.hashGetsSpec.post enc Try.prog Try.f4 false true false false) := by
  refine returnsInHanded_of_change (C := Try.checked) Try.own started (by kernel_rfl) Try.func4
    (ChangeSpec.witness6 (enc := enc) (C := Try.checked) false ⟨#[], #[.agg #[.slice none 0 0, .slice none 0 0], .agg #[.slice none 0 0, .slice none 0 0], .int .i64 0, .int .i64 0], []⟩ 8 (by kernel_rfl) (by kernel_rfl) (by kernel_rfl) (by kernel_rfl)) ?_
  intro W base args ds gs before hval0 hW hcnd _
  have hval : ∀ (j : Nat) t v, Try.f4.params[j]? = some t → args[j]? = some v → Value.okWide Try.prog W .any base t v := hval0
  have hW' := hW
  obtain ⟨p, q, hA0, hV, rfl, hfz, hnd⟩ := hW
  have hA : DataW.TrodAll enc Try.prog W 0 (fun _ => true) true Try.f4.params.toList args.toList ds p := hA0
  rw [Try.params4] at hA hval
  obtain ⟨v0, v1, v2, v3, d0, d1, d2, d3, p0, p1, p2, p3, rfl, rfl, rfl, h0, h1, h2, h3⟩ := trodAll_four hA
  obtain ⟨rfl, rfl⟩ := trodVars_none hV
  obtain ⟨n0, x0, s0, r0⟩ := reads_agg argTypes_shut (by decide) Try.underlying25 (hval 0 25 v0 rfl rfl) h0
  obtain ⟨t0, k0, rfl⟩ := AStore.of_shape _ _ s0
  rw [← agg_eq t0.D_agg] at r0
  obtain ⟨n1, x1, s1, r1⟩ := reads_agg argTypes_shut (by decide) Try.underlying25 (hval 1 25 v1 rfl rfl) h1
  obtain ⟨t1, k1, rfl⟩ := AStore.of_shape _ _ s1
  rw [← agg_eq t1.D_agg] at r1
  have c2 := one_cell (.inr (.inl ⟨_, Try.underlying3⟩)) (hval 2 3 v2 rfl rfl)
  obtain ⟨n2, x2, s2, r2⟩ := reads_one argTypes_shut (by decide) c2 h2
  obtain ⟨t2, rfl, hb2⟩ := shape_int Try.underlying3 s2
  replace r2 := r2 _ rfl
  have c3 := one_cell (.inr (.inl ⟨_, Try.underlying3⟩)) (hval 3 3 v3 rfl rfl)
  obtain ⟨n3, x3, s3, r3⟩ := reads_one argTypes_shut (by decide) c3 h3
  obtain ⟨t3, rfl, hb3⟩ := shape_int Try.underlying3 s3
  replace r3 := r3 _ rfl
  refine (calls_of_pure (P := Try.prog) (vs := [v0, v1, v2, v3]) (by decide +kernel) (P_sequentlaw31_HashGets (HashGets_law t0 t1 t2 t3 k0 k1)) rfl (dargs r0 r1 r2 r3)).mono fun e W' ⟨he, hw⟩ => ?_
  exact ⟨_, he, post_law (enc := enc) Try.laidOut (by rw [Try.params4]; decide +kernel) rfl (tb := 4) rfl Try.underlying4 hW' rfl hw⟩
theorem hashGets_holds : Rows.HashGetsSaid :=
  OpenClaim.holds_of_wide 4 Try.f4 rfl rfl rfl rfl rfl rfl rfl ⟨rfl, rfl, rfl, rfl, rfl⟩ rfl rfl rfl rfl rfl (by kernel_rfl) Try.func4 (by kernel_rfl)
    (of_decide_eq_true (by kernel_rfl)) (by unfold Func.isWrapper; first | (rw [if_pos (by decide +kernel)]; kernel_rfl) | (rw [if_neg (by decide +kernel)]; exact ⟨rfl, rfl⟩))
    (fun os started H enc _ => hashGets_lifted os started H enc)
end Go.Proofs.Ytpgecpmonaldiaa

