/- The statement KernelNames of the given program: the law KernelNames returns true. -/
import Derived.Test.YtfpkmfjnigikpaaGreatDD
import Derived.Test.YtfpkmfjnigikpaaGreatKE
import Derived.Test.YtfpkmfjnigikpaaGreatRows
set_option autoImplicit false
set_option linter.unusedVariables false
set_option linter.unusedSimpArgs false
namespace Go.Proofs.YtfpkmfjnigikpaaGreat
open Go Go.Proofs Go.Proofs.YtfpkmfjnigikpaaGreat.Fw.Cm Go.ChangeShapes Go.WideShapes Go.ChangeAt Go.RowKit
theorem own : ownKnob Tryz.prog.godebug = none := by kernel_rfl
set_option maxRecDepth 100000 in
theorem kernelNames_lifted (os : Os) (started : os.Started) (H : Type) (enc : TypeId × Value → H) :
    ReturnsInHanded {} Tryz.checked os 3 .any (Rows.kernelNamesSpec.pre6 enc Tryz.prog Tryz.f3 Rows.kernelNamesRow.domain false) (Rows.kernelNamesSpec.post enc Tryz.prog Tryz.f3 false true false false) := by
  refine returnsInHanded_of_change (C := Tryz.checked) own started (by kernel_rfl) Tryz.func3
    (ChangeSpec.witness6 (enc := enc) (C := Tryz.checked) false ⟨#[], #[], []⟩ 8 (by kernel_rfl) (by kernel_rfl) (by kernel_rfl) (by kernel_rfl)) ?_
  intro W base args ds gs before hval0 hW hcnd _
  have hW' := hW
  obtain ⟨p, q, hA0, hV, rfl, hfz, hnd⟩ := hW
  have hA : DataW.TrodAll enc Tryz.prog W 0 (fun _ => true) true Tryz.f3.params.toList args.toList ds p := hA0
  rw [Tryz.params3] at hA
  obtain ⟨ha, rfl, rfl⟩ := trodAll_nil hA
  have ha : args = #[] := Array.ext' (by simpa using ha)
  subst ha
  obtain ⟨rfl, rfl⟩ := trodVars_none hV
  refine (closed_ok T_ok (by decide +kernel) (by decide +kernel) kernelNames_eval W).mono fun e W' ⟨he, hw⟩ => ?_
  exact ⟨_, he, post_closed (enc := enc) rfl Tryz.params3 rfl (tb := 4) Tryz.underlying4 hW' rfl hw⟩
theorem kernelNames_holds : Rows.KernelNamesSaid :=
  OpenClaim.holds_of_wide 3 Tryz.f3 rfl rfl rfl rfl rfl rfl rfl ⟨rfl, rfl, rfl, rfl, rfl⟩ rfl rfl rfl rfl rfl (by kernel_rfl) Tryz.func3 (by kernel_rfl)
    (of_decide_eq_true (by kernel_rfl)) (by unfold Func.isWrapper; first | (rw [if_pos (by decide +kernel)]; kernel_rfl) | (rw [if_neg (by decide +kernel)]; exact ⟨rfl, rfl⟩))
    (fun os started H enc _ => kernelNames_lifted os started H enc)
end Go.Proofs.YtfpkmfjnigikpaaGreat
