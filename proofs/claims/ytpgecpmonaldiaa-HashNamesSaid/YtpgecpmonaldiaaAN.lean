/- The statement HashNames of the given program: the law HashNames returns true. -/
import Derived.Test.YtpgecpmonaldiaaR
import Derived.Test.YtpgecpmonaldiaaHN
import Derived.Test.YtpgecpmonaldiaaGP3
import Derived.Test.YtpgecpmonaldiaaRows
set_option autoImplicit false
set_option linter.unusedVariables false
set_option linter.unusedSimpArgs false
namespace Go.Proofs.Ytpgecpmonaldiaa.Fw
open Go Go.Proofs Go.RowKit Go.ChangeShapes Go.WideShapes
theorem dargs {H : Imm} : ∀ j (h : j < ([] : List Fw.D).length), DRel H (([] : List Value).getD j default) (([] : List Fw.D)[j])
  | j, h => by simp at h
theorem trodAll_zero {H : Type} {enc : TypeId × Value → H} {P : Program} {w : World} {base : Nat} {spare : Nat → Bool} {held : Bool} {vs : List Value} {ds : List (DataW H)} {ps : List MemPlace}
    (h : DataW.TrodAll enc P w base spare held [] vs ds ps) : vs = [] ∧ ds = [] ∧ ps = [] := by
  cases vs <;> cases ds <;> cases ps <;> simp [DataW.TrodAll] at h ⊢
end Go.Proofs.Ytpgecpmonaldiaa.Fw
namespace Go.Proofs.Ytpgecpmonaldiaa
open Go Go.Proofs Go.Proofs.Ytpgecpmonaldiaa.Fw Go.ChangeShapes Go.WideShapes Go.ChangeAt Go.RowKit
set_option maxRecDepth 100000 in
theorem hashNames_lifted (os : Os) (started : os.Started) (H : Type) (enc : TypeId × Value → H) :
    ReturnsInHanded {} Try.checked os 10 .any (Rows.hashNamesSpec.pre6 enc Try.prog Try.f10 Rows.hashNamesRow.domain false) (Rows.hashNamesSpec.post enc Try.prog Try.f10 false true false false) := by
  refine returnsInHanded_of_change (C := Try.checked) Try.own started (by kernel_rfl) Try.func10
    (ChangeSpec.witness6 (enc := enc) (C := Try.checked) false ⟨#[], #[], []⟩ 8 (by kernel_rfl) (by kernel_rfl) (by kernel_rfl) (by kernel_rfl)) ?_
  intro W base args ds gs before hval0 hW hcnd _
  have hW' := hW
  obtain ⟨p, q, hA0, hV, rfl, hfz, hnd⟩ := hW
  have hA : DataW.TrodAll enc Try.prog W 0 (fun _ => true) true Try.f10.params.toList args.toList ds p := hA0
  rw [Try.params10] at hA
  obtain ⟨ha, rfl, rfl⟩ := trodAll_zero hA
  have ha : args = #[] := Array.ext' (by simpa using ha)
  subst ha
  obtain ⟨rfl, rfl⟩ := trodVars_none hV
  refine (calls_of_pure (P := Try.prog) (vs := []) (by decide +kernel) (P_sequentlaw31_HashNames HashNames_law) rfl dargs).mono fun e W' ⟨he, hw⟩ => ?_
  exact ⟨_, he, post_law (enc := enc) Try.laidOut (by rw [Try.params10]; decide +kernel) rfl (tb := 4) rfl Try.underlying4 hW' rfl hw⟩

theorem hashNames_holds : Rows.HashNamesSaid :=
  OpenClaim.holds_of_wide 10 Try.f10 rfl rfl rfl rfl rfl rfl rfl ⟨rfl, rfl, rfl, rfl, rfl⟩ rfl rfl rfl rfl rfl (by kernel_rfl) Try.func10 (by kernel_rfl)
    (of_decide_eq_true (by kernel_rfl)) (by unfold Func.isWrapper; first | (rw [if_pos (by decide +kernel)]; kernel_rfl) | (rw [if_neg (by decide +kernel)]; exact ⟨rfl, rfl⟩))
    (fun os started H enc _ => hashNames_lifted os started H enc)
end Go.Proofs.Ytpgecpmonaldiaa
