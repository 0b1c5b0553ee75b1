/- Combinations, constants, formulas. -/
import Derived.Test.YtdjmibbgoajcaaaM3
set_option autoImplicit false
set_option linter.unusedVariables false
set_option linter.unusedSimpArgs false
namespace Go.Proofs.Ytdjmibbgoajcaaa.Fw
open Go Go.Proofs

theorem zTm_eq : (Tm.mk 0 ByteArray.empty (Ty.mk false ByteArray.empty ([] : List Ty)) 0 ([] : List Tm)) = zTm := rfl
def Tm.fine (a : Tm) : Prop := a.ok ∧ a.tys ∧ a.size ≤ 100000
theorem Tm.fine.lim {a : Tm} (h : a.fine) : a.size ≤ Fw.lim := by have := h.2.2; simp only [Fw.lim]; omega
theorem zTm_fine : zTm.fine := ⟨⟨by decide, by decide, ⟨by decide, by decide, trivial⟩, by decide, by decide, trivial⟩, ⟨by decide, trivial⟩, by decide⟩
theorem Tm.app_fine {f x : Tm} (hf : f.ok ∧ f.tys) (hx : x.ok ∧ x.tys) (hs : f.size + x.size + 1 ≤ 100000) : (Tm.app f x).fine :=
  ⟨⟨by decide, by decide, ⟨by decide, by decide, trivial⟩, by decide, (by decide : 2 ≤ big), hf.1, hx.1, trivial⟩, ⟨by decide, hf.2, hx.2, trivial⟩, by simp only [Tm.app, Tm.size, Tm.sizes]; omega⟩
theorem Tm.app_formed (f x : Tm) : Tm.formed [] (Tm.app f x) = if (Tm.formed [] f).2 = true ∧ (Tm.formed [] x).2 = true then (match appT (Tm.formed [] f).1 (Tm.formed [] x).1 with | some u => (u, true) | none => (zTy, false)) else (zTy, false) := by
  simp only [Tm.app, Tm.formed, Tm.formeds]
  rw [if_neg (by decide), if_neg (by decide), if_pos trivial, if_pos ⟨trivial, by decide, trivial, rfl⟩]
  rfl
theorem Tm.app_check {f x : Tm} {u : Ty} (hf : f.check = 0) (hx : x.check = 0) (h : appT f.type x.type = some u) : (Tm.app f x).check = (if (Tm.app f x).small then 0 else 21) ∧ (Tm.app f x).type = u := by
  have h1 := (Tm.check_zero.1 hf).2
  have h2 := (Tm.check_zero.1 hx).2
  have h3 := Tm.app_formed f x
  simp only [Tm.type] at h
  rw [if_pos ⟨h1, h2⟩, h] at h3
  simp only [Tm.check, Tm.type, h3]
  cases (Tm.app f x).small <;> simp
theorem Tm.app_size (f x : Tm) : (Tm.app f x).size = 1 + (f.size + x.size) := by simp only [Tm.app, Tm.size, Tm.sizes]; omega
theorem Tm.app_depth (f x : Tm) : (Tm.app f x).depth = 1 + max f.depth x.depth := by simp only [Tm.app, Tm.depth, Tm.depths]; omega

theorem terms_Comb_eq {f x : Tm} {u : Ty} (hf : f.ok ∧ f.tys) (hx : x.ok ∧ x.tys) (cf : f.check = 0) (cx : x.check = 0) (h : appT f.type x.type = some u) :
    terms_Comb f x = some (if (Tm.app f x).small then (Tm.app f x, 0) else (zTm, 21)) := by
  have sf := (Tm.small_depth (Tm.check_zero.1 cf).1).1
  have sx := (Tm.small_depth (Tm.check_zero.1 cx).1).1
  have ha := Tm.app_fine hf hx (by omega)
  have hl := ha.lim
  rw [terms_Comb, terms_typed_eq f hf.1 (by simp only [lim]; omega) hf.2, bs]
  simp only [cf, cx, if_true, not_true_eq_false, if_false]
  rw [terms_typed_eq x hx.1 (by simp only [lim]; omega) hx.2, bs]
  simp only [cx, if_true, not_true_eq_false, if_false]
  rw [appT_some] at h
  have hv : f.type.v = false ∧ f.type.name = bFun ∧ f.type.args.length = 2 := by
    by_cases hq : f.type.v = false ∧ f.type.name = bFun ∧ f.type.args.length = 2
    · exact hq
    · rw [if_neg hq] at h; cases h
  rw [if_pos hv] at h
  obtain ⟨hv1, hv2, hv3⟩ := hv
  generalize hA : f.type.args = A at h hv3
  match A, hv3 with
  | [a, b], _ =>
    have hb : Ty.beq a x.type = true := by
      simp only [] at h; split at h
      · assumption
      · cases h
    have hfun : f.type.name = (⟨#[102, 117, 110]⟩ : ByteArray) := hv2
    simp only [hv1, hfun, hA, Bool.false_eq_true, if_false, not_true_eq_false, Ty.Ds_len]
    rw [if_neg (by simp), show geti [a, b] 0 = some a from rfl, bs, types_Same_eq, bs, if_pos hb]
    have happ : (Tm.mk 4 ByteArray.empty (Ty.mk false ByteArray.empty ([] : List Ty)) 0 ([f, x])) = Tm.app f x := rfl
    rw [happ, terms_great_eq _ hl, bs]
    cases (Tm.app f x).small
    · simp; rfl
    · simp [terms_Twin_eq2 _ hl ha.2.1, bs]

/-! ### constants, formulas -/
def Tm.con (n : ByteArray) (t : Ty) : Tm := .mk 2 n t 0 []
theorem Tm.con_check {n : ByteArray} {t : Ty} (hn : cname n = true) (ht : t.valid = true) : (Tm.con n t).check = 0 ∧ (Tm.con n t).type = t := by
  have h : Tm.formed [] (Tm.con n t) = (t, true) := by
    simp only [Tm.con, Tm.formed]; rw [if_pos (.inr trivial), hn, ht]; rfl
  have hs : (Tm.con n t).small = true := by simp [Tm.con, Tm.small, Tm.size, Tm.sizes, Tm.depth, Tm.depths]
  simp [Tm.check, Tm.type, h, hs]
theorem Ty.bool_ok : Ty.bool.ok := ⟨by decide, by decide, trivial⟩
theorem Ty.bool_valid : Ty.bool.valid = true := by decide
theorem Ty.beq_refl (a : Ty) : Ty.beq a a = true := (Ty.beq_iff a a).2 rfl
theorem appT_fn (a b : Ty) : appT (Ty.fn a b) a = some b := by simp [appT, Ty.fn, Ty.beq_refl]
def Tm.isForm (a : Tm) : Bool := decide (a.check = 0) && Ty.beq a.type Ty.bool
theorem ref2_Type_eq (a : Tm) (h : a.ok) (ht : a.tys) (hd : a.depth ≤ 1000) : sequentref02_Type a = some a.type := by
  rw [sequentref02_Type, ref_Formed_eq a h ht [] (fun x hx => by cases hx) (by simpa using hd), bs]
  have := ref_Twin_eq a.type (Tm.type_size ht hd)
  simp only [Tm.type] at this ⊢
  rw [this, bs]
end Go.Proofs.Ytdjmibbgoajcaaa.Fw
