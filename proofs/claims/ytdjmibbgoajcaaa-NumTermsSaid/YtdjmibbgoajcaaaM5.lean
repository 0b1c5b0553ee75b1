/- The connectives' terms: the program's constructors and destructors, and the reference's; LogicTerms. -/
import Derived.Test.YtdjmibbgoajcaaaM4
set_option autoImplicit false
set_option linter.unusedVariables false
set_option linter.unusedSimpArgs false
namespace Go.Proofs.Ytdjmibbgoajcaaa.Fw
open Go Go.Proofs

def T1 : Ty := Ty.fn Ty.bool Ty.bool
def T2 : Ty := Ty.fn Ty.bool T1
theorem T2_valid : T2.valid = true := by decide
theorem T1_valid : T1.valid = true := by decide
theorem T1_ok : T1.ok := Ty.fn_ok Ty.bool_ok Ty.bool_ok
theorem T2_ok : T2.ok := Ty.fn_ok Ty.bool_ok T1_ok
theorem T1_lim : T1.size ≤ lim := by decide
theorem T2_lim : T2.size ≤ lim := by decide
theorem bool_lim : Ty.bool.size ≤ lim := by decide

theorem isForm_iff {a : Tm} (hc : a.check = 0) (h : a.isForm = true) : a.type = Ty.bool := by
  simp only [Tm.isForm, hc, decide_true, Bool.true_and] at h
  exact (Ty.beq_iff _ _).1 h
theorem Tm.app_form {f x : Tm} {u : Ty} (hf : (Tm.formed [] f).2 = true) (hx : (Tm.formed [] x).2 = true) (h : appT f.type x.type = some u) : Tm.formed [] (Tm.app f x) = (u, true) := by
  have h3 := Tm.app_formed f x
  simp only [Tm.type] at h
  rwa [if_pos ⟨hf, hx⟩, h] at h3
theorem Tm.small_app {f x : Tm} (h : f.small = false) : (Tm.app f x).small = false := by
  have h1 := Tm.app_size f x
  have h2 := Tm.app_depth f x
  simp only [Tm.small, Bool.and_eq_false_iff, decide_eq_false_iff_not] at h ⊢
  omega
theorem con_fine {n : ByteArray} {t : Ty} (h0 : n.size ≤ big) (hok : t.ok) (hs : t.size ≤ tlim) : (Tm.con n t).fine :=
  ⟨⟨by decide, h0, hok, by decide, Nat.zero_le _, trivial⟩, ⟨hs, trivial⟩, by simp [Tm.con, Tm.size, Tm.sizes]⟩

/-- the answer of a constructor of one argument, of two -/
def mk1 (op : ByteArray) (p : Tm) : Tm × Int :=
  if p.check ≠ 0 then (zTm, p.check) else if p.isForm = false then (zTm, 20) else if (Tm.app (Tm.con op T1) p).small then (Tm.app (Tm.con op T1) p, 0) else (zTm, 21)
def mk2 (op : ByteArray) (p q : Tm) : Tm × Int :=
  if p.check ≠ 0 then (zTm, p.check) else if q.check ≠ 0 then (zTm, q.check) else if p.isForm = false then (zTm, 20) else if q.isForm = false then (zTm, 20)
  else if (Tm.app (Tm.app (Tm.con op T2) p) q).small then (Tm.app (Tm.app (Tm.con op T2) p) q, 0) else (zTm, 21)

end Go.Proofs.Ytdjmibbgoajcaaa.Fw
