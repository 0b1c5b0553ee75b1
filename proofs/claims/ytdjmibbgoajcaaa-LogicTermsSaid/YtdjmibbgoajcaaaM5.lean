/- The connectives' terms: the program's constructors and destructors, and the reference's; LogicTerms. -/
import Derived.Test.YtdjmibbgoajcaaaM4
set_option autoImplicit false
set_option linter.unusedVariables false
set_option linter.unusedSimpArgs false
namespace Go.Proofs.Ytdjmibbgoajcaaa.Fw
open Go Go.Proofs

def T1 : Ty := Ty.fn Ty.bool Ty.bool
def T2 : Ty := Ty.fn Ty.bool T1
theorem T2_valid : T2.valid = true := by decide
theorem T1_valid : T1.valid = true := by decide
theorem T1_ok : T1.ok := Ty.fn_ok Ty.bool_ok Ty.bool_ok
theorem T2_ok : T2.ok := Ty.fn_ok Ty.bool_ok T1_ok
theorem T1_lim : T1.size ≤ lim := by decide
theorem T2_lim : T2.size ≤ lim := by decide
theorem bool_lim : Ty.bool.size ≤ lim := by decide

theorem isForm_iff {a : Tm} (hc : a.check = 0) (h : a.isForm = true) : a.type = Ty.bool := by
  simp only [Tm.isForm, hc, decide_true, Bool.true_and] at h
  exact (Ty.beq_iff _ _).1 h
theorem Tm.app_form {f x : Tm} {u : Ty} (hf : (Tm.formed [] f).2 = true) (hx : (Tm.formed [] x).2 = true) (h : appT f.type x.type = some u) : Tm.formed [] (Tm.app f x) = (u, true) := by
  have h3 := Tm.app_formed f x
  simp only [Tm.type] at h
  rwa [if_pos ⟨hf, hx⟩, h] at h3
theorem Tm.small_app {f x : Tm} (h : f.small = false) : (Tm.app f x).small = false := by
  have h1 := Tm.app_size f x
  have h2 := Tm.app_depth f x
  simp only [Tm.small, Bool.and_eq_false_iff, decide_eq_false_iff_not] at h ⊢
  omega
theorem con_fine {n : ByteArray} {t : Ty} (h0 : n.size ≤ big) (hok : t.ok) (hs : t.size ≤ tlim) : (Tm.con n t).fine :=
  ⟨⟨by decide, h0, hok, by decide, Nat.zero_le _, trivial⟩, ⟨hs, trivial⟩, by simp [Tm.con, Tm.size, Tm.sizes]⟩

theorem l2_cons (r : List Tm) (x c : Tm) : logic_connect_l2 (x :: r) c.kind c.name c.ty.v c.ty.name c.ty.args c.index c.sub = (terms_Comb c x >>= fun v => if ¬ v.2 = 0 then some (zTm, v.2) else logic_connect_l2 r v.1.kind v.1.name v.1.ty.v v.1.ty.name v.1.ty.args v.1.index v.1.sub) := by
  obtain ⟨k, n, ⟨v, tn, ta⟩, i, xs⟩ := c; exact logic_connect_l2_eq _ _ _ _ _ _ _ _
theorem l2_nil (c : Tm) : logic_connect_l2 [] c.kind c.name c.ty.v c.ty.name c.ty.args c.index c.sub = some (c, 0) := by
  obtain ⟨k, n, ⟨v, tn, ta⟩, i, xs⟩ := c; exact logic_connect_l2_eq _ _ _ _ _ _ _ _

/-- the answer of a constructor of one argument, of two -/
def mk1 (op : ByteArray) (p : Tm) : Tm × Int :=
  if p.check ≠ 0 then (zTm, p.check) else if p.isForm = false then (zTm, 20) else if (Tm.app (Tm.con op T1) p).small then (Tm.app (Tm.con op T1) p, 0) else (zTm, 21)
def mk2 (op : ByteArray) (p q : Tm) : Tm × Int :=
  if p.check ≠ 0 then (zTm, p.check) else if q.check ≠ 0 then (zTm, q.check) else if p.isForm = false then (zTm, 20) else if q.isForm = false then (zTm, 20)
  else if (Tm.app (Tm.app (Tm.con op T2) p) q).small then (Tm.app (Tm.app (Tm.con op T2) p) q, 0) else (zTm, 21)

theorem connect1 {op : ByteArray} (h0 : op.size ≤ big) (hn : cname op = true) {p : Tm} (hp : p.fine) : logic_connect op T1 [p] = some (mk1 op p) := by
  rw [logic_connect, logic_connect_l0_eq]
  simp only []
  rw [terms_Check_eq p hp.1 hp.lim hp.2.1, bs, mk1]
  by_cases c1 : p.check = 0
  · rw [if_neg (fun h => h c1), if_neg (fun h => h c1), logic_connect_l0_eq]
    simp only []
    rw [logic_connect_l1_eq]
    simp only []
    rw [prove_Formula_eq p hp, bs]
    rcases fot p.isForm with f1 | f1
    · simp [f1]; rfl
    · rw [if_pos f1, if_neg (by simp [f1]), logic_connect_l1_eq]
      simp only []
      rw [prove_Constant_eq h0 hn T1_ok T1_lim T1_valid, bs, l2_cons]
      have hc := Tm.con_check hn T1_valid
      have hcf := con_fine h0 T1_ok (by decide : T1.size ≤ tlim)
      rw [terms_Comb_eq ⟨hcf.1, hcf.2.1⟩ ⟨hp.1, hp.2.1⟩ hc.1 c1 (by rw [hc.2, isForm_iff c1 f1]; exact appT_fn _ _), bs]
      cases (Tm.app (Tm.con op T1) p).small
      · simp
      · simp only [if_true, not_true_eq_false, if_false]; exact l2_nil _
  · rw [if_pos c1, if_pos c1]; rfl
theorem connect2 {op : ByteArray} (h0 : op.size ≤ big) (hn : cname op = true) {p q : Tm} (hp : p.fine) (hq : q.fine) : logic_connect op T2 [p, q] = some (mk2 op p q) := by
  rw [logic_connect, logic_connect_l0_eq]
  simp only []
  rw [terms_Check_eq p hp.1 hp.lim hp.2.1, bs, mk2]
  by_cases c1 : p.check = 0
  · rw [if_neg (fun h => h c1), if_neg (fun h => h c1), logic_connect_l0_eq]
    simp only []
    rw [terms_Check_eq q hq.1 hq.lim hq.2.1, bs]
    by_cases c2 : q.check = 0
    · rw [if_neg (fun h => h c2), if_neg (fun h => h c2), logic_connect_l0_eq]
      simp only []
      rw [logic_connect_l1_eq]
      simp only []
      rw [prove_Formula_eq p hp, bs]
      rcases fot p.isForm with f1 | f1
      · simp [f1]; rfl
      rw [if_pos f1, if_neg (by simp [f1]), logic_connect_l1_eq]
      simp only []
      rw [prove_Formula_eq q hq, bs]
      rcases fot q.isForm with f2 | f2
      · simp [f2]; rfl
      rw [if_pos f2, if_neg (by simp [f2]), logic_connect_l1_eq]
      simp only []
      rw [prove_Constant_eq h0 hn T2_ok T2_lim T2_valid, bs, l2_cons]
      have hc := Tm.con_check hn T2_valid
      have hcf := con_fine h0 T2_ok (by decide : T2.size ≤ tlim)
      have ht1 : appT (Tm.con op T2).type p.type = some T1 := by rw [hc.2, isForm_iff c1 f1]; exact appT_fn _ _
      rw [terms_Comb_eq ⟨hcf.1, hcf.2.1⟩ ⟨hp.1, hp.2.1⟩ hc.1 c1 ht1, bs]
      have ha := Tm.app_check hc.1 c1 ht1
      have hcs : (Tm.con op T2).size = 1 := by simp [Tm.con, Tm.size, Tm.sizes]
      have hps := (Tm.small_depth (Tm.check_zero.1 c1).1).1
      have haf := Tm.app_fine (f := Tm.con op T2) (x := p) ⟨hcf.1, hcf.2.1⟩ ⟨hp.1, hp.2.1⟩ (by omega)
      rcases fot (Tm.app (Tm.con op T2) p).small with s1 | s1
      · simp [s1, Tm.small_app s1]
      · rw [s1] at ha
        simp only [s1, if_true, not_true_eq_false, if_false]
        rw [l2_cons, terms_Comb_eq ⟨haf.1, haf.2.1⟩ ⟨hq.1, hq.2.1⟩ (by simpa using ha.1) c2 (by rw [ha.2, isForm_iff c2 f2]; exact appT_fn _ _), bs]
        cases (Tm.app (Tm.app (Tm.con op T2) p) q).small
        · simp
        · simp only [if_true, not_true_eq_false, if_false]; exact l2_nil _
    · rw [if_pos c2, if_pos c2]; rfl
  · rw [if_pos c1, if_pos c1]; rfl
theorem prove_Binary_eq : prove_Binary = some T2 := by
  rw [prove_Binary, show prove_Bool = some Ty.bool from rfl, bs, bs, bs, types_Fun_eq _ _ bool_lim bool_lim, bs, show Ty.fn Ty.bool Ty.bool = T1 from rfl, types_Fun_eq _ _ bool_lim T1_lim, bs]; rfl
theorem ref9_binary_eq : sequentref09_binary = some T2 := by
  rw [sequentref09_binary, ref_Bool_eq, bs, ref_Fun_eq _ _ bool_lim bool_lim, bs, show Ty.fn Ty.bool Ty.bool = T1 from rfl, ref_Fun_eq _ _ bool_lim T1_lim, bs]; rfl
theorem ref9_Not_eq (p : Tm) : sequentref09_Not p = some (Tm.app (Tm.con ⟨#[126]⟩ T1) p) := by
  rw [sequentref09_Not, ref_Bool_eq, bs, bs, ref_Fun_eq _ _ bool_lim bool_lim, bs]; rfl
theorem ref9_Two_eq (op : ByteArray) (p q : Tm) : sequentref09_Two op p q = some (Tm.app (Tm.app (Tm.con op T2) p) q) := by
  rw [sequentref09_Two, ref9_binary_eq, bs]; rfl

theorem make_j (c : Tm) (h : c.fine) : sequentref09_Make_j0 c.kind c.name c.ty.v c.ty.name c.ty.args c.index c.sub = some (if c.check = 0 then (c, 0) else (zTm, c.check)) := by
  rw [sequentref09_Make_j0, show (Tm.mk c.kind c.name (Ty.mk c.ty.v c.ty.name c.ty.args) c.index c.sub) = c from by obtain ⟨k, n, ⟨v, tn, ta⟩, i, xs⟩ := c; rfl, ref2_Done_eq c h, bs]
theorem make1 {p : Tm} (hp : p.fine) : sequentref09_Make ⟨#[126]⟩ [p] = some (mk1 ⟨#[126]⟩ p) := by
  have hn : cname ⟨#[126]⟩ = true := by decide
  have h0 : (⟨#[126]⟩ : ByteArray).size ≤ big := by decide
  rw [sequentref09_Make, sequentref02_Checks, sequentref02_Checks_l0_eq]
  simp only []
  rw [ref2_Check_eq p hp.1 hp.lim hp.2.1, bs, mk1]
  by_cases c1 : p.check = 0
  · rw [if_neg (fun h => h c1), if_neg (fun h => h c1), sequentref02_Checks_l0_eq]
    simp only [bs, not_true_eq_false, if_false]
    rw [sequentref09_Make_l0_eq]
    simp only []
    rw [ref9_Formula_eq p hp c1, bs]
    rcases fot p.isForm with f1 | f1
    · simp [f1]; rfl
    rw [if_pos f1, if_neg (by simp [f1]), sequentref09_Make_l0_eq]
    simp only [Tm.Ds_len]
    have hc := Tm.con_check hn T1_valid
    have hcf := con_fine h0 T1_ok (by decide : T1.size ≤ tlim)
    have hcs : (Tm.con ⟨#[126]⟩ T1).size = 1 := by simp [Tm.con, Tm.size, Tm.sizes]
    have hps := (Tm.small_depth (Tm.check_zero.1 c1).1).1
    have haf := Tm.app_fine (f := Tm.con ⟨#[126]⟩ T1) (x := p) ⟨hcf.1, hcf.2.1⟩ ⟨hp.1, hp.2.1⟩ (by omega)
    rw [show geti [p] 0 = some p from rfl, bs, ref9_Not_eq, bs, if_neg (by simp), make_j _ haf]
    have ha := Tm.app_check hc.1 c1 (by rw [hc.2, isForm_iff c1 f1]; exact appT_fn _ _)
    rw [ha.1]
    cases (Tm.app (Tm.con ⟨#[126]⟩ T1) p).small <;> simp
  · rw [if_pos c1, bs, if_pos c1, if_pos c1]; rfl
theorem make2 {op : ByteArray} (h0 : op.size ≤ big) (hn : cname op = true) {p q : Tm} (hp : p.fine) (hq : q.fine) : sequentref09_Make op [p, q] = some (mk2 op p q) := by
  rw [sequentref09_Make, sequentref02_Checks, sequentref02_Checks_l0_eq]
  simp only []
  rw [ref2_Check_eq p hp.1 hp.lim hp.2.1, bs, mk2]
  by_cases c1 : p.check = 0
  · rw [if_neg (fun h => h c1), if_neg (fun h => h c1), sequentref02_Checks_l0_eq]
    simp only []
    rw [ref2_Check_eq q hq.1 hq.lim hq.2.1, bs]
    by_cases c2 : q.check = 0
    · rw [if_neg (fun h => h c2), if_neg (fun h => h c2), sequentref02_Checks_l0_eq]
      simp only [bs, not_true_eq_false, if_false]
      rw [sequentref09_Make_l0_eq]
      simp only []
      rw [ref9_Formula_eq p hp c1, bs]
      rcases fot p.isForm with f1 | f1
      · simp [f1]; rfl
      rw [if_pos f1, if_neg (by simp [f1]), sequentref09_Make_l0_eq]
      simp only []
      rw [ref9_Formula_eq q hq c2, bs]
      rcases fot q.isForm with f2 | f2
      · simp [f2]; rfl
      rw [if_pos f2, if_neg (by simp [f2]), sequentref09_Make_l0_eq]
      simp only [Tm.Ds_len]
      have hc := Tm.con_check hn T2_valid
      have hcf := con_fine h0 T2_ok (by decide : T2.size ≤ tlim)
      have hcs : (Tm.con op T2).size = 1 := by simp [Tm.con, Tm.size, Tm.sizes]
      have hps := (Tm.small_depth (Tm.check_zero.1 c1).1).1
      have hqs := (Tm.small_depth (Tm.check_zero.1 c2).1).1
      have haf := Tm.app_fine (f := Tm.con op T2) (x := p) ⟨hcf.1, hcf.2.1⟩ ⟨hp.1, hp.2.1⟩ (by omega)
      have has := Tm.app_size (Tm.con op T2) p
      have hbf := Tm.app_fine (f := Tm.app (Tm.con op T2) p) (x := q) ⟨haf.1, haf.2.1⟩ ⟨hq.1, hq.2.1⟩ (by omega)
      have hfa := Tm.app_form (Tm.check_zero.1 hc.1).2 (Tm.check_zero.1 c1).2 (u := T1) (by rw [hc.2, isForm_iff c1 f1]; exact appT_fn _ _)
      have hfb := Tm.app_form (f := Tm.app (Tm.con op T2) p) (by rw [hfa]) (Tm.check_zero.1 c2).2 (u := Ty.bool) (by rw [Tm.type, hfa, isForm_iff c2 f2]; exact appT_fn _ _)
      rw [show geti [p, q] 0 = some p from rfl, show geti [p, q] 1 = some q from rfl, bs, ref9_Not_eq, bs, if_pos (by simp), bs, bs, ref9_Two_eq, bs, make_j _ hbf]
      have hch : (Tm.app (Tm.app (Tm.con op T2) p) q).check = if (Tm.app (Tm.app (Tm.con op T2) p) q).small then 0 else 21 := by
        simp only [Tm.check, hfb]; cases (Tm.app (Tm.app (Tm.con op T2) p) q).small <;> simp
      rw [hch]
      cases (Tm.app (Tm.app (Tm.con op T2) p) q).small <;> simp
    · rw [if_pos c2, bs, if_pos c2, if_pos c2]; rfl
  · rw [if_pos c1, bs, if_pos c1, if_pos c1]; rfl
end Go.Proofs.Ytdjmibbgoajcaaa.Fw
