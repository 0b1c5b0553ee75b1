/- The constructors of terms of numbers: the program's and the reference's; NumTerms. -/
import Derived.Test.YtdjmibbgoajcaaaM7
set_option autoImplicit false
set_option linter.unusedVariables false
set_option linter.unusedSimpArgs false
namespace Go.Proofs.Ytdjmibbgoajcaaa.Fw
open Go Go.Proofs

def nTy : Ty := Ty.mk false ⟨#[110, 117, 109]⟩ []
theorem nTy_ok : nTy.ok := ⟨by decide, by decide, trivial⟩
theorem nTy_valid : nTy.valid = true := by decide
def chks : List Tm → Int
  | [] => 0
  | a :: r => if a.checkT = 0 then chks r else a.checkT
def nums : List Tm → Int
  | [] => 0
  | a :: r => if Ty.beq a.type nTy = true then nums r else 50
theorem chks_cons (a : Tm) (r : List Tm) : chks (a :: r) = if a.checkT = 0 then chks r else a.checkT := rfl
theorem chks_yes {a : Tm} {r : List Tm} (h : a.checkT = 0) : chks (a :: r) = chks r := by rw [chks_cons, if_pos h]
theorem chks_no {a : Tm} {r : List Tm} (h : ¬ a.checkT = 0) : chks (a :: r) = a.checkT := by rw [chks_cons, if_neg h]
theorem nums_cons (a : Tm) (r : List Tm) : (if Ty.beq a.type nTy = true then some (nums r) else some 50) = some (nums (a :: r)) := by
  have : nums (a :: r) = if Ty.beq a.type nTy = true then nums r else 50 := rfl
  rw [this]; split <;> rfl
theorem chks_zero {xs : List Tm} (h : chks xs = 0) : ∀ x ∈ xs, x.checkT = 0 := by
  induction xs with
  | nil => intro x hx; cases hx
  | cons a r ih =>
    intro x hx
    simp only [chks] at h
    split at h
    · rename_i ha
      rcases List.mem_cons.1 hx with rfl | hx
      · exact ha
      · exact ih h x hx
    · exact absurd h ‹_›
theorem num_check_eq (xs : List Tm) (h : ∀ x ∈ xs, x.fine) : num_check xs = some (chks xs) := by
  rw [num_check]
  induction xs with
  | nil => rw [num_check_l0_eq]; rfl
  | cons a r ih =>
    rw [num_check_l0_eq]; simp only []
    rw [prog_CheckTerm_eq (h a (by simp)), bs, ih fun x hx => h x (by simp [hx])]
    simp only [chks]
    by_cases hc : a.checkT = 0
    · rw [if_neg (fun k => k hc), if_pos hc]
    · rw [if_pos hc, if_neg hc]
theorem num_numbers_eq (xs : List Tm) (h : ∀ x ∈ xs, x.fine ∧ x.check = 0) : num_numbers xs = some (nums xs) := by
  rw [num_numbers]
  induction xs with
  | nil => rw [num_numbers_l0_eq]; rfl
  | cons a r ih =>
    have ha := h a (by simp)
    rw [num_numbers_l0_eq]; simp only []
    rw [terms_TypeOf_eq a ha.1.1 ha.1.lim ha.1.2.1, bs, if_pos ha.2, show num_Type = some nTy from rfl, bs, types_Same_eq, bs, ih fun x hx => h x (by simp [hx])]
    exact nums_cons a r
theorem ref21_numbers_eq (xs : List Tm) (h : ∀ x ∈ xs, x.fine ∧ x.check = 0) : sequentref21_Checks_l1 xs true = some (nums xs) := by
  induction xs with
  | nil => rw [sequentref21_Checks_l1_eq]; rfl
  | cons a r ih =>
    have ha := h a (by simp)
    have hd := (Tm.small_depth (Tm.check_zero.1 ha.2).1).2
    rw [sequentref21_Checks_l1_eq]; simp only [if_true]
    rw [ref2_Type_eq a ha.1.1 ha.1.2.1 (by omega), bs, show sequentref21_N = some nTy from rfl, bs, ref_Same_eq, bs, ih fun x hx => h x (by simp [hx])]
    exact nums_cons a r
theorem ref21_numbers_no (xs : List Tm) : sequentref21_Checks_l1 xs false = some 0 := by
  rw [sequentref21_Checks_l1_eq]
  cases xs
  · rfl
  · simp only []; rw [if_neg Bool.false_ne_true]
theorem ref21_Checks_eq (xs : List Tm) (h : ∀ x ∈ xs, x.fine) (b : Bool) : sequentref21_Checks xs b = some (if chks xs = 0 then (if b then nums xs else 0) else chks xs) := by
  rw [sequentref21_Checks]
  have key : ∀ ys : List Tm, (∀ x ∈ ys, x.fine) → sequentref21_Checks_l0 ys xs b = if chks ys = 0 then sequentref21_Checks_l1 xs b else some (chks ys) := by
    intro ys
    induction ys with
    | nil => intro _; rw [sequentref21_Checks_l0_eq]; rfl
    | cons a r ih =>
      intro hy
      rw [sequentref21_Checks_l0_eq]; simp only []
      rw [ref_CheckTerm_eq (hy a (by simp)), bs, ih fun x hx => hy x (by simp [hx])]
      by_cases hc : a.checkT = 0
      · rw [if_neg (fun k => k hc), chks_yes hc]
      · rw [if_pos hc, chks_no hc, if_neg hc]
  rw [key xs h]
  by_cases hc : chks xs = 0
  · rw [if_pos hc, if_pos hc]
    cases b
    · exact ref21_numbers_no xs
    · rw [ref21_numbers_eq xs fun x hx => ⟨h x hx, (checkT_zero (chks_zero hc x hx)).1⟩]; rfl
  · rw [if_neg hc, if_neg hc]

/-! ### applications -/
def sucT : Ty := Ty.fn nTy nTy
theorem fits_small {a : Tm} (h : a.fits = true) : a.size ≤ 2000 ∧ a.depth ≤ 100 := by
  simp only [Tm.fits, Bool.and_eq_true, decide_eq_true_eq] at h
  exact ⟨h.1, h.2.1⟩
theorem nums_zero {xs : List Tm} (h : nums xs = 0) : ∀ x ∈ xs, x.type = nTy := by
  induction xs with
  | nil => intro x hx; cases hx
  | cons a r ih =>
    intro x hx
    simp only [nums] at h
    split at h
    · rename_i ha
      rcases List.mem_cons.1 hx with rfl | hx
      · exact (Ty.beq_iff _ _).1 ha
      · exact ih h x hx
    · cases h
theorem small_of {a : Tm} (h1 : a.size ≤ 32000) (h2 : a.depth ≤ 300) : a.small = true := by
  simp only [Tm.small, Bool.and_eq_true, decide_eq_true_eq]; exact ⟨h1, h2⟩
theorem con_size (n : ByteArray) (t : Ty) : (Tm.con n t).size = 1 ∧ (Tm.con n t).depth = 1 := ⟨rfl, rfl⟩
/-- a function applied to a number that fits -/
theorem comb_ok {f x : Tm} {u : Ty} (hf : f.ok ∧ f.tys) (hx : x.ok ∧ x.tys) (cf : f.check = 0) (cx : x.check = 0) (h : appT f.type x.type = some u) (s1 : f.size ≤ 3000) (s2 : f.depth ≤ 200) (s3 : x.size ≤ 2000) (s4 : x.depth ≤ 100) :
    terms_Comb f x = some (Tm.app f x, 0) ∧ (Tm.app f x).check = 0 ∧ (Tm.app f x).type = u := by
  have hs : (Tm.app f x).small = true := small_of (by rw [Tm.app_size]; omega) (by rw [Tm.app_depth]; omega)
  have := Tm.app_check cf cx h
  rw [hs] at this
  rw [terms_Comb_eq hf hx cf cx h, hs]
  exact ⟨rfl, this.1, this.2⟩
theorem con_okt {n : ByteArray} {t : Ty} (h0 : n.size ≤ big) (hok : t.ok) (hs : t.size ≤ tlim) : (Tm.con n t).ok ∧ (Tm.con n t).tys := ⟨(con_fine h0 hok hs).1, (con_fine h0 hok hs).2.1⟩
theorem app_okt {f x : Tm} (hf : f.ok ∧ f.tys) (hx : x.ok ∧ x.tys) (s : f.size + x.size + 1 ≤ 100000) : (Tm.app f x).ok ∧ (Tm.app f x).tys := ⟨(Tm.app_fine hf hx s).1, (Tm.app_fine hf hx s).2.1⟩
def bSuc : ByteArray := ⟨#[83, 85, 67]⟩
def sucR (a : Tm) : Tm × Int := if chks [a] = 0 then (if nums [a] = 0 then (Tm.app (Tm.con bSuc sucT) a, 0) else (zTm, nums [a])) else (zTm, chks [a])
theorem nTy_lim : nTy.size ≤ lim := by decide
theorem num_MkSuc_eq {a : Tm} (h : a.fine) : num_MkSuc a = some (sucR a) := by
  have h1 : ∀ x ∈ [a], x.fine := fun x hx => by rcases List.mem_singleton.1 hx with rfl; exact h
  rw [num_MkSuc, num_check_eq [a] h1, bs, sucR]
  by_cases hc : chks [a] = 0
  · rw [if_neg (fun k => k hc), if_pos hc]
    have hz := checkT_zero (chks_zero hc a (by simp))
    rw [num_numbers_eq [a] (fun x hx => by rcases List.mem_singleton.1 hx with rfl; exact ⟨h, hz.1⟩), bs]
    by_cases hn : nums [a] = 0
    · have hsz := fits_small hz.2
      have ht := nums_zero hn a (by simp)
      obtain ⟨q1, q2⟩ := Tm.con_check (n := bSuc) (t := sucT) (by decide) (by decide)
      have hc := (comb_ok (f := Tm.con bSuc sucT) (x := a) (u := nTy) (con_okt (by decide) (Ty.fn_ok nTy_ok nTy_ok) (by decide)) ⟨h.1, h.2.1⟩ q1 hz.1 (by rw [q2, ht]; exact appT_fn _ _) (by rw [(con_size _ _).1]; omega) (by rw [(con_size _ _).2]; omega) hsz.1 hsz.2).1
      rw [if_neg (fun k => k hn), if_pos hn, num_successor, show num_Type = some nTy from rfl, bs, bs, types_Fun_eq _ _ nTy_lim nTy_lim, bs, show num_constant (ByteArray.mk #[83, 85, 67]) (Ty.fn nTy nTy) = some (Tm.con bSuc sucT) from rfl, bs, bs, hc, bs]
    · rw [if_pos hn, if_neg hn]; rfl
  · rw [if_pos hc, if_neg hc]; rfl
theorem ref21_MkSuc_eq {a : Tm} (h : a.fine) : sequentref21_MkSuc a = some (sucR a) := by
  have h1 : ∀ x ∈ [a], x.fine := fun x hx => by rcases List.mem_singleton.1 hx with rfl; exact h
  rw [sequentref21_MkSuc, ref21_Checks_eq [a] h1, bs, sucR]
  by_cases hc : chks [a] = 0
  · rw [if_pos hc, if_pos hc, if_pos rfl]
    by_cases hn : nums [a] = 0
    · rw [if_neg (fun k => k hn), if_pos hn, sequentref21_Suc, show sequentref21_N = some nTy from rfl, bs, bs, ref_Fun_eq _ _ nTy_lim nTy_lim, bs]; rfl
    · rw [if_pos hn, if_neg hn]; rfl
  · rw [if_neg hc, if_pos hc, if_neg hc]; rfl

/-! ### operators -/
def isOp (op : ByteArray) : Bool := decide (op = ⟨#[43]⟩) || (decide (op = ⟨#[42]⟩) || (decide (op = ⟨#[60, 61]⟩) || decide (op = ⟨#[60]⟩)))
def opTy (op : ByteArray) : Ty := Ty.fn nTy (Ty.fn nTy (if op = ⟨#[60, 61]⟩ ∨ op = ⟨#[60]⟩ then Ty.bool else nTy))
def mkR (op : ByteArray) (l r : Tm) : Tm × Int :=
  if chks [l, r] = 0 then (if isOp op then (if nums [l, r] = 0 then (Tm.app (Tm.app (Tm.con op (opTy op)) l) r, 0) else (zTm, nums [l, r])) else (zTm, 6)) else (zTm, chks [l, r])
theorem isOp_cases {op : ByteArray} (h : isOp op = true) : op = ⟨#[43]⟩ ∨ op = ⟨#[42]⟩ ∨ op = ⟨#[60, 61]⟩ ∨ op = ⟨#[60]⟩ := by simpa [isOp] using h
theorem num_operator_eq (op : ByteArray) : num_operator op = some (if isOp op then (Tm.con op (opTy op), true) else (zTm, false)) := by
  have l1 : (Ty.fn nTy nTy).size ≤ lim := by decide
  have l2 : (Ty.fn nTy Ty.bool).size ≤ lim := by decide
  rw [num_operator, show num_Type = some nTy from rfl, bs]
  rw [types_Fun_eq _ _ nTy_lim nTy_lim, show types_Bool = some Ty.bool from rfl]
  simp only [bs]
  rw [types_Fun_eq _ _ nTy_lim bool_lim]
  simp only [bs]
  rw [types_Fun_eq _ _ nTy_lim l1, types_Fun_eq _ _ nTy_lim l2]
  simp only [bs, num_constant]
  by_cases h1 : op = ⟨#[43]⟩
  · subst h1; rfl
  by_cases h2 : op = ⟨#[42]⟩
  · subst h2; rfl
  by_cases h3 : op = ⟨#[60, 61]⟩
  · subst h3; rfl
  by_cases h4 : op = ⟨#[60]⟩
  · subst h4; rfl
  rw [if_neg h1, if_neg h2, if_neg h3, if_neg h4]
  have : isOp op = false := by simp [isOp, h1, h2, h3, h4]
  rw [this]; rfl
theorem ref21_IsOp_eq (op : ByteArray) : sequentref21_IsOp op = some (isOp op) := by
  rw [sequentref21_IsOp, isOp]
  by_cases h1 : op = ⟨#[43]⟩
  · rw [if_pos h1, decide_eq_true h1]; rfl
  by_cases h2 : op = ⟨#[42]⟩
  · rw [if_neg h1, if_pos h2, decide_eq_false h1, decide_eq_true h2]; rfl
  by_cases h3 : op = ⟨#[60, 61]⟩
  · rw [if_neg h1, if_neg h2, if_pos h3, decide_eq_false h1, decide_eq_false h2, decide_eq_true h3]; rfl
  rw [if_neg h1, if_neg h2, if_neg h3, decide_eq_false h1, decide_eq_false h2, decide_eq_false h3]; rfl
theorem opTy_ok (op : ByteArray) : (opTy op).ok ∧ (opTy op).size ≤ tlim ∧ (opTy op).valid = true := by
  unfold opTy
  split
  · exact ⟨Ty.fn_ok nTy_ok (Ty.fn_ok nTy_ok Ty.bool_ok), by decide, by decide⟩
  · exact ⟨Ty.fn_ok nTy_ok (Ty.fn_ok nTy_ok nTy_ok), by decide, by decide⟩
theorem op_name {op : ByteArray} (h : isOp op = true) : op.size ≤ big ∧ cname op = true := by
  rcases isOp_cases h with rfl | rfl | rfl | rfl <;> exact ⟨by decide, by decide⟩
theorem two_mem {l r x : Tm} {p : Tm → Prop} (hl : p l) (hr : p r) (hx : x ∈ [l, r]) : p x := by
  rcases List.mem_cons.1 hx with rfl | hx
  · exact hl
  · rcases List.mem_singleton.1 hx with rfl; exact hr
theorem num_Mk_eq {op : ByteArray} {l r : Tm} (hl : l.fine) (hr : r.fine) : num_Mk op l r = some (mkR op l r) := by
  rw [num_Mk, num_check_eq [l, r] (fun x hx => two_mem (p := Tm.fine) hl hr hx), bs, mkR]
  by_cases hc : chks [l, r] = 0
  · rw [if_neg (fun k => k hc), if_pos hc, num_operator_eq, bs]
    rcases fot (isOp op) with ho | ho
    · rw [ho]; rfl
    rw [ho, if_pos rfl, if_pos rfl]
    have zl := checkT_zero (chks_zero hc l (by simp))
    have zr := checkT_zero (chks_zero hc r (by simp))
    simp only [if_true]
    rw [num_numbers_eq [l, r] (fun x hx => two_mem (p := fun x => x.fine ∧ x.check = 0) ⟨hl, zl.1⟩ ⟨hr, zr.1⟩ hx), bs]
    by_cases hn : nums [l, r] = 0
    · have sl := fits_small zl.2
      have sr := fits_small zr.2
      have tl := nums_zero hn l (by simp)
      have tr := nums_zero hn r (by simp)
      obtain ⟨k1, k2, k3⟩ := opTy_ok op
      obtain ⟨n1, n2⟩ := op_name ho
      obtain ⟨q1, q2⟩ := Tm.con_check (n := op) (t := opTy op) n2 k3
      have ct := con_okt (n := op) n1 k1 k2
      obtain ⟨c1, c2, c3⟩ := comb_ok (f := Tm.con op (opTy op)) (x := l) ct ⟨hl.1, hl.2.1⟩ q1 zl.1 (by rw [q2, tl]; exact appT_fn _ _) (by rw [(con_size _ _).1]; omega) (by rw [(con_size _ _).2]; omega) sl.1 sl.2
      have cs := con_size op (opTy op)
      have at1 := app_okt ct ⟨hl.1, hl.2.1⟩ (by rw [cs.1]; omega)
      obtain ⟨d1, d2, d3⟩ := comb_ok (f := Tm.app (Tm.con op (opTy op)) l) (x := r) at1 ⟨hr.1, hr.2.1⟩ c2 zr.1 (by rw [c3, tr]; exact appT_fn _ _) (by rw [Tm.app_size, cs.1]; omega) (by rw [Tm.app_depth, cs.2]; omega) sr.1 sr.2
      rw [if_neg (fun k => k hn), if_pos hn, c1, bs, if_neg (fun k => k rfl), d1, bs]
    · rw [if_pos hn, if_neg hn]; rfl
  · rw [if_pos hc, if_neg hc]; rfl
theorem ref21_Op_eq (op : ByteArray) (l r : Tm) : sequentref21_Op op l r = some (Tm.app (Tm.app (Tm.con op (opTy op)) l) r) := by
  have l1 : (Ty.fn nTy nTy).size ≤ lim := by decide
  have l2 : (Ty.fn nTy Ty.bool).size ≤ lim := by decide
  have j : ∀ u : Ty, u.size ≤ lim → (Ty.fn nTy u).size ≤ lim → sequentref21_Op_j0 u.v u.name u.args op l r = some (Tm.app (Tm.app (Tm.con op (Ty.fn nTy (Ty.fn nTy u))) l) r) := by
    intro u h h'
    obtain ⟨v, n, xs⟩ := u
    rw [sequentref21_Op_j0, show sequentref21_N = some nTy from rfl, bs, bs, ref_Fun_eq _ _ nTy_lim h, bs, ref_Fun_eq _ _ nTy_lim h', bs]; rfl
  rw [sequentref21_Op, show sequentref21_N = some nTy from rfl, bs, show sequentref01_Bool = some Ty.bool from rfl, opTy]
  by_cases h3 : op = ⟨#[60, 61]⟩
  · rw [if_pos h3, if_pos (.inl h3), bs, j _ bool_lim l2]
  by_cases h4 : op = ⟨#[60]⟩
  · rw [if_neg h3, if_pos h4, if_pos (.inr h4), bs, j _ bool_lim l2]
  rw [if_neg h3, if_neg h4, if_neg (by rintro (h | h) <;> contradiction), j _ nTy_lim l1]
theorem ref21_Mk_eq {op : ByteArray} {l r : Tm} (hl : l.fine) (hr : r.fine) : sequentref21_Mk op l r = some (mkR op l r) := by
  have hall : ∀ x ∈ [l, r], x.fine := fun x hx => two_mem (p := Tm.fine) hl hr hx
  rw [sequentref21_Mk, ref21_Checks_eq [l, r] hall, bs, mkR]
  by_cases hc : chks [l, r] = 0
  · rw [if_pos hc, if_pos hc, if_neg Bool.false_ne_true, if_pos rfl, ref21_IsOp_eq, bs]
    rcases fot (isOp op) with ho | ho
    · rw [ho, if_neg Bool.false_ne_true, if_neg Bool.false_ne_true, sequentref21_Mk_j0, if_neg (by decide), sequentref21_Mk_j1, if_pos (by decide)]; rfl
    rw [ho, if_pos rfl, if_pos rfl, sequentref21_Mk_j0, if_pos rfl, ref21_Checks_eq [l, r] hall, bs, if_pos hc, if_pos rfl, sequentref21_Mk_j1]
    by_cases hn : nums [l, r] = 0
    · rw [if_neg (fun k => k hn), if_pos hn, ref21_Op_eq, bs]
    · rw [if_pos hn, if_neg hn]; rfl
  · rw [if_neg hc, if_neg hc, if_neg hc, sequentref21_Mk_j0, if_neg hc, sequentref21_Mk_j1, if_pos hc]; rfl

/-! ### the statement -/
theorem leaf_fine {k : Int} {n : ByteArray} {t : Ty} (hk : 0 ≤ k ∧ k ≤ 255) (h0 : n.size ≤ big) (hok : t.ok) (hs : t.size ≤ tlim) : (Tm.mk k n t 0 []).fine :=
  ⟨⟨hk, h0, hok, by decide, by decide, trivial⟩, ⟨hs, trivial⟩, by simp [Tm.size, Tm.sizes]⟩
def tT : Tm := Tm.con ⟨#[84]⟩ Ty.bool
def vN : Tm := Tm.mk 1 ⟨#[110]⟩ nTy 0 []
theorem woke_eq : sequentlaw21_woke = some true := by
  have f1 : tT.fine := leaf_fine (by decide) (by decide) Ty.bool_ok (by decide)
  have f2 : vN.fine := leaf_fine (by decide) (by decide) nTy_ok (by decide)
  have s1 : sucR tT = (zTm, 50) := by
    have : chks [tT] = 0 := by decide +kernel
    have h2 : nums [tT] = 50 := by decide +kernel
    rw [sucR, if_pos this, if_neg (by rw [h2]; decide), h2]
  have s2 : mkR ⟨#[45]⟩ vN vN = (zTm, 6) := by
    have : chks [vN, vN] = 0 := by decide +kernel
    rw [mkR, if_pos this, if_neg (by decide)]
  rw [sequentlaw21_woke, show sequentref09_T = some tT from rfl, bs, num_MkSuc_eq f1, bs, show sequentref21_V (ByteArray.mk #[110]) = some vN from rfl, bs, num_Mk_eq f2 f2, bs, s1, s2]
  rfl
theorem sucR_ok {a : Tm} (h : a.fine) : (sucR a).1.ok := by
  unfold sucR
  split
  · split
    · exact ⟨by decide, by decide, ⟨by decide, by decide, trivial⟩, by decide, (by decide : 2 ≤ big), (con_okt (n := bSuc) (by decide) (Ty.fn_ok nTy_ok nTy_ok) (by decide)).1, h.1, trivial⟩
    · exact zTm_fine.1
  · exact zTm_fine.1
theorem mkR_ok {op : ByteArray} {l r : Tm} (hl : l.fine) (hr : r.fine) : (mkR op l r).1.ok := by
  unfold mkR
  split
  · split
    · rename_i ho
      split
      · exact ⟨by decide, by decide, ⟨by decide, by decide, trivial⟩, by decide, (by decide : 2 ≤ big), ⟨by decide, by decide, ⟨by decide, by decide, trivial⟩, by decide, (by decide : 2 ≤ big), (con_okt (op_name ho).1 (opTy_ok op).1 (opTy_ok op).2.1).1, hl.1, trivial⟩, hr.1, trivial⟩
      · exact zTm_fine.1
    · exact zTm_fine.1
  · exact zTm_fine.1
theorem NumTerms_law (op : ByteArray) (l r : Tm) (hl : l.ok) (hr : r.ok) : sequentlaw21_NumTerms op l r = some true := by
  rw [sequentlaw21_NumTerms, woke_eq, bs, ref2_Great_eq l hl, bs, ref2_Great_eq r hr, bs]
  by_cases ho : (1000 : Int) < (op.size : Int)
  · rw [if_pos ho]
  rw [if_neg ho]
  rcases fot l.great with gl | gl
  · rcases fot r.great with gr | gr
    · have fl := Tm.great_fine hl gl
      have fr := Tm.great_fine hr gr
      rw [gl, gr, if_neg Bool.false_ne_true, if_neg Bool.false_ne_true, num_MkSuc_eq fl, bs, ref21_MkSuc_eq fl, bs, num_Mk_eq fl fr, bs, ref21_Mk_eq fl fr, bs, same_self (sucR_ok fl), bs, if_pos rfl, if_pos rfl, same_self (mkR_ok fl fr), bs, if_pos rfl, if_pos rfl]
    · rw [gl, gr, if_neg Bool.false_ne_true, if_pos rfl]
  · rw [gl, if_pos rfl]
end Go.Proofs.Ytdjmibbgoajcaaa.Fw
