/- Terms: what the printed functions answer (types of terms, checks). -/
import Derived.Test.YtdjmibbgoajcaaaMA
set_option autoImplicit false
set_option linter.unusedVariables false
set_option linter.unusedSimpArgs false
namespace Go.Proofs.Ytdjmibbgoajcaaa.Fw
open Go Go.Proofs

theorem ref2_none_eq (a : Ty) : sequentref02_none a = some a.none := by
  obtain ⟨v, n, xs⟩ := a
  rw [sequentref02_none]
  simp only [Ty.Ds_len, Ty.none]
  have : ((xs.length : Int) = 0) ↔ xs.length = 0 := by omega
  cases v <;> by_cases hn : n = ByteArray.empty <;> simp [hn, this]
theorem named_eq (s : ByteArray) (hs : s.size ≤ big) : terms_named s = some (cname s) := by
  rw [terms_named, types_Check_eq (Ty.mk false s []) ⟨hs, by decide, trivial⟩ (by simp [Ty.size, Ty.sizes, lim]), bs, check_leaf]
  cases hc : cname s <;> simp
theorem plain_ttf_eq (a : Tm) : terms_plain a true true false = some (decide (a.index = 0)) := by simp [terms_plain]
theorem none_iff (a : Ty) : a.none = true ↔ a.v = false ∧ a.name = ByteArray.empty ∧ a.args = [] := by
  obtain ⟨v, n, xs⟩ := a
  simp [Ty.none]
theorem plain_fft_eq (a : Tm) : terms_plain a false false true = some (decide (a.name = ByteArray.empty) && a.ty.none) := by
  rw [terms_plain]
  have h := none_iff a.ty
  cases hv : a.ty.v <;> by_cases h1 : a.name = ByteArray.empty <;> by_cases h2 : a.ty.name = ByteArray.empty <;> by_cases h3 : a.ty.args = [] <;> simp [hv, h1, h2, h3, Ty.Ds_len] at h ⊢ <;> simp [h]
theorem plain_fff_eq (a : Tm) : terms_plain a false false false = some (decide (a.name = ByteArray.empty) && (a.ty.none && decide (a.index = 0))) := by
  rw [terms_plain]
  have h := none_iff a.ty
  cases hv : a.ty.v <;> by_cases h1 : a.name = ByteArray.empty <;> by_cases h2 : a.ty.name = ByteArray.empty <;> by_cases h3 : a.ty.args = [] <;> simp [hv, h1, h2, h3, Ty.Ds_len] at h ⊢ <;> simp [h]
theorem geti_two {α : Type} (a b : α) : geti [a, b] 0 = some a ∧ geti [a, b] 1 = some b := ⟨rfl, rfl⟩
theorem appT_some {f x : Ty} : appT f x = (if f.v = false ∧ f.name = bFun ∧ f.args.length = 2 then match f.args with | [a, b] => if Ty.beq a x = true then some b else none | _ => none else none) := by
  obtain ⟨v, n, xs⟩ := f
  cases v
  · match xs with
    | [] => simp [appT]
    | [a] => simp [appT]
    | [a, b] => by_cases hn : n = bFun <;> simp [appT, hn]
    | a :: b :: c :: r => simp [appT]
  · simp [appT]
theorem ref_Formed_eq : ∀ (a : Tm), a.ok → a.tys → ∀ (l : List Ty), (∀ x ∈ l, x.ok ∧ x.size ≤ tlim) → l.length + a.depth ≤ 1000 → sequentref02_Formed a l = some (Tm.formed l a) := by
  refine Tm.ind fun k n t i xs ih => ?_
  rintro ⟨hk, hn, ht, hi, hxl, hoks⟩ ⟨hts, htys⟩ l hl hd
  have hlim : t.size ≤ lim := by simp only [tlim, lim] at hts ⊢; omega
  have hok : ∀ x ∈ l, x.ok := fun x hx => (hl x hx).1
  have hxs : ((xs.length : Int) = 0) ↔ xs.length = 0 := by omega
  rw [sequentref02_Formed_eq]
  simp only [Tm.formed, ref2_name_eq n hn, ref_Valid_eq t ht hlim, ref2_none_eq, bs, Tm.Ds_len, Ty.Ds_len]
  by_cases h1 : k = 1
  · subst h1
    cases hc : cname n <;> cases hv : t.valid <;> by_cases h0 : i = 0 <;> simp [h0]
  by_cases h2 : k = 2
  · subst h2
    cases hc : cname n <;> cases hv : t.valid <;> by_cases h0 : i = 0 <;> simp [h0]
  have h12 : ¬ (k = 1 ∨ k = 2) := by omega
  rw [if_neg h1, if_neg h2, if_neg h12]
  by_cases h3 : k = 3
  · subst h3
    simp only [if_true]
    by_cases e1 : n = ByteArray.empty
    · cases e2 : t.none
      · simp [e1]; rfl
      · by_cases e3 : xs.length = 0
        · by_cases e4 : i < 0
          · have : ¬ 0 ≤ i := by omega
            simp [e1, e3, e4, this]; rfl
          · by_cases e5 : (l.length : Int) ≤ i
            · have : ¬ i < l.length := by omega
              simp [e1, e3, e4, e5, this]; rfl
            · have h6 : 0 ≤ i := by omega
              have h7 : i < l.length := by omega
              rw [if_neg (by simpa using e1)]
              simp only [if_true]
              rw [if_neg (by omega), if_neg e4, if_neg e5, geti_lt h6 h7, bs, if_pos ⟨e1, trivial, e3, h6, h7⟩, List.getD_eq_getElem?_getD, List.getElem?_eq_getElem (by omega)]
              rfl
        · have h9 : ¬ (xs.length : Int) = 0 := by omega
          simp only [e1, not_true_eq_false, if_false, if_true, h9, not_false_eq_true, e3, false_and, and_false]; rfl
    · simp [e1]; rfl
  rw [if_neg h3, if_neg h3]
  by_cases h4 : k = 4
  · subst h4
    simp only [if_true]
    by_cases hq : n = ByteArray.empty ∧ t.none = true ∧ i = 0 ∧ xs.length = 2
    · obtain ⟨e1, e2, e3, e4⟩ := hq
      match xs, e4 with
      | [f, x], _ =>
        simp only [Tm.depth, Tm.depths] at hd
        have hf := ih f (by simp) hoks.1 htys.1 l hl (by omega)
        have hx := ih x (by simp) hoks.2.1 htys.2.1 l hl (by omega)
        simp only [e1, e2, e3, not_true_eq_false, if_false, if_true, List.length_cons, List.length_nil, true_and, Tm.formeds, Nat.zero_add]
        rw [if_neg (by decide)]
        simp only [(geti_two f x).1, (geti_two f x).2, bs, hf, hx, appT_some, ref_Same_eq, Ty.Ds_len]
        generalize Tm.formed l f = F
        generalize Tm.formed l x = X
        obtain ⟨⟨fv, fn, fa⟩, fb⟩ := F
        obtain ⟨X1, xb⟩ := X
        simp only []
        cases fb
        · simp; rfl
        cases xb
        · simp; rfl
        cases fv
        · by_cases hfn : fn = bFun
          · have hfn' : fn = (⟨#[102, 117, 110]⟩ : ByteArray) := hfn
            match fa with
            | [] => simp [hfn]; rfl
            | [a] => simp [hfn]; rfl
            | a :: b :: c :: r =>
              have : ¬ ((a :: b :: c :: r).length : Int) = 2 := by simp only [List.length_cons]; omega
              have h' : ¬ (a :: b :: c :: r).length = 2 := by simp only [List.length_cons]; omega
              simp only [this, h', not_false_eq_true, if_true, and_false, if_false, ← hfn', hfn, not_true_eq_false, Bool.false_eq_true]; rfl
            | [a, b] =>
              simp only [← hfn', (geti_two a b).1, (geti_two a b).2, bs, hfn, ref_Same_eq]
              cases hb : Ty.beq a X1 <;> simp <;> rfl
          · have hfn' : ¬ fn = (⟨#[102, 117, 110]⟩ : ByteArray) := hfn
            simp [hfn, hfn']; rfl
        · simp; rfl
    · rw [if_neg hq]
      by_cases e1 : n = ByteArray.empty
      · cases e2 : t.none
        · simp [e1]; rfl
        · by_cases e3 : i = 0
          · have e4 : ¬ xs.length = 2 := fun h => hq ⟨e1, e2, e3, h⟩
            have e4' : ¬ (xs.length : Int) = 2 := by omega
            simp [e1, e3, e4']; rfl
          · simp [e1, e3]; rfl
      · simp [e1]; rfl
  rw [if_neg h4, if_neg h4]
  by_cases h5 : k = 5
  · subst h5
    simp only [if_true]
    by_cases hq : cname n = true ∧ t.valid = true ∧ i = 0 ∧ xs.length = 1
    · obtain ⟨e1, e2, e3, e4⟩ := hq
      match xs, e4 with
      | [b], _ =>
        simp only [Tm.depth, Tm.depths] at hd
        have hl' : ∀ x ∈ t :: l, x.ok ∧ x.size ≤ tlim := fun x hx => by
          rcases List.mem_cons.1 hx with rfl | hx
          · exact ⟨ht, hts⟩
          · exact hl x hx
        have hb := ih b (by simp) hoks.1 htys.1 (t :: l) hl' (by simp only [List.length_cons]; omega)
        have hsz := Tm.formed_size b htys.1 (t :: l) tlim (Nat.le_refl _) (fun x hx => (hl' x hx).2)
        have hfo := Tm.formed_ok b hoks.1 (t :: l) fun x hx => (hl' x hx).1
        have hmul := Nat.mul_le_mul_left (tlim + 1) (show b.depth ≤ 1000 by omega)
        simp only [tlim] at hsz hmul hts
        simp only [e1, e2, e3, if_true, List.length_cons, List.length_nil, true_and, Tm.formeds, Nat.zero_add, not_true_eq_false, if_false]
        rw [if_neg (by decide)]
        rw [show geti [b] 0 = some b from rfl, bs, app_eq (by simp; omega), bs, show [t] ++ l = t :: l from rfl, hb, bs, sequentref02_Formed_j0]
        simp only []
        rw [ref_Fun_eq t _ hlim (by simp only [lim]; omega), bs]
        generalize hF : Tm.formed (t :: l) b = F at hsz hfo
        obtain ⟨u, ub⟩ := F
        simp only [] at hsz hfo ⊢
        cases ub
        · simp
        · simp only [if_true, Bool.true_and]
          rw [ref_Valid_eq _ (Ty.fn_ok ht hfo) (by simp only [Ty.fn, Ty.size, Ty.sizes, lim]; omega), bs]
    · rw [if_neg hq]
      cases e1 : cname n
      · simp; rfl
      · cases e2 : t.valid
        · simp; rfl
        · by_cases e3 : i = 0
          · have e4 : ¬ xs.length = 1 := fun h => hq ⟨e1, e2, e3, h⟩
            have e4' : ¬ (xs.length : Int) = 1 := by omega
            simp [e3, e4']; rfl
          · simp [e3]; rfl
  · rw [if_neg h5, if_neg h5]; rfl
theorem prog_formed_eq : ∀ (a : Tm), a.ok → a.tys → ∀ (l : List Ty), (∀ x ∈ l, x.ok ∧ x.size ≤ tlim) → l.length + a.depth ≤ 1000 → terms_formed a l = some (Tm.pform l a) := by
  refine Tm.ind fun k n t i xs ih => ?_
  rintro ⟨hk, hn, ht, hi, hxl, hoks⟩ ⟨hts, htys⟩ l hl hd
  have hlim : t.size ≤ lim := by simp only [tlim, lim] at hts ⊢; omega
  rw [terms_formed_eq]
  simp only [Tm.pform, plain_ttf_eq, plain_fft_eq, plain_fff_eq, named_eq n hn, types_Check_eq t ht hlim, bs, Tm.Ds_len, Ty.Ds_len]
  have hv : decide (tcheck t = 0) = t.valid := by unfold tcheck; cases t.valid <;> simp
  have hleaf : (if decide (i = 0) = true then if cname n = true then if (xs.length : Int) = 0 then some (t, decide (tcheck t = 0)) else some (t, false) else some (t, false) else some (t, false)) = some (t, decide (i = 0) && (cname n && (decide (xs.length = 0) && t.valid))) := by
    rw [hv]
    by_cases h0 : i = 0 <;> cases hc : cname n <;> by_cases hx : xs.length = 0 <;> simp [h0, hx]
  by_cases h1 : k = 1
  · subst h1; rw [if_pos rfl, hleaf, if_pos (.inl rfl)]
  by_cases h2 : k = 2
  · subst h2; rw [if_neg (by decide), if_pos rfl, hleaf, if_pos (.inr rfl)]
  have h12 : ¬ (k = 1 ∨ k = 2) := by omega
  rw [if_neg h1, if_neg h2, if_neg h12]
  have hz : (Ty.mk false ByteArray.empty []) = zTy := rfl
  simp only [hz]
  by_cases h3 : k = 3
  · subst h3
    simp only [if_true]
    by_cases e1 : n = ByteArray.empty
    · cases e2 : t.none
      · simp [e1]
      · by_cases e3 : xs.length = 0
        · by_cases e4 : i < 0
          · have : ¬ 0 ≤ i := by omega
            simp [e1, e3, e4, this]
          · by_cases e5 : (l.length : Int) ≤ i
            · have : ¬ i < l.length := by omega
              simp [e1, e3, e4, e5, this]
            · have h6 : 0 ≤ i := by omega
              have h7 : i < l.length := by omega
              simp only [e1, decide_true, Bool.true_and, if_true]
              rw [if_neg (by omega), if_neg e4, if_neg e5, wr (x := (l.length : Int) - 1) (by omega) (by omega), wr (by omega) (by omega), geti_lt (by omega) (by omega), bs, if_pos ⟨trivial, trivial, e3, h6, h7⟩, List.getD_eq_getElem?_getD]
              have hi2 : ((l.length : Int) - 1 - i).toNat = l.length - 1 - i.toNat := by omega
              rw [List.getElem?_eq_getElem (by omega)]
              simp only [hi2]
              rfl
        · have h9 : 0 < (xs.length : Int) := by omega
          simp only [e1, decide_true, Bool.true_and, if_true, h9, e3, false_and, and_false, if_false]
    · simp [e1]
  rw [if_neg h3, if_neg h3]
  by_cases h4 : k = 4
  · subst h4
    simp only [if_true]
    by_cases hq : n = ByteArray.empty ∧ t.none = true ∧ i = 0 ∧ xs.length = 2
    · obtain ⟨e1, e2, e3, e4⟩ := hq
      match xs, e4 with
      | [f, x], _ =>
        simp only [Tm.depth, Tm.depths] at hd
        have hf := ih f (by simp) hoks.1 htys.1 l hl (by omega)
        have hx := ih x (by simp) hoks.2.1 htys.2.1 l hl (by omega)
        simp only [e1, e2, e3, decide_true, Bool.and_self, not_true_eq_false, if_false, if_true, List.length_cons, List.length_nil, true_and, Tm.pforms, Nat.zero_add]
        rw [if_neg (by decide)]
        simp only [(geti_two f x).1, (geti_two f x).2, bs, hf, hx, appT_some, types_Same_eq, Ty.Ds_len]
        generalize Tm.pform l f = F
        generalize Tm.pform l x = X
        obtain ⟨⟨fv, fn, fa⟩, fb⟩ := F
        obtain ⟨X1, xb⟩ := X
        simp only []
        cases fb
        · simp
        cases xb
        · simp
        cases fv
        · by_cases hfn : fn = bFun
          · have hfn' : fn = (⟨#[102, 117, 110]⟩ : ByteArray) := hfn
            match fa with
            | [] => simp [hfn]
            | [a] => simp [hfn]
            | a :: b :: c :: r =>
              have : ¬ ((a :: b :: c :: r).length : Int) = 2 := by simp only [List.length_cons]; omega
              have h' : ¬ (a :: b :: c :: r).length = 2 := by simp only [List.length_cons]; omega
              simp only [this, h', not_false_eq_true, if_true, and_false, if_false, ← hfn', hfn, not_true_eq_false, Bool.false_eq_true, true_and]
            | [a, b] =>
              simp only [← hfn', (geti_two a b).1, (geti_two a b).2, bs, hfn, types_Same_eq]
              cases hb : Ty.beq a X1 <;> simp
          · have hfn' : ¬ fn = (⟨#[102, 117, 110]⟩ : ByteArray) := hfn
            simp [hfn, hfn']
        · simp
    · rw [if_neg hq]
      by_cases e1 : n = ByteArray.empty
      · cases e2 : t.none
        · simp [e1]
        · by_cases e3 : i = 0
          · have e4 : ¬ xs.length = 2 := fun h => hq ⟨e1, e2, e3, h⟩
            have e4' : ¬ (xs.length : Int) = 2 := by omega
            simp [e1, e3, e4']
          · simp [e1, e3]
      · simp [e1]
  rw [if_neg h4, if_neg h4]
  by_cases h5 : k = 5
  · subst h5
    simp only [if_true]
    by_cases hq : cname n = true ∧ t.valid = true ∧ i = 0 ∧ xs.length = 1
    · obtain ⟨e1, e2, e3, e4⟩ := hq
      match xs, e4 with
      | [b], _ =>
        simp only [Tm.depth, Tm.depths] at hd
        have hl' : ∀ x ∈ l ++ [t], x.ok ∧ x.size ≤ tlim := fun x hx => by
          rcases List.mem_append.1 hx with hx | hx
          · exact hl x hx
          · rw [List.mem_singleton.1 hx]; exact ⟨ht, hts⟩
        have hb := ih b (by simp) hoks.1 htys.1 (l ++ [t]) hl' (by simp only [List.length_append, List.length_cons, List.length_nil]; omega)
        have hpf := Tm.pform_formed b (l ++ [t])
        have hsz := Tm.formed_size b htys.1 (l ++ [t]).reverse tlim (Nat.le_refl _) (fun x hx => (hl' x (List.mem_reverse.1 hx)).2)
        have hfo := Tm.formed_ok b hoks.1 (l ++ [t]).reverse fun x hx => (hl' x (List.mem_reverse.1 hx)).1
        have hmul := Nat.mul_le_mul_left (tlim + 1) (show b.depth ≤ 1000 by omega)
        simp only [tlim] at hsz hmul hts
        have htc : tcheck t = 0 := by unfold tcheck; rw [e2]; rfl
        simp only [e1, e2, e3, htc, decide_true, if_true, List.length_cons, List.length_nil, true_and, Tm.pforms, Nat.zero_add, not_true_eq_false, if_false]
        rw [if_neg (by decide), show geti [b] 0 = some b from rfl]
        simp only [bs]
        rw [cut, if_pos (by omega)]
        simp only [bs, Int.toNat_zero, Int.toNat_natCast, List.take_length, List.drop_zero]
        rw [app_eq (by simp; omega), bs, hb, bs, terms_formed_j0]
        generalize Tm.pform (l ++ [t]) b = F at hpf
        obtain ⟨u, ub⟩ := F
        simp only [] at hpf ⊢
        cases ub
        · simp; rfl
        · have hu := hpf.2 rfl
          rw [← hu] at hsz hfo
          simp only [if_true]
          rw [show (⟨false, ⟨#[102, 117, 110]⟩, [t, u]⟩ : Ty) = Ty.fn t u from rfl, types_Check_eq _ (Ty.fn_ok ht hfo) (by simp only [Ty.fn, Ty.size, Ty.sizes, lim]; omega), bs]
          congr 2
          unfold tcheck; cases (Ty.fn t u).valid <;> simp
    · rw [if_neg hq]
      cases e1 : cname n
      · simp
      · by_cases e2 : t.valid = true
        · have htc : tcheck t = 0 := by unfold tcheck; rw [e2]; rfl
          by_cases e3 : i = 0
          · have e4 : ¬ xs.length = 1 := fun h => hq ⟨e1, e2, e3, h⟩
            have e4' : ¬ (xs.length : Int) = 1 := by omega
            simp [e3, e4', htc]
          · simp [e3, htc]
        · have htc : tcheck t = 10 := by unfold tcheck; rw [if_neg e2]
          by_cases e3 : i = 0
          · by_cases e4 : (xs.length : Int) = 1 <;> simp [e3, htc, e4]
          · simp [e3]
  · rw [if_neg h5, if_neg h5]
/-! ### checks -/
theorem Tm.small_depth {a : Tm} (h : a.small = true) : a.size ≤ 32000 ∧ a.depth ≤ 300 := by simpa [Tm.small] using h
def Tm.type (a : Tm) : Ty := (Tm.formed [] a).1
theorem ref2_Check_eq (a : Tm) (h : a.ok) (hs : a.size ≤ lim) (ht : a.tys) : sequentref02_Check a = some a.check := by
  rw [sequentref02_Check, ref2_Small_eq a hs, bs, Tm.check]
  rcases fot a.small with hsm | hsm
  · simp [hsm]
  · have hd := (Tm.small_depth hsm).2
    have hf := ref_Formed_eq a h ht [] (fun x hx => by cases hx) (by simp only [List.length_nil]; omega)
    simp only [hsm, hf, bs]
    cases (Tm.formed [] a).2 <;> simp
theorem Tm.check_zero {a : Tm} : a.check = 0 ↔ a.small = true ∧ (Tm.formed [] a).2 = true := by
  unfold Tm.check
  cases a.small <;> cases (Tm.formed [] a).2 <;> simp
theorem terms_typed_eq (a : Tm) (h : a.ok) (hs : a.size ≤ lim) (ht : a.tys) : terms_typed a = some (if a.check = 0 then a.type else zTy, a.check) := by
  rw [terms_typed, terms_great_eq a hs, bs, Tm.check]
  rcases fot a.small with hsm | hsm
  · simp [hsm]; rfl
  · have hd := (Tm.small_depth hsm).2
    have hf := prog_formed_eq a h ht [] (fun x hx => by cases hx) (by simp only [List.length_nil]; omega)
    have hp := Tm.pform_nil a
    simp only [hsm, hf, bs]
    generalize Tm.pform [] a = F at hp
    obtain ⟨u, ub⟩ := F
    simp only [] at hp ⊢
    rw [← hp.1]
    cases ub
    · simp; rfl
    · simp [hp.2 rfl]; rfl
theorem terms_Check_eq (a : Tm) (h : a.ok) (hs : a.size ≤ lim) (ht : a.tys) : terms_Check a = some a.check := by rw [terms_Check, terms_typed_eq a h hs ht, bs]
end Go.Proofs.Ytdjmibbgoajcaaa.Fw


namespace Go.Proofs.Ytdjmibbgoajcaaa.Fw
open Go Go.Proofs

theorem zTm_eq : (Tm.mk 0 ByteArray.empty (Ty.mk false ByteArray.empty ([] : List Ty)) 0 ([] : List Tm)) = zTm := rfl
def Tm.fine (a : Tm) : Prop := a.ok ∧ a.tys ∧ a.size ≤ 100000
theorem Tm.fine.lim {a : Tm} (h : a.fine) : a.size ≤ Fw.lim := by have := h.2.2; simp only [Fw.lim]; omega
end Go.Proofs.Ytdjmibbgoajcaaa.Fw


namespace Go.Proofs.Ytdjmibbgoajcaaa.Fw
open Go Go.Proofs

def T1 : Ty := Ty.fn Ty.bool Ty.bool
def T2 : Ty := Ty.fn Ty.bool T1
end Go.Proofs.Ytdjmibbgoajcaaa.Fw


namespace Go.Proofs.Ytdjmibbgoajcaaa.Fw
open Go Go.Proofs

/-! ### the statement -/
theorem Tm.cmp_self : ∀ a : Tm, Tm.cmp a a = 0 := by
  refine Tm.ind fun k n t i xs ih => ?_
  have h0 : ∀ z : Int, icmp z z = 0 := fun z => by unfold icmp; simp
  have hn : ncmp n n = 0 := by unfold ncmp; simp
  have ht : Ty.cmp t t = 0 := (Ty.cmp_zero t t).2 rfl
  have hl : ∀ l : List Tm, (∀ x ∈ l, Tm.cmp x x = 0) → Tm.cmps l l = 0 := by
    intro l
    induction l with
    | nil => intro _; rfl
    | cons x r ihr => intro h; simp only [Tm.cmps, h x (by simp), ihr fun y hy => h y (by simp [hy])]; simp
  simp only [Tm.cmp, Tm.hd, h0, hn, ht, ors, hl xs ih]
  simp
theorem Tm.beq_self (a : Tm) : Tm.beq a a = true := by simp [Tm.beq, Tm.cmp_self]
theorem Tm.counts_pos (d : Nat) : ∀ (xs : List Tm) (l : Int), 0 < Tm.counts d l xs → ∀ x ∈ xs, ∃ l', 0 < Tm.count d l' x := by
  intro xs
  induction xs with
  | nil => intro l _ x hx; cases hx
  | cons a r ih =>
    intro l h x hx
    simp only [Tm.counts] at h
    split at h
    · have h1 : 0 < Tm.count d l a := by
        by_cases h1 : 0 < Tm.count d l a
        · exact h1
        · rw [Tm.counts_stop d _ r h1] at h; omega
      rcases List.mem_cons.1 hx with rfl | hx
      · exact ⟨l, h1⟩
      · exact ih _ h x hx
    · omega
theorem Tm.tyss_of {xs : List Tm} (h : ∀ x ∈ xs, x.tys) : Tm.tyss xs := by
  induction xs with
  | nil => trivial
  | cons a r ih => exact ⟨h a (by simp), ih fun x hx => h x (by simp [hx])⟩
theorem Tm.count_tys : ∀ (d : Nat) (l : Int) (a : Tm), 0 < Tm.count d l a → a.tys := by
  intro d
  induction d with
  | zero => intro l a h; simp only [Tm.count] at h; omega
  | succ d ih =>
    rintro l ⟨k, n, t, i, xs⟩ h
    simp only [Tm.count] at h
    split at h
    · omega
    · rename_i hg
      have := (Ty.great_size t (by simpa using hg)).1
      exact ⟨by simp only [tlim]; omega, Tm.tyss_of fun x hx => let ⟨l', h'⟩ := Tm.counts_pos d xs _ h x hx; ih l' x h'⟩
theorem Tm.great_fine {a : Tm} (h : a.ok) (hg : a.great = false) : a.fine := by
  simp only [Tm.great, Bool.and_eq_false_iff, Bool.not_eq_false', decide_eq_true_eq, Bool.or_eq_false_iff, decide_eq_false_iff_not] at hg
  rcases hg with hg | ⟨hg, _⟩
  · have := (Tm.count_size 400 2000 a hg).1
    exact ⟨h, Tm.count_tys _ _ _ hg, by omega⟩
  · have := (Tm.count_size 400 40000 a (by omega)).1
    exact ⟨h, Tm.count_tys 400 40000 a (by omega), by omega⟩
end Go.Proofs.Ytdjmibbgoajcaaa.Fw


namespace Go.Proofs.Ytdjmibbgoajcaaa.Fw
open Go Go.Proofs

theorem types_Size_l (xs : List Ty) (ih : ∀ x ∈ xs, types_Size x = some (x.size : Int)) : ∀ m : Nat, m + Ty.sizes xs ≤ 2 * lim → types_Size_l0 xs m = some ((m + Ty.sizes xs : Nat) : Int) := by
  simp only [lim]
  induction xs with
  | nil => intro m _; rw [types_Size_l0_eq]; simp [Ty.sizes]
  | cons x r ihr =>
    intro m hm
    simp only [Ty.sizes] at hm
    rw [types_Size_l0_eq]; simp only []
    rw [ih x (by simp), bs, wr (by omega) (by omega), bs, show (m : Int) + (x.size : Int) = ((m + x.size : Nat) : Int) by omega, ihr (fun y hy => ih y (by simp [hy])) _ (by omega)]
    simp [Ty.sizes, Nat.add_assoc]
theorem types_Size_eq2 : ∀ a : Ty, a.size ≤ lim → types_Size a = some (a.size : Int) := by
  refine Ty.ind fun v n xs ih => ?_
  intro hs
  simp only [Ty.size, lim] at hs ⊢
  rw [types_Size_eq, show (1 : Int) = ((1 : Nat) : Int) from rfl, types_Size_l xs (fun x hx => ih x hx (by have := Ty.size_mem hx; simp only [lim]; omega)) 1 (by simp only [lim]; omega)]
theorem terms_Size_l (xs : List Tm) (ih : ∀ x ∈ xs, terms_Size x = some (x.size : Int)) : ∀ m : Nat, m + Tm.sizes xs ≤ 2 * lim → terms_Size_l0 xs m = some ((m + Tm.sizes xs : Nat) : Int) := by
  simp only [lim]
  induction xs with
  | nil => intro m _; rw [terms_Size_l0_eq]; simp [Tm.sizes]
  | cons x r ihr =>
    intro m hm
    simp only [Tm.sizes] at hm
    rw [terms_Size_l0_eq]; simp only []
    rw [ih x (by simp), bs, wr (by omega) (by omega), bs, show (m : Int) + (x.size : Int) = ((m + x.size : Nat) : Int) by omega, ihr (fun y hy => ih y (by simp [hy])) _ (by omega)]
    simp [Tm.sizes, Nat.add_assoc]
theorem terms_Size_eq2 : ∀ a : Tm, a.size ≤ lim → terms_Size a = some (a.size : Int) := by
  refine Tm.ind fun k n t i xs ih => ?_
  intro hs
  simp only [Tm.size, lim] at hs ⊢
  rw [terms_Size_eq, show (1 : Int) = ((1 : Nat) : Int) from rfl, terms_Size_l xs (fun x hx => ih x hx (by have := Tm.size_mem hx; simp only [lim]; omega)) 1 (by simp only [lim]; omega)]
theorem equality_depth_l (xs : List Tm) (ih : ∀ x ∈ xs, equality_depth x = some (x.depth : Int)) : ∀ d : Nat, d ≤ lim → Tm.depths xs ≤ lim → equality_depth_l0 xs d = some ((1 + max d (Tm.depths xs) : Nat) : Int) := by
  simp only [lim]
  induction xs with
  | nil => intro d h1 h2; rw [equality_depth_l0_eq]; simp only []; rw [wr (by omega) (by omega), bs]; simp [Tm.depths]; omega
  | cons x r ihr =>
    intro d h1 h2
    simp only [Tm.depths] at h2
    rw [equality_depth_l0_eq]; simp only []
    rw [ih x (by simp), bs, show max (d : Int) (x.depth : Int) = ((max d x.depth : Nat) : Int) by omega, ihr (fun y hy => ih y (by simp [hy])) _ (by omega) (by omega)]
    simp [Tm.depths, Nat.max_assoc]
theorem equality_depth_eq2 : ∀ a : Tm, a.size ≤ lim → equality_depth a = some (a.depth : Int) := by
  refine Tm.ind fun k n t i xs ih => ?_
  intro hs
  simp only [Tm.size, lim] at hs
  have hd := Tm.depths_sizes xs
  rw [equality_depth_eq, show (0 : Int) = ((0 : Nat) : Int) from rfl, equality_depth_l xs (fun x hx => ih x hx (by have := Tm.size_mem hx; simp only [lim]; omega)) 0 (by omega) (by simp only [lim]; omega)]
  simp [Tm.depth]
/-! ### the types of subterms -/
def thin1 (u : Ty) : Bool := decide (u.size ≤ 100)
mutual
def Tm.thin : List Ty → Tm → Bool
  | l, .mk k n t i xs =>
    if k = 4 then Tm.thins l xs && thin1 (Tm.formed l (.mk k n t i xs)).1
    else if k = 5 then Tm.thins (t :: l) xs && thin1 (Tm.formed l (.mk k n t i xs)).1
    else thin1 (Tm.formed l (.mk k n t i xs)).1
def Tm.thins : List Ty → List Tm → Bool
  | _, [] => true
  | l, a :: r => Tm.thin l a && Tm.thins l r
end
theorem appT_shape {f x u : Ty} (h : appT f x = some u) : ∃ A, f = Ty.mk false bFun [A, u] := by
  unfold appT at h
  split at h
  · rename_i n a b
    split at h
    · rename_i hc
      injection h with h; subst h; exact ⟨a, by rw [hc.1]⟩
    · cases h
  · cases h
theorem formed_cases {l : List Ty} {k : Int} {n : ByteArray} {t : Ty} {i : Int} {xs : List Tm} (h : (Tm.formed l (.mk k n t i xs)).2 = true) :
    ((k = 1 ∨ k = 2) ∧ (Tm.formed l (.mk k n t i xs)).1 = t)
    ∨ (k = 3 ∧ 0 ≤ i ∧ i < l.length ∧ (Tm.formed l (.mk k n t i xs)).1 = l.getD i.toNat zTy)
    ∨ (k = 4 ∧ ∃ f x A, xs = [f, x] ∧ (Tm.formed l f).2 = true ∧ (Tm.formed l x).2 = true ∧ (Tm.formed l f).1 = Ty.mk false bFun [A, (Tm.formed l (.mk k n t i xs)).1])
    ∨ (k = 5 ∧ ∃ b, xs = [b] ∧ (Tm.formed (t :: l) b).2 = true ∧ (Tm.formed l (.mk k n t i xs)).1 = Ty.fn t (Tm.formed (t :: l) b).1) := by
  simp only [Tm.formed] at h ⊢
  split at h
  · rename_i h1
    rw [if_pos h1]; exact .inl ⟨h1, rfl⟩
  · rename_i h1
    rw [if_neg h1]
    split at h
    · rename_i h2
      rw [if_pos h2]
      split at h
      · rename_i h3
        rw [if_pos h3]; exact .inr (.inl ⟨h2, h3.2.2.2.1, h3.2.2.2.2, rfl⟩)
      · cases h
    · rename_i h2
      rw [if_neg h2]
      split at h
      · rename_i h3
        rw [if_pos h3]
        split at h
        · rename_i h4
          rw [if_pos h4]
          match xs, h4.2.2.2 with
          | [f, x], _ =>
            simp only [Tm.formeds] at h ⊢
            split at h
            · rename_i h5
              rw [if_pos h5]
              split at h
              · rename_i u hu
                obtain ⟨A, hA⟩ := appT_shape hu
                exact .inr (.inr (.inl ⟨h3, f, x, A, rfl, h5.1, h5.2, hA⟩))
              · cases h
            · cases h
        · cases h
      · rename_i h3
        rw [if_neg h3]
        split at h
        · rename_i h4
          rw [if_pos h4]
          split at h
          · rename_i h5
            rw [if_pos h5]
            match xs, h5.2.2.2 with
            | [b], _ =>
              simp only [Tm.formeds] at h ⊢
              rw [Bool.and_eq_true] at h
              exact .inr (.inr (.inr ⟨h4, b, rfl, h.1, rfl⟩))
          · cases h
        · cases h
theorem getD_geti {α : Type} {l : List α} {i : Int} {z : α} (h0 : 0 ≤ i) (h : i < l.length) : geti l i = some (l.getD i.toNat z) := by
  unfold geti
  rw [if_pos h0, List.getD_eq_getElem?_getD, List.getElem?_eq_getElem (by omega)]
  rfl
theorem geti_rev {α : Type} {l : List α} {i : Int} {z : α} (h0 : 0 ≤ i) (h : i < l.length) : geti l.reverse ((l.length : Int) - 1 - i) = some (l.getD i.toNat z) := by
  unfold geti
  have e : ((l.length : Int) - 1 - i).toNat = l.length - 1 - i.toNat := by omega
  rw [if_pos (by omega), e, List.getD_eq_getElem?_getD, List.getElem?_reverse (by omega), show l.length - 1 - (l.length - 1 - i.toNat) = i.toNat by omega, List.getElem?_eq_getElem (by omega)]
  rfl
theorem formed_lim {a : Tm} (ht : a.tys) {l : List Ty} (hl : ∀ x ∈ l, x.size ≤ tlim) (hd : a.depth ≤ 1000) : (Tm.formed l a).1.size ≤ lim := by
  have hsz := Tm.formed_size a ht l tlim (Nat.le_refl _) hl
  have hmul := Nat.mul_le_mul_left (tlim + 1) hd
  simp only [tlim] at hsz hmul
  simp only [lim]; omega
theorem thin1_eq (u : Ty) : decide ((u.size : Int) ≤ 100) = thin1 u := by
  unfold thin1
  by_cases h : u.size ≤ 100
  · rw [decide_eq_true h, decide_eq_true (by omega)]
  · rw [decide_eq_false h, decide_eq_false (by omega)]
theorem ref_thin_eq : ∀ a : Tm, a.tys → ∀ l : List Ty, (∀ x ∈ l, x.size ≤ tlim) → l.length + a.depth ≤ 1000 → (Tm.formed l a).2 = true →
    ∃ u, sequentref08_thin a l = some (u, Tm.thin l a) ∧ (Tm.thin l a = true → u = (Tm.formed l a).1) := by
  refine Tm.ind fun k n t i xs ih => ?_
  intro htt l hl hd hf
  have hsz := formed_lim htt hl (by omega)
  have htt' := htt
  obtain ⟨hts, htys⟩ := htt'
  rw [sequentref08_thin_eq]
  simp only [Tm.thin]
  rcases formed_cases hf with ⟨hk, he⟩ | ⟨hk, h0, h1, he⟩ | ⟨hk, f, x, A, rfl, hf1, hx1, he⟩ | ⟨hk, b, rfl, hb1, he⟩
  · rw [if_neg (by omega), if_neg (by omega), if_neg (by omega), if_neg (by omega), if_neg (by omega)]
    rw [he] at hsz ⊢
    rw [ref_Size_eq t hsz, bs, thin1_eq]
    exact ⟨t, rfl, fun _ => rfl⟩
  · rw [if_pos hk, if_neg (by omega), if_neg (by omega), getD_geti (z := zTy) h0 h1, bs, ← he, ref_Size_eq _ hsz, bs, thin1_eq]
    exact ⟨_, rfl, fun _ => rfl⟩
  · rw [if_neg (by omega), if_pos hk, if_pos hk]
    have df : f.depth ≤ (Tm.mk k n t i [f, x]).depth := by simp only [Tm.depth, Tm.depths]; omega
    have dx : x.depth ≤ (Tm.mk k n t i [f, x]).depth := by simp only [Tm.depth, Tm.depths]; omega
    obtain ⟨u, hu, hu'⟩ := ih f (by simp) htys.1 l hl (by omega) hf1
    obtain ⟨w, hw, hw'⟩ := ih x (by simp) htys.2.1 l hl (by omega) hx1
    generalize hR : (Tm.formed l (Tm.mk k n t i [f, x])).1 = R at hsz he ⊢
    rw [show geti (Tm.mk k n t i [f, x]).sub 0 = some f from rfl, bs, hu, bs, show geti (Tm.mk k n t i [f, x]).sub 1 = some x from rfl, bs, hw, bs]
    simp only [Tm.thins, Bool.and_true]
    rcases fot (Tm.thin l f) with h2 | h2
    · rw [h2]; exact ⟨u, rfl, fun h => by cases h⟩
    rcases fot (Tm.thin l x) with h3 | h3
    · rw [h2, h3]; exact ⟨u, rfl, fun h => by cases h⟩
    rw [h2, h3]
    obtain rfl := hu' h2
    rw [if_pos rfl, if_pos rfl, he, show geti (Ty.mk false bFun [A, R]).args 1 = some R from rfl, bs, ref_Size_eq _ hsz, bs, thin1_eq]
    exact ⟨_, rfl, fun _ => rfl⟩
  · rw [if_neg (by omega), if_neg (by omega), if_pos hk, if_neg (by omega), if_pos hk]
    have db : (Tm.mk k n t i [b]).depth = 1 + b.depth := by simp only [Tm.depth, Tm.depths]; omega
    have hl' : ∀ x ∈ t :: l, x.size ≤ tlim := fun x hx => by
      rcases List.mem_cons.1 hx with rfl | hx
      · exact hts
      · exact hl x hx
    obtain ⟨u, hu, hu'⟩ := ih b (by simp) htys.1 (t :: l) hl' (by simp only [List.length_cons]; omega) hb1
    have hbs := formed_lim htys.1 hl' (by omega)
    rw [show geti (Tm.mk k n t i [b]).sub 0 = some b from rfl, bs, app, if_pos (by simp only [List.length_cons, List.length_nil]; omega), bs]
    rw [show ([(Tm.mk k n t i [b]).ty] ++ l) = t :: l from rfl, hu, bs, sequentref08_thin_j0]
    simp only [Tm.thins, Bool.and_true]
    rcases fot (Tm.thin (t :: l) b) with h2 | h2
    · rw [h2]; exact ⟨u, rfl, fun h => by cases h⟩
    rw [h2]
    obtain rfl := hu' h2
    rw [he] at hsz ⊢
    have htl : t.size ≤ lim := by simp only [tlim, lim] at hts ⊢; omega
    rw [if_pos rfl, ref_Fun_eq _ _ htl hbs, bs, ref_Size_eq _ hsz, bs, thin1_eq]
    exact ⟨_, rfl, fun _ => rfl⟩
theorem types_DestFun_eq {A R : Ty} (hA : A.size ≤ lim) (hR : R.size ≤ lim) : types_DestFun (Ty.mk false bFun [A, R]) = some (A, R, true) := by
  rw [types_DestFun, if_neg Bool.false_ne_true, if_neg (fun h => h rfl), if_neg (by simp [Ty.Ds_len]), show geti (Ty.mk false bFun [A, R]).args 0 = some A from rfl, bs, show geti (Ty.mk false bFun [A, R]).args 1 = some R from rfl, bs, types_Twin_eq2 A hA, bs, types_Twin_eq2 R hR, bs]
theorem prog_thin_eq : ∀ a : Tm, a.tys → ∀ l : List Ty, (∀ x ∈ l, x.size ≤ tlim) → l.length + a.depth ≤ 1000 → (Tm.formed l a).2 = true →
    ∃ u, equality_thin a l.reverse = some (u, Tm.thin l a) ∧ (Tm.thin l a = true → u = (Tm.formed l a).1) := by
  refine Tm.ind fun k n t i xs ih => ?_
  intro htt l hl hd hf
  have hsz := formed_lim htt hl (by omega)
  have htt' := htt
  obtain ⟨hts, htys⟩ := htt'
  rw [equality_thin_eq]
  simp only [Tm.thin]
  rcases formed_cases hf with ⟨hk, he⟩ | ⟨hk, h0, h1, he⟩ | ⟨hk, f, x, A, rfl, hf1, hx1, he⟩ | ⟨hk, b, rfl, hb1, he⟩
  · rw [if_neg (by omega), if_neg (by omega), if_neg (by omega), if_neg (by omega), if_neg (by omega)]
    rw [he] at hsz ⊢
    rw [types_Size_eq2 t hsz, bs, thin1_eq]
    exact ⟨t, rfl, fun _ => rfl⟩
  · rw [if_pos hk, if_neg (by omega), if_neg (by omega), Ty.Ds_len, List.length_reverse, wr (by omega) (by omega), bs, wr (by omega) (by omega), bs, geti_rev (z := zTy) h0 h1, bs, ← he, types_Size_eq2 _ hsz, bs, thin1_eq]
    exact ⟨_, rfl, fun _ => rfl⟩
  · rw [if_neg (by omega), if_pos hk, if_pos hk]
    have df : f.depth ≤ (Tm.mk k n t i [f, x]).depth := by simp only [Tm.depth, Tm.depths]; omega
    have dx : x.depth ≤ (Tm.mk k n t i [f, x]).depth := by simp only [Tm.depth, Tm.depths]; omega
    obtain ⟨u, hu, hu'⟩ := ih f (by simp) htys.1 l hl (by omega) hf1
    obtain ⟨w, hw, hw'⟩ := ih x (by simp) htys.2.1 l hl (by omega) hx1
    have hfs := formed_lim htys.1 hl (by omega)
    generalize hR : (Tm.formed l (Tm.mk k n t i [f, x])).1 = R at hsz he ⊢
    rw [show geti (Tm.mk k n t i [f, x]).sub 0 = some f from rfl, bs, hu, bs]
    simp only [Tm.thins, Bool.and_true]
    rcases fot (Tm.thin l f) with h2 | h2
    · rw [h2]; exact ⟨t, rfl, fun h => by cases h⟩
    rw [h2, if_pos rfl, show geti (Tm.mk k n t i [f, x]).sub 1 = some x from rfl, bs, hw, bs]
    rcases fot (Tm.thin l x) with h3 | h3
    · rw [h3]; exact ⟨t, rfl, fun h => by cases h⟩
    rw [h3, if_pos rfl]
    obtain rfl := hu' h2
    have hA : A.size ≤ lim := by
      rw [he] at hfs; simp only [Ty.size, Ty.sizes, lim] at hfs ⊢; omega
    simp only [he]
    rw [types_DestFun_eq hA hsz, bs]
    simp only []
    rw [types_Size_eq2 _ hsz, bs, thin1_eq]
    exact ⟨_, rfl, fun _ => rfl⟩
  · rw [if_neg (by omega), if_neg (by omega), if_pos hk, if_neg (by omega), if_pos hk]
    have db : (Tm.mk k n t i [b]).depth = 1 + b.depth := by simp only [Tm.depth, Tm.depths]; omega
    have hl' : ∀ x ∈ t :: l, x.size ≤ tlim := fun x hx => by
      rcases List.mem_cons.1 hx with rfl | hx
      · exact hts
      · exact hl x hx
    obtain ⟨u, hu, hu'⟩ := ih b (by simp) htys.1 (t :: l) hl' (by simp only [List.length_cons]; omega) hb1
    have hbs := formed_lim htys.1 hl' (by omega)
    have hcut : cut l.reverse 0 ((Ty.Ds l.reverse).length : Int) = some l.reverse := by
      unfold cut
      rw [if_pos (by rw [Ty.Ds_len]; omega), Ty.Ds_len]
      simp only [Int.toNat_natCast, List.take_length, Int.toNat_zero, List.drop_zero]
    rw [show geti (Tm.mk k n t i [b]).sub 0 = some b from rfl, bs, hcut, bs, app, if_pos (by simp only [List.length_cons, List.length_nil, List.length_reverse]; omega), bs]
    rw [show (l.reverse ++ [(Tm.mk k n t i [b]).ty]) = (t :: l).reverse by simp, hu, bs, equality_thin_j0]
    simp only [Tm.thins, Bool.and_true]
    rcases fot (Tm.thin (t :: l) b) with h2 | h2
    · rw [h2]; exact ⟨t, rfl, fun h => by cases h⟩
    rw [h2]
    obtain rfl := hu' h2
    rw [he] at hsz ⊢
    have htl : t.size ≤ lim := by simp only [tlim, lim] at hts ⊢; omega
    rw [if_pos rfl, types_Fun_eq _ _ htl hbs, bs, types_Size_eq2 _ hsz, bs, thin1_eq]
    exact ⟨_, rfl, fun _ => rfl⟩
/-- the term fits -/
def Tm.fits (a : Tm) : Bool := decide (a.size ≤ 2000) && (decide (a.depth ≤ 100) && Tm.thin [] a)
def Tm.checkT (a : Tm) : Int := if a.check = 0 then (if a.fits then 0 else 21) else a.check
theorem ref_Fits_eq {a : Tm} (h : a.fine) (hc : a.check = 0) : sequentref08_Fits a = some a.fits := by
  rw [sequentref08_Fits, ref2_Size_eq a h.lim, bs, Tm.fits]
  by_cases h1 : a.size ≤ 2000
  · rw [if_neg (by omega), ref2_Depth_eq a h.lim, bs]
    by_cases h2 : a.depth ≤ 100
    · obtain ⟨u, hu, _⟩ := ref_thin_eq a h.2.1 [] (fun x hx => by cases hx) (by simp only [List.length_nil]; omega) (Tm.check_zero.1 hc).2
      rw [if_neg (by omega), hu, bs, decide_eq_true h1, decide_eq_true h2]; rfl
    · rw [if_pos (by omega), decide_eq_false h2]; simp
  · rw [if_pos (by omega), decide_eq_false h1]; rfl
theorem prog_fits_eq {a : Tm} (h : a.fine) (hc : a.check = 0) : equality_fits a = some a.fits := by
  rw [equality_fits, terms_Size_eq2 a h.lim, bs, Tm.fits]
  by_cases h1 : a.size ≤ 2000
  · rw [if_neg (by omega), equality_depth_eq2 a h.lim, bs]
    by_cases h2 : a.depth ≤ 100
    · obtain ⟨u, hu, _⟩ := prog_thin_eq a h.2.1 [] (fun x hx => by cases hx) (by simp only [List.length_nil]; omega) (Tm.check_zero.1 hc).2
      rw [List.reverse_nil] at hu
      rw [if_neg (by omega), hu, bs, decide_eq_true h1, decide_eq_true h2]; rfl
    · rw [if_pos (by omega), decide_eq_false h2]; simp
  · rw [if_pos (by omega), decide_eq_false h1]; rfl
theorem prog_CheckTerm_eq {a : Tm} (h : a.fine) : equality_CheckTerm a = some a.checkT := by
  rw [equality_CheckTerm, terms_Check_eq a h.1 h.lim h.2.1, bs, Tm.checkT]
  by_cases hc : a.check = 0
  · rw [if_neg (fun h => h hc), if_pos hc, prog_fits_eq h hc, bs]; split <;> rfl
  · rw [if_pos hc, if_neg hc]
end Go.Proofs.Ytdjmibbgoajcaaa.Fw

