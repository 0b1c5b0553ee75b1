/- Terms: what the printed functions answer (types of terms, checks). -/
import Derived.Test.YtemfpemejagndaaMA
set_option autoImplicit false
set_option linter.unusedVariables false
set_option linter.unusedSimpArgs false
namespace Go.Proofs.Ytemfpemejagndaa.Fw
open Go Go.Proofs

theorem ref2_none_eq (a : Ty) : z02_none a = some a.none := by
 obtain ⟨v, n, xs⟩ := a
 rw [z02_none]
 simp only [Ty.Ds_len, Ty.none]
 have : ((xs.length : Int) = 0) ↔ xs.length = 0 := by omega
 cases v <;> by_cases hn : n = ByteArray.empty <;> simp [hn, this]
theorem named_eq (s : ByteArray) (hs : s.size ≤ big) : terms_named s = some (cname s) := by
 rw [terms_named, types_Check_eq (Ty.mk false s []) ⟨hs, by decide, trivial⟩ (by simp [Ty.size, Ty.sizes, lim]), bs, check_leaf]
 cases hc : cname s <;> simp
theorem plain_ttf_eq (a : Tm) : terms_plain a true true false = some (decide (a.index = 0)) := by simp [terms_plain]
theorem none_iff (a : Ty) : a.none = true ↔ a.v = false ∧ a.name = ByteArray.empty ∧ a.args = [] := by
 obtain ⟨v, n, xs⟩ := a
 simp [Ty.none]
theorem plain_fft_eq (a : Tm) : terms_plain a false false true = some (decide (a.name = ByteArray.empty) && a.ty.none) := by
 rw [terms_plain]
 have h := none_iff a.ty
 cases hv : a.ty.v <;> by_cases h1 : a.name = ByteArray.empty <;> by_cases h2 : a.ty.name = ByteArray.empty <;> by_cases h3 : a.ty.args = [] <;> simp [hv, h1, h2, h3, Ty.Ds_len] at h ⊢ <;> simp [h]
theorem plain_fff_eq (a : Tm) : terms_plain a false false false = some (decide (a.name = ByteArray.empty) && (a.ty.none && decide (a.index = 0))) := by
 rw [terms_plain]
 have h := none_iff a.ty
 cases hv : a.ty.v <;> by_cases h1 : a.name = ByteArray.empty <;> by_cases h2 : a.ty.name = ByteArray.empty <;> by_cases h3 : a.ty.args = [] <;> simp [hv, h1, h2, h3, Ty.Ds_len] at h ⊢ <;> simp [h]
theorem geti_two {α : Type} (a b : α) : geti [a, b] 0 = some a ∧ geti [a, b] 1 = some b := ⟨rfl, rfl⟩
theorem appT_some {f x : Ty} : appT f x = (if f.v = false ∧ f.name = bFun ∧ f.args.length = 2 then match f.args with | [a, b] => if Ty.beq a x = true then some b else none | _ => none else none) := by
 obtain ⟨v, n, xs⟩ := f
 cases v
 ·match xs with
  | [] => simp [appT]
  | [a] => simp [appT]
  | [a, b] => by_cases hn : n = bFun <;> simp [appT, hn]
  | a :: b :: c :: r => simp [appT]
 ·simp [appT]
theorem ref_Formed_eq : ∀ (a : Tm), a.ok → a.tys → ∀ (l : List Ty), (∀ x ∈ l, x.ok ∧ x.size ≤ tlim) → l.length + a.depth ≤ 1000 → z02_Formed a l = some (Tm.formed l a) := by
 refine Tm.ind fun k n t i xs ih => ?_
 rintro ⟨hk, hn, ht, hi, hxl, hoks⟩ ⟨hts, htys⟩ l hl hd
 have hlim : t.size ≤ lim := by simp only [tlim, lim] at hts ⊢; omega
 have hok : ∀ x ∈ l, x.ok := fun x hx => (hl x hx).1
 have hxs : ((xs.length : Int) = 0) ↔ xs.length = 0 := by omega
 rw [z02_Formed_eq]
 simp only [Tm.formed, ref2_name_eq n hn, ref_Valid_eq t ht hlim, ref2_none_eq, bs, Tm.Ds_len, Ty.Ds_len]
 by_cases h1 : k = 1
 ·subst h1
  cases hc : cname n <;> cases hv : t.valid <;> by_cases h0 : i = 0 <;> simp [h0]
 by_cases h2 : k = 2
 ·subst h2
  cases hc : cname n <;> cases hv : t.valid <;> by_cases h0 : i = 0 <;> simp [h0]
 have h12 : ¬ (k = 1 ∨ k = 2) := by omega
 rw [if_neg h1, if_neg h2, if_neg h12]
 by_cases h3 : k = 3
 ·subst h3
  simp only [if_true]
  by_cases e1 : n = ByteArray.empty
  ·cases e2 : t.none
   ·simp [e1]; rfl
   ·by_cases e3 : xs.length = 0
    ·by_cases e4 : i < 0
     ·have : ¬ 0 ≤ i := by omega
      simp [e1, e3, e4, this]; rfl
     ·by_cases e5 : (l.length : Int) ≤ i
      ·have : ¬ i < l.length := by omega
       simp [e1, e3, e4, e5, this]; rfl
      ·have h6 : 0 ≤ i := by omega
       have h7 : i < l.length := by omega
       rw [if_neg (by simpa using e1)]
       simp only [if_true]
       rw [if_neg (by omega), if_neg e4, if_neg e5, geti_lt h6 h7, bs, if_pos ⟨e1, trivial, e3, h6, h7⟩, List.getD_eq_getElem?_getD, List.getElem?_eq_getElem (by omega)]
       rfl
    ·have h9 : ¬ (xs.length : Int) = 0 := by omega
     simp only [e1, not_true_eq_false, if_false, if_true, h9, not_false_eq_true, e3, false_and, and_false]; rfl
  ·simp [e1]; rfl
 rw [if_neg h3, if_neg h3]
 by_cases h4 : k = 4
 ·subst h4
  simp only [if_true]
  by_cases hq : n = ByteArray.empty ∧ t.none = true ∧ i = 0 ∧ xs.length = 2
  ·obtain ⟨e1, e2, e3, e4⟩ := hq
   match xs, e4 with
   | [f, x], _ =>
    simp only [Tm.depth, Tm.depths] at hd
    have hf := ih f (by simp) hoks.1 htys.1 l hl (by omega)
    have hx := ih x (by simp) hoks.2.1 htys.2.1 l hl (by omega)
    simp only [e1, e2, e3, not_true_eq_false, if_false, if_true, List.length_cons, List.length_nil, true_and, Tm.formeds, Nat.zero_add]
    rw [if_neg (by decide)]
    simp only [(geti_two f x).1, (geti_two f x).2, bs, hf, hx, appT_some, ref_Same_eq, Ty.Ds_len]
    generalize Tm.formed l f = F
    generalize Tm.formed l x = X
    obtain ⟨⟨fv, fn, fa⟩, fb⟩ := F
    obtain ⟨X1, xb⟩ := X
    simp only []
    cases fb
    ·simp; rfl
    cases xb
    ·simp; rfl
    cases fv
    ·by_cases hfn : fn = bFun
     ·have hfn' : fn = (⟨#[102, 117, 110]⟩ : ByteArray) := hfn
      match fa with
      | [] => simp [hfn]; rfl
      | [a] => simp [hfn]; rfl
      | a :: b :: c :: r =>
       have : ¬ ((a :: b :: c :: r).length : Int) = 2 := by simp only [List.length_cons]; omega
       have h' : ¬ (a :: b :: c :: r).length = 2 := by simp only [List.length_cons]; omega
       simp only [this, h', not_false_eq_true, if_true, and_false, if_false, ← hfn', hfn, not_true_eq_false, Bool.false_eq_true]; rfl
      | [a, b] =>
       simp only [← hfn', (geti_two a b).1, (geti_two a b).2, bs, hfn, ref_Same_eq]
       cases hb : Ty.beq a X1 <;> simp <;> rfl
     ·have hfn' : ¬ fn = (⟨#[102, 117, 110]⟩ : ByteArray) := hfn
      simp [hfn, hfn']; rfl
    ·simp; rfl
  ·rw [if_neg hq]
   by_cases e1 : n = ByteArray.empty
   ·cases e2 : t.none
    ·simp [e1]; rfl
    ·by_cases e3 : i = 0
     ·have e4 : ¬ xs.length = 2 := fun h => hq ⟨e1, e2, e3, h⟩
      have e4' : ¬ (xs.length : Int) = 2 := by omega
      simp [e1, e3, e4']; rfl
     ·simp [e1, e3]; rfl
   ·simp [e1]; rfl
 rw [if_neg h4, if_neg h4]
 by_cases h5 : k = 5
 ·subst h5
  simp only [if_true]
  by_cases hq : cname n = true ∧ t.valid = true ∧ i = 0 ∧ xs.length = 1
  ·obtain ⟨e1, e2, e3, e4⟩ := hq
   match xs, e4 with
   | [b], _ =>
    simp only [Tm.depth, Tm.depths] at hd
    have hl' : ∀ x ∈ t :: l, x.ok ∧ x.size ≤ tlim := fun x hx => by
     rcases List.mem_cons.1 hx with rfl | hx
     ·exact ⟨ht, hts⟩
     ·exact hl x hx
    have hb := ih b (by simp) hoks.1 htys.1 (t :: l) hl' (by simp only [List.length_cons]; omega)
    have hsz := Tm.formed_size b htys.1 (t :: l) tlim (Nat.le_refl _) (fun x hx => (hl' x hx).2)
    have hfo := Tm.formed_ok b hoks.1 (t :: l) fun x hx => (hl' x hx).1
    have hmul := Nat.mul_le_mul_left (tlim + 1) (show b.depth ≤ 1000 by omega)
    simp only [tlim] at hsz hmul hts
    simp only [e1, e2, e3, if_true, List.length_cons, List.length_nil, true_and, Tm.formeds, Nat.zero_add, not_true_eq_false, if_false]
    rw [if_neg (by decide)]
    rw [show geti [b] 0 = some b from rfl, bs, app_eq (by simp; omega), bs, show [t] ++ l = t :: l from rfl, hb, bs, z02_Formed_j0]
    simp only []
    rw [ref_Fun_eq t _ hlim (by simp only [lim]; omega), bs]
    generalize hF : Tm.formed (t :: l) b = F at hsz hfo
    obtain ⟨u, ub⟩ := F
    simp only [] at hsz hfo ⊢
    cases ub
    ·simp
    ·simp only [if_true, Bool.true_and]
     rw [ref_Valid_eq _ (Ty.fn_ok ht hfo) (by simp only [Ty.fn, Ty.size, Ty.sizes, lim]; omega), bs]
  ·rw [if_neg hq]
   cases e1 : cname n
   ·simp; rfl
   ·cases e2 : t.valid
    ·simp; rfl
    ·by_cases e3 : i = 0
     ·have e4 : ¬ xs.length = 1 := fun h => hq ⟨e1, e2, e3, h⟩
      have e4' : ¬ (xs.length : Int) = 1 := by omega
      simp [e3, e4']; rfl
     ·simp [e3]; rfl
 ·rw [if_neg h5, if_neg h5]; rfl
theorem prog_formed_eq : ∀ (a : Tm), a.ok → a.tys → ∀ (l : List Ty), (∀ x ∈ l, x.ok ∧ x.size ≤ tlim) → l.length + a.depth ≤ 1000 → terms_formed a l = some (Tm.pform l a) := by
 refine Tm.ind fun k n t i xs ih => ?_
 rintro ⟨hk, hn, ht, hi, hxl, hoks⟩ ⟨hts, htys⟩ l hl hd
 have hlim : t.size ≤ lim := by simp only [tlim, lim] at hts ⊢; omega
 rw [terms_formed_eq]
 simp only [Tm.pform, plain_ttf_eq, plain_fft_eq, plain_fff_eq, named_eq n hn, types_Check_eq t ht hlim, bs, Tm.Ds_len, Ty.Ds_len]
 have hv : decide (tcheck t = 0) = t.valid := by unfold tcheck; cases t.valid <;> simp
 have hleaf : (if decide (i = 0) = true then if cname n = true then if (xs.length : Int) = 0 then some (t, decide (tcheck t = 0)) else some (t, false) else some (t, false) else some (t, false)) = some (t, decide (i = 0) && (cname n && (decide (xs.length = 0) && t.valid))) := by
  rw [hv]
  by_cases h0 : i = 0 <;> cases hc : cname n <;> by_cases hx : xs.length = 0 <;> simp [h0, hx]
 by_cases h1 : k = 1
 ·subst h1; rw [if_pos rfl, hleaf, if_pos (.inl rfl)]
 by_cases h2 : k = 2
 ·subst h2; rw [if_neg (by decide), if_pos rfl, hleaf, if_pos (.inr rfl)]
 have h12 : ¬ (k = 1 ∨ k = 2) := by omega
 rw [if_neg h1, if_neg h2, if_neg h12]
 have hz : (Ty.mk false ByteArray.empty []) = zTy := rfl
 simp only [hz]
 by_cases h3 : k = 3
 ·subst h3
  simp only [if_true]
  by_cases e1 : n = ByteArray.empty
  ·cases e2 : t.none
   ·simp [e1]
   ·by_cases e3 : xs.length = 0
    ·by_cases e4 : i < 0
     ·have : ¬ 0 ≤ i := by omega
      simp [e1, e3, e4, this]
     ·by_cases e5 : (l.length : Int) ≤ i
      ·have : ¬ i < l.length := by omega
       simp [e1, e3, e4, e5, this]
      ·have h6 : 0 ≤ i := by omega
       have h7 : i < l.length := by omega
       simp only [e1, decide_true, Bool.true_and, if_true]
       rw [if_neg (by omega), if_neg e4, if_neg e5, wr (x := (l.length : Int) - 1) (by omega) (by omega), wr (by omega) (by omega), geti_lt (by omega) (by omega), bs, if_pos ⟨trivial, trivial, e3, h6, h7⟩, List.getD_eq_getElem?_getD]
       have hi2 : ((l.length : Int) - 1 - i).toNat = l.length - 1 - i.toNat := by omega
       rw [List.getElem?_eq_getElem (by omega)]
       simp only [hi2]
       rfl
    ·have h9 : 0 < (xs.length : Int) := by omega
     simp only [e1, decide_true, Bool.true_and, if_true, h9, e3, false_and, and_false, if_false]
  ·simp [e1]
 rw [if_neg h3, if_neg h3]
 by_cases h4 : k = 4
 ·subst h4
  simp only [if_true]
  by_cases hq : n = ByteArray.empty ∧ t.none = true ∧ i = 0 ∧ xs.length = 2
  ·obtain ⟨e1, e2, e3, e4⟩ := hq
   match xs, e4 with
   | [f, x], _ =>
    simp only [Tm.depth, Tm.depths] at hd
    have hf := ih f (by simp) hoks.1 htys.1 l hl (by omega)
    have hx := ih x (by simp) hoks.2.1 htys.2.1 l hl (by omega)
    simp only [e1, e2, e3, decide_true, Bool.and_self, not_true_eq_false, if_false, if_true, List.length_cons, List.length_nil, true_and, Tm.pforms, Nat.zero_add]
    rw [if_neg (by decide)]
    simp only [(geti_two f x).1, (geti_two f x).2, bs, hf, hx, appT_some, types_Same_eq, Ty.Ds_len]
    generalize Tm.pform l f = F
    generalize Tm.pform l x = X
    obtain ⟨⟨fv, fn, fa⟩, fb⟩ := F
    obtain ⟨X1, xb⟩ := X
    simp only []
    cases fb
    ·simp
    cases xb
    ·simp
    cases fv
    ·by_cases hfn : fn = bFun
     ·have hfn' : fn = (⟨#[102, 117, 110]⟩ : ByteArray) := hfn
      match fa with
      | [] => simp [hfn]
      | [a] => simp [hfn]
      | a :: b :: c :: r =>
       have : ¬ ((a :: b :: c :: r).length : Int) = 2 := by simp only [List.length_cons]; omega
       have h' : ¬ (a :: b :: c :: r).length = 2 := by simp only [List.length_cons]; omega
       simp only [this, h', not_false_eq_true, if_true, and_false, if_false, ← hfn', hfn, not_true_eq_false, Bool.false_eq_true, true_and]
      | [a, b] =>
       simp only [← hfn', (geti_two a b).1, (geti_two a b).2, bs, hfn, types_Same_eq]
       cases hb : Ty.beq a X1 <;> simp
     ·have hfn' : ¬ fn = (⟨#[102, 117, 110]⟩ : ByteArray) := hfn
      simp [hfn, hfn']
    ·simp
  ·rw [if_neg hq]
   by_cases e1 : n = ByteArray.empty
   ·cases e2 : t.none
    ·simp [e1]
    ·by_cases e3 : i = 0
     ·have e4 : ¬ xs.length = 2 := fun h => hq ⟨e1, e2, e3, h⟩
      have e4' : ¬ (xs.length : Int) = 2 := by omega
      simp [e1, e3, e4']
     ·simp [e1, e3]
   ·simp [e1]
 rw [if_neg h4, if_neg h4]
 by_cases h5 : k = 5
 ·subst h5
  simp only [if_true]
  by_cases hq : cname n = true ∧ t.valid = true ∧ i = 0 ∧ xs.length = 1
  ·obtain ⟨e1, e2, e3, e4⟩ := hq
   match xs, e4 with
   | [b], _ =>
    simp only [Tm.depth, Tm.depths] at hd
    have hl' : ∀ x ∈ l ++ [t], x.ok ∧ x.size ≤ tlim := fun x hx => by
     rcases List.mem_append.1 hx with hx | hx
     ·exact hl x hx
     ·rw [List.mem_singleton.1 hx]; exact ⟨ht, hts⟩
    have hb := ih b (by simp) hoks.1 htys.1 (l ++ [t]) hl' (by simp only [List.length_append, List.length_cons, List.length_nil]; omega)
    have hpf := Tm.pform_formed b (l ++ [t])
    have hsz := Tm.formed_size b htys.1 (l ++ [t]).reverse tlim (Nat.le_refl _) (fun x hx => (hl' x (List.mem_reverse.1 hx)).2)
    have hfo := Tm.formed_ok b hoks.1 (l ++ [t]).reverse fun x hx => (hl' x (List.mem_reverse.1 hx)).1
    have hmul := Nat.mul_le_mul_left (tlim + 1) (show b.depth ≤ 1000 by omega)
    simp only [tlim] at hsz hmul hts
    have htc : tcheck t = 0 := by unfold tcheck; rw [e2]; rfl
    simp only [e1, e2, e3, htc, decide_true, if_true, List.length_cons, List.length_nil, true_and, Tm.pforms, Nat.zero_add, not_true_eq_false, if_false]
    rw [if_neg (by decide), show geti [b] 0 = some b from rfl]
    simp only [bs]
    rw [cut, if_pos (by omega)]
    simp only [bs, Int.toNat_zero, Int.toNat_natCast, List.take_length, List.drop_zero]
    rw [app_eq (by simp; omega), bs, hb, bs, terms_formed_j0]
    generalize Tm.pform (l ++ [t]) b = F at hpf
    obtain ⟨u, ub⟩ := F
    simp only [] at hpf ⊢
    cases ub
    ·simp; rfl
    ·have hu := hpf.2 rfl
     rw [← hu] at hsz hfo
     simp only [if_true]
     rw [show (⟨false, ⟨#[102, 117, 110]⟩, [t, u]⟩ : Ty) = Ty.fn t u from rfl, types_Check_eq _ (Ty.fn_ok ht hfo) (by simp only [Ty.fn, Ty.size, Ty.sizes, lim]; omega), bs]
     congr 2
     unfold tcheck; cases (Ty.fn t u).valid <;> simp
  ·rw [if_neg hq]
   cases e1 : cname n
   ·simp
   ·by_cases e2 : t.valid = true
    ·have htc : tcheck t = 0 := by unfold tcheck; rw [e2]; rfl
     by_cases e3 : i = 0
     ·have e4 : ¬ xs.length = 1 := fun h => hq ⟨e1, e2, e3, h⟩
      have e4' : ¬ (xs.length : Int) = 1 := by omega
      simp [e3, e4', htc]
     ·simp [e3, htc]
    ·have htc : tcheck t = 10 := by unfold tcheck; rw [if_neg e2]
     by_cases e3 : i = 0
     ·by_cases e4 : (xs.length : Int) = 1 <;> simp [e3, htc, e4]
     ·simp [e3]
 ·rw [if_neg h5, if_neg h5]
/-! ### checks -/
theorem Tm.small_depth {a : Tm} (h : a.small = true) : a.size ≤ 32000 ∧ a.depth ≤ 300 := by simpa [Tm.small] using h
def Tm.type (a : Tm) : Ty := (Tm.formed [] a).1
theorem ref2_Check_eq (a : Tm) (h : a.ok) (hs : a.size ≤ lim) (ht : a.tys) : z02_Check a = some a.check := by
 rw [z02_Check, ref2_Small_eq a hs, bs, Tm.check]
 rcases fot a.small with hsm | hsm
 ·simp [hsm]
 ·have hd := (Tm.small_depth hsm).2
  have hf := ref_Formed_eq a h ht [] (fun x hx => by cases hx) (by simp only [List.length_nil]; omega)
  simp only [hsm, hf, bs]
  cases (Tm.formed [] a).2 <;> simp
theorem Tm.check_zero {a : Tm} : a.check = 0 ↔ a.small = true ∧ (Tm.formed [] a).2 = true := by
 unfold Tm.check
 cases a.small <;> cases (Tm.formed [] a).2 <;> simp
theorem terms_typed_eq (a : Tm) (h : a.ok) (hs : a.size ≤ lim) (ht : a.tys) : terms_typed a = some (if a.check = 0 then a.type else zTy, a.check) := by
 rw [terms_typed, terms_great_eq a hs, bs, Tm.check]
 rcases fot a.small with hsm | hsm
 ·simp [hsm]; rfl
 ·have hd := (Tm.small_depth hsm).2
  have hf := prog_formed_eq a h ht [] (fun x hx => by cases hx) (by simp only [List.length_nil]; omega)
  have hp := Tm.pform_nil a
  simp only [hsm, hf, bs]
  generalize Tm.pform [] a = F at hp
  obtain ⟨u, ub⟩ := F
  simp only [] at hp ⊢
  rw [← hp.1]
  cases ub
  ·simp; rfl
  ·simp [hp.2 rfl]; rfl
theorem terms_Check_eq (a : Tm) (h : a.ok) (hs : a.size ≤ lim) (ht : a.tys) : terms_Check a = some a.check := by rw [terms_Check, terms_typed_eq a h hs ht, bs]
end Go.Proofs.Ytemfpemejagndaa.Fw


namespace Go.Proofs.Ytemfpemejagndaa.Fw
open Go Go.Proofs

def Tm.fine (a : Tm) : Prop := a.ok ∧ a.tys ∧ a.size ≤ 100000
theorem Tm.fine.lim {a : Tm} (h : a.fine) : a.size ≤ Fw.lim := by have := h.2.2; simp only [Fw.lim]; omega
end Go.Proofs.Ytemfpemejagndaa.Fw

