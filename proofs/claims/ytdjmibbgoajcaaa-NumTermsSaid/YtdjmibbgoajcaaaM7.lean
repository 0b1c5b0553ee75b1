/- Terms that fit: sizes, depths, and the types of subterms. -/
import Derived.Test.YtdjmibbgoajcaaaM6
set_option autoImplicit false
set_option linter.unusedVariables false
set_option linter.unusedSimpArgs false
namespace Go.Proofs.Ytdjmibbgoajcaaa.Fw
open Go Go.Proofs

theorem types_Size_l (xs : List Ty) (ih : ∀ x ∈ xs, types_Size x = some (x.size : Int)) : ∀ m : Nat, m + Ty.sizes xs ≤ 2 * lim → types_Size_l0 xs m = some ((m + Ty.sizes xs : Nat) : Int) := by
  simp only [lim]
  induction xs with
  | nil => intro m _; rw [types_Size_l0_eq]; simp [Ty.sizes]
  | cons x r ihr =>
    intro m hm
    simp only [Ty.sizes] at hm
    rw [types_Size_l0_eq]; simp only []
    rw [ih x (by simp), bs, wr (by omega) (by omega), bs, show (m : Int) + (x.size : Int) = ((m + x.size : Nat) : Int) by omega, ihr (fun y hy => ih y (by simp [hy])) _ (by omega)]
    simp [Ty.sizes, Nat.add_assoc]
theorem types_Size_eq2 : ∀ a : Ty, a.size ≤ lim → types_Size a = some (a.size : Int) := by
  refine Ty.ind fun v n xs ih => ?_
  intro hs
  simp only [Ty.size, lim] at hs ⊢
  rw [types_Size_eq, show (1 : Int) = ((1 : Nat) : Int) from rfl, types_Size_l xs (fun x hx => ih x hx (by have := Ty.size_mem hx; simp only [lim]; omega)) 1 (by simp only [lim]; omega)]
theorem terms_Size_l (xs : List Tm) (ih : ∀ x ∈ xs, terms_Size x = some (x.size : Int)) : ∀ m : Nat, m + Tm.sizes xs ≤ 2 * lim → terms_Size_l0 xs m = some ((m + Tm.sizes xs : Nat) : Int) := by
  simp only [lim]
  induction xs with
  | nil => intro m _; rw [terms_Size_l0_eq]; simp [Tm.sizes]
  | cons x r ihr =>
    intro m hm
    simp only [Tm.sizes] at hm
    rw [terms_Size_l0_eq]; simp only []
    rw [ih x (by simp), bs, wr (by omega) (by omega), bs, show (m : Int) + (x.size : Int) = ((m + x.size : Nat) : Int) by omega, ihr (fun y hy => ih y (by simp [hy])) _ (by omega)]
    simp [Tm.sizes, Nat.add_assoc]
theorem terms_Size_eq2 : ∀ a : Tm, a.size ≤ lim → terms_Size a = some (a.size : Int) := by
  refine Tm.ind fun k n t i xs ih => ?_
  intro hs
  simp only [Tm.size, lim] at hs ⊢
  rw [terms_Size_eq, show (1 : Int) = ((1 : Nat) : Int) from rfl, terms_Size_l xs (fun x hx => ih x hx (by have := Tm.size_mem hx; simp only [lim]; omega)) 1 (by simp only [lim]; omega)]
theorem equality_depth_l (xs : List Tm) (ih : ∀ x ∈ xs, equality_depth x = some (x.depth : Int)) : ∀ d : Nat, d ≤ lim → Tm.depths xs ≤ lim → equality_depth_l0 xs d = some ((1 + max d (Tm.depths xs) : Nat) : Int) := by
  simp only [lim]
  induction xs with
  | nil => intro d h1 h2; rw [equality_depth_l0_eq]; simp only []; rw [wr (by omega) (by omega), bs]; simp [Tm.depths]; omega
  | cons x r ihr =>
    intro d h1 h2
    simp only [Tm.depths] at h2
    rw [equality_depth_l0_eq]; simp only []
    rw [ih x (by simp), bs, show max (d : Int) (x.depth : Int) = ((max d x.depth : Nat) : Int) by omega, ihr (fun y hy => ih y (by simp [hy])) _ (by omega) (by omega)]
    simp [Tm.depths, Nat.max_assoc]
theorem equality_depth_eq2 : ∀ a : Tm, a.size ≤ lim → equality_depth a = some (a.depth : Int) := by
  refine Tm.ind fun k n t i xs ih => ?_
  intro hs
  simp only [Tm.size, lim] at hs
  have hd := Tm.depths_sizes xs
  rw [equality_depth_eq, show (0 : Int) = ((0 : Nat) : Int) from rfl, equality_depth_l xs (fun x hx => ih x hx (by have := Tm.size_mem hx; simp only [lim]; omega)) 0 (by omega) (by simp only [lim]; omega)]
  simp [Tm.depth]

/-! ### the types of subterms -/
def thin1 (u : Ty) : Bool := decide (u.size ≤ 100)
mutual
def Tm.thin : List Ty → Tm → Bool
  | l, .mk k n t i xs =>
    if k = 4 then Tm.thins l xs && thin1 (Tm.formed l (.mk k n t i xs)).1
    else if k = 5 then Tm.thins (t :: l) xs && thin1 (Tm.formed l (.mk k n t i xs)).1
    else thin1 (Tm.formed l (.mk k n t i xs)).1
def Tm.thins : List Ty → List Tm → Bool
  | _, [] => true
  | l, a :: r => Tm.thin l a && Tm.thins l r
end
theorem appT_shape {f x u : Ty} (h : appT f x = some u) : ∃ A, f = Ty.mk false bFun [A, u] := by
  unfold appT at h
  split at h
  · rename_i n a b
    split at h
    · rename_i hc
      injection h with h; subst h; exact ⟨a, by rw [hc.1]⟩
    · cases h
  · cases h
theorem formed_cases {l : List Ty} {k : Int} {n : ByteArray} {t : Ty} {i : Int} {xs : List Tm} (h : (Tm.formed l (.mk k n t i xs)).2 = true) :
    ((k = 1 ∨ k = 2) ∧ (Tm.formed l (.mk k n t i xs)).1 = t)
    ∨ (k = 3 ∧ 0 ≤ i ∧ i < l.length ∧ (Tm.formed l (.mk k n t i xs)).1 = l.getD i.toNat zTy)
    ∨ (k = 4 ∧ ∃ f x A, xs = [f, x] ∧ (Tm.formed l f).2 = true ∧ (Tm.formed l x).2 = true ∧ (Tm.formed l f).1 = Ty.mk false bFun [A, (Tm.formed l (.mk k n t i xs)).1])
    ∨ (k = 5 ∧ ∃ b, xs = [b] ∧ (Tm.formed (t :: l) b).2 = true ∧ (Tm.formed l (.mk k n t i xs)).1 = Ty.fn t (Tm.formed (t :: l) b).1) := by
  simp only [Tm.formed] at h ⊢
  split at h
  · rename_i h1
    rw [if_pos h1]; exact .inl ⟨h1, rfl⟩
  · rename_i h1
    rw [if_neg h1]
    split at h
    · rename_i h2
      rw [if_pos h2]
      split at h
      · rename_i h3
        rw [if_pos h3]; exact .inr (.inl ⟨h2, h3.2.2.2.1, h3.2.2.2.2, rfl⟩)
      · cases h
    · rename_i h2
      rw [if_neg h2]
      split at h
      · rename_i h3
        rw [if_pos h3]
        split at h
        · rename_i h4
          rw [if_pos h4]
          match xs, h4.2.2.2 with
          | [f, x], _ =>
            simp only [Tm.formeds] at h ⊢
            split at h
            · rename_i h5
              rw [if_pos h5]
              split at h
              · rename_i u hu
                obtain ⟨A, hA⟩ := appT_shape hu
                exact .inr (.inr (.inl ⟨h3, f, x, A, rfl, h5.1, h5.2, hA⟩))
              · cases h
            · cases h
        · cases h
      · rename_i h3
        rw [if_neg h3]
        split at h
        · rename_i h4
          rw [if_pos h4]
          split at h
          · rename_i h5
            rw [if_pos h5]
            match xs, h5.2.2.2 with
            | [b], _ =>
              simp only [Tm.formeds] at h ⊢
              rw [Bool.and_eq_true] at h
              exact .inr (.inr (.inr ⟨h4, b, rfl, h.1, rfl⟩))
          · cases h
        · cases h
theorem getD_geti {α : Type} {l : List α} {i : Int} {z : α} (h0 : 0 ≤ i) (h : i < l.length) : geti l i = some (l.getD i.toNat z) := by
  unfold geti
  rw [if_pos h0, List.getD_eq_getElem?_getD, List.getElem?_eq_getElem (by omega)]
  rfl
theorem geti_rev {α : Type} {l : List α} {i : Int} {z : α} (h0 : 0 ≤ i) (h : i < l.length) : geti l.reverse ((l.length : Int) - 1 - i) = some (l.getD i.toNat z) := by
  unfold geti
  have e : ((l.length : Int) - 1 - i).toNat = l.length - 1 - i.toNat := by omega
  rw [if_pos (by omega), e, List.getD_eq_getElem?_getD, List.getElem?_reverse (by omega), show l.length - 1 - (l.length - 1 - i.toNat) = i.toNat by omega, List.getElem?_eq_getElem (by omega)]
  rfl
theorem formed_lim {a : Tm} (ht : a.tys) {l : List Ty} (hl : ∀ x ∈ l, x.size ≤ tlim) (hd : a.depth ≤ 1000) : (Tm.formed l a).1.size ≤ lim := by
  have hsz := Tm.formed_size a ht l tlim (Nat.le_refl _) hl
  have hmul := Nat.mul_le_mul_left (tlim + 1) hd
  simp only [tlim] at hsz hmul
  simp only [lim]; omega
theorem thin1_eq (u : Ty) : decide ((u.size : Int) ≤ 100) = thin1 u := by
  unfold thin1
  by_cases h : u.size ≤ 100
  · rw [decide_eq_true h, decide_eq_true (by omega)]
  · rw [decide_eq_false h, decide_eq_false (by omega)]

theorem ref_thin_eq : ∀ a : Tm, a.tys → ∀ l : List Ty, (∀ x ∈ l, x.size ≤ tlim) → l.length + a.depth ≤ 1000 → (Tm.formed l a).2 = true →
    ∃ u, sequentref08_thin a l = some (u, Tm.thin l a) ∧ (Tm.thin l a = true → u = (Tm.formed l a).1) := by
  refine Tm.ind fun k n t i xs ih => ?_
  intro htt l hl hd hf
  have hsz := formed_lim htt hl (by omega)
  have htt' := htt
  obtain ⟨hts, htys⟩ := htt'
  rw [sequentref08_thin_eq]
  simp only [Tm.thin]
  rcases formed_cases hf with ⟨hk, he⟩ | ⟨hk, h0, h1, he⟩ | ⟨hk, f, x, A, rfl, hf1, hx1, he⟩ | ⟨hk, b, rfl, hb1, he⟩
  · rw [if_neg (by omega), if_neg (by omega), if_neg (by omega), if_neg (by omega), if_neg (by omega)]
    rw [he] at hsz ⊢
    rw [ref_Size_eq t hsz, bs, thin1_eq]
    exact ⟨t, rfl, fun _ => rfl⟩
  · rw [if_pos hk, if_neg (by omega), if_neg (by omega), getD_geti (z := zTy) h0 h1, bs, ← he, ref_Size_eq _ hsz, bs, thin1_eq]
    exact ⟨_, rfl, fun _ => rfl⟩
  · rw [if_neg (by omega), if_pos hk, if_pos hk]
    have df : f.depth ≤ (Tm.mk k n t i [f, x]).depth := by simp only [Tm.depth, Tm.depths]; omega
    have dx : x.depth ≤ (Tm.mk k n t i [f, x]).depth := by simp only [Tm.depth, Tm.depths]; omega
    obtain ⟨u, hu, hu'⟩ := ih f (by simp) htys.1 l hl (by omega) hf1
    obtain ⟨w, hw, hw'⟩ := ih x (by simp) htys.2.1 l hl (by omega) hx1
    generalize hR : (Tm.formed l (Tm.mk k n t i [f, x])).1 = R at hsz he ⊢
    rw [show geti (Tm.mk k n t i [f, x]).sub 0 = some f from rfl, bs, hu, bs, show geti (Tm.mk k n t i [f, x]).sub 1 = some x from rfl, bs, hw, bs]
    simp only [Tm.thins, Bool.and_true]
    rcases fot (Tm.thin l f) with h2 | h2
    · rw [h2]; exact ⟨u, rfl, fun h => by cases h⟩
    rcases fot (Tm.thin l x) with h3 | h3
    · rw [h2, h3]; exact ⟨u, rfl, fun h => by cases h⟩
    rw [h2, h3]
    obtain rfl := hu' h2
    rw [if_pos rfl, if_pos rfl, he, show geti (Ty.mk false bFun [A, R]).args 1 = some R from rfl, bs, ref_Size_eq _ hsz, bs, thin1_eq]
    exact ⟨_, rfl, fun _ => rfl⟩
  · rw [if_neg (by omega), if_neg (by omega), if_pos hk, if_neg (by omega), if_pos hk]
    have db : (Tm.mk k n t i [b]).depth = 1 + b.depth := by simp only [Tm.depth, Tm.depths]; omega
    have hl' : ∀ x ∈ t :: l, x.size ≤ tlim := fun x hx => by
      rcases List.mem_cons.1 hx with rfl | hx
      · exact hts
      · exact hl x hx
    obtain ⟨u, hu, hu'⟩ := ih b (by simp) htys.1 (t :: l) hl' (by simp only [List.length_cons]; omega) hb1
    have hbs := formed_lim htys.1 hl' (by omega)
    rw [show geti (Tm.mk k n t i [b]).sub 0 = some b from rfl, bs, app, if_pos (by simp only [List.length_cons, List.length_nil]; omega), bs]
    rw [show ([(Tm.mk k n t i [b]).ty] ++ l) = t :: l from rfl, hu, bs, sequentref08_thin_j0]
    simp only [Tm.thins, Bool.and_true]
    rcases fot (Tm.thin (t :: l) b) with h2 | h2
    · rw [h2]; exact ⟨u, rfl, fun h => by cases h⟩
    rw [h2]
    obtain rfl := hu' h2
    rw [he] at hsz ⊢
    have htl : t.size ≤ lim := by simp only [tlim, lim] at hts ⊢; omega
    rw [if_pos rfl, ref_Fun_eq _ _ htl hbs, bs, ref_Size_eq _ hsz, bs, thin1_eq]
    exact ⟨_, rfl, fun _ => rfl⟩

theorem types_DestFun_eq {A R : Ty} (hA : A.size ≤ lim) (hR : R.size ≤ lim) : types_DestFun (Ty.mk false bFun [A, R]) = some (A, R, true) := by
  rw [types_DestFun, if_neg Bool.false_ne_true, if_neg (fun h => h rfl), if_neg (by simp [Ty.Ds_len]), show geti (Ty.mk false bFun [A, R]).args 0 = some A from rfl, bs, show geti (Ty.mk false bFun [A, R]).args 1 = some R from rfl, bs, types_Twin_eq2 A hA, bs, types_Twin_eq2 R hR, bs]
theorem prog_thin_eq : ∀ a : Tm, a.tys → ∀ l : List Ty, (∀ x ∈ l, x.size ≤ tlim) → l.length + a.depth ≤ 1000 → (Tm.formed l a).2 = true →
    ∃ u, equality_thin a l.reverse = some (u, Tm.thin l a) ∧ (Tm.thin l a = true → u = (Tm.formed l a).1) := by
  refine Tm.ind fun k n t i xs ih => ?_
  intro htt l hl hd hf
  have hsz := formed_lim htt hl (by omega)
  have htt' := htt
  obtain ⟨hts, htys⟩ := htt'
  rw [equality_thin_eq]
  simp only [Tm.thin]
  rcases formed_cases hf with ⟨hk, he⟩ | ⟨hk, h0, h1, he⟩ | ⟨hk, f, x, A, rfl, hf1, hx1, he⟩ | ⟨hk, b, rfl, hb1, he⟩
  · rw [if_neg (by omega), if_neg (by omega), if_neg (by omega), if_neg (by omega), if_neg (by omega)]
    rw [he] at hsz ⊢
    rw [types_Size_eq2 t hsz, bs, thin1_eq]
    exact ⟨t, rfl, fun _ => rfl⟩
  · rw [if_pos hk, if_neg (by omega), if_neg (by omega), Ty.Ds_len, List.length_reverse, wr (by omega) (by omega), bs, wr (by omega) (by omega), bs, geti_rev (z := zTy) h0 h1, bs, ← he, types_Size_eq2 _ hsz, bs, thin1_eq]
    exact ⟨_, rfl, fun _ => rfl⟩
  · rw [if_neg (by omega), if_pos hk, if_pos hk]
    have df : f.depth ≤ (Tm.mk k n t i [f, x]).depth := by simp only [Tm.depth, Tm.depths]; omega
    have dx : x.depth ≤ (Tm.mk k n t i [f, x]).depth := by simp only [Tm.depth, Tm.depths]; omega
    obtain ⟨u, hu, hu'⟩ := ih f (by simp) htys.1 l hl (by omega) hf1
    obtain ⟨w, hw, hw'⟩ := ih x (by simp) htys.2.1 l hl (by omega) hx1
    have hfs := formed_lim htys.1 hl (by omega)
    generalize hR : (Tm.formed l (Tm.mk k n t i [f, x])).1 = R at hsz he ⊢
    rw [show geti (Tm.mk k n t i [f, x]).sub 0 = some f from rfl, bs, hu, bs]
    simp only [Tm.thins, Bool.and_true]
    rcases fot (Tm.thin l f) with h2 | h2
    · rw [h2]; exact ⟨t, rfl, fun h => by cases h⟩
    rw [h2, if_pos rfl, show geti (Tm.mk k n t i [f, x]).sub 1 = some x from rfl, bs, hw, bs]
    rcases fot (Tm.thin l x) with h3 | h3
    · rw [h3]; exact ⟨t, rfl, fun h => by cases h⟩
    rw [h3, if_pos rfl]
    obtain rfl := hu' h2
    have hA : A.size ≤ lim := by
      rw [he] at hfs; simp only [Ty.size, Ty.sizes, lim] at hfs ⊢; omega
    simp only [he]
    rw [types_DestFun_eq hA hsz, bs]
    simp only []
    rw [types_Size_eq2 _ hsz, bs, thin1_eq]
    exact ⟨_, rfl, fun _ => rfl⟩
  · rw [if_neg (by omega), if_neg (by omega), if_pos hk, if_neg (by omega), if_pos hk]
    have db : (Tm.mk k n t i [b]).depth = 1 + b.depth := by simp only [Tm.depth, Tm.depths]; omega
    have hl' : ∀ x ∈ t :: l, x.size ≤ tlim := fun x hx => by
      rcases List.mem_cons.1 hx with rfl | hx
      · exact hts
      · exact hl x hx
    obtain ⟨u, hu, hu'⟩ := ih b (by simp) htys.1 (t :: l) hl' (by simp only [List.length_cons]; omega) hb1
    have hbs := formed_lim htys.1 hl' (by omega)
    have hcut : cut l.reverse 0 ((Ty.Ds l.reverse).length : Int) = some l.reverse := by
      unfold cut
      rw [if_pos (by rw [Ty.Ds_len]; omega), Ty.Ds_len]
      simp only [Int.toNat_natCast, List.take_length, Int.toNat_zero, List.drop_zero]
    rw [show geti (Tm.mk k n t i [b]).sub 0 = some b from rfl, bs, hcut, bs, app, if_pos (by simp only [List.length_cons, List.length_nil, List.length_reverse]; omega), bs]
    rw [show (l.reverse ++ [(Tm.mk k n t i [b]).ty]) = (t :: l).reverse by simp, hu, bs, equality_thin_j0]
    simp only [Tm.thins, Bool.and_true]
    rcases fot (Tm.thin (t :: l) b) with h2 | h2
    · rw [h2]; exact ⟨t, rfl, fun h => by cases h⟩
    rw [h2]
    obtain rfl := hu' h2
    rw [he] at hsz ⊢
    have htl : t.size ≤ lim := by simp only [tlim, lim] at hts ⊢; omega
    rw [if_pos rfl, types_Fun_eq _ _ htl hbs, bs, types_Size_eq2 _ hsz, bs, thin1_eq]
    exact ⟨_, rfl, fun _ => rfl⟩

/-- the term fits -/
def Tm.fits (a : Tm) : Bool := decide (a.size ≤ 2000) && (decide (a.depth ≤ 100) && Tm.thin [] a)
def Tm.checkT (a : Tm) : Int := if a.check = 0 then (if a.fits then 0 else 21) else a.check
theorem ref_Fits_eq {a : Tm} (h : a.fine) (hc : a.check = 0) : sequentref08_Fits a = some a.fits := by
  rw [sequentref08_Fits, ref2_Size_eq a h.lim, bs, Tm.fits]
  by_cases h1 : a.size ≤ 2000
  · rw [if_neg (by omega), ref2_Depth_eq a h.lim, bs]
    by_cases h2 : a.depth ≤ 100
    · obtain ⟨u, hu, _⟩ := ref_thin_eq a h.2.1 [] (fun x hx => by cases hx) (by simp only [List.length_nil]; omega) (Tm.check_zero.1 hc).2
      rw [if_neg (by omega), hu, bs, decide_eq_true h1, decide_eq_true h2]; rfl
    · rw [if_pos (by omega), decide_eq_false h2]; simp
  · rw [if_pos (by omega), decide_eq_false h1]; rfl
theorem prog_fits_eq {a : Tm} (h : a.fine) (hc : a.check = 0) : equality_fits a = some a.fits := by
  rw [equality_fits, terms_Size_eq2 a h.lim, bs, Tm.fits]
  by_cases h1 : a.size ≤ 2000
  · rw [if_neg (by omega), equality_depth_eq2 a h.lim, bs]
    by_cases h2 : a.depth ≤ 100
    · obtain ⟨u, hu, _⟩ := prog_thin_eq a h.2.1 [] (fun x hx => by cases hx) (by simp only [List.length_nil]; omega) (Tm.check_zero.1 hc).2
      rw [List.reverse_nil] at hu
      rw [if_neg (by omega), hu, bs, decide_eq_true h1, decide_eq_true h2]; rfl
    · rw [if_pos (by omega), decide_eq_false h2]; simp
  · rw [if_pos (by omega), decide_eq_false h1]; rfl
theorem ref_CheckTerm_eq {a : Tm} (h : a.fine) : sequentref08_CheckTerm a = some a.checkT := by
  rw [sequentref08_CheckTerm, ref2_Check_eq a h.1 h.lim h.2.1, bs, Tm.checkT]
  by_cases hc : a.check = 0
  · rw [if_pos hc, if_pos hc, ref_Fits_eq h hc, bs, hc]; split <;> rfl
  · rw [if_neg hc, if_neg hc]
theorem prog_CheckTerm_eq {a : Tm} (h : a.fine) : equality_CheckTerm a = some a.checkT := by
  rw [equality_CheckTerm, terms_Check_eq a h.1 h.lim h.2.1, bs, Tm.checkT]
  by_cases hc : a.check = 0
  · rw [if_neg (fun h => h hc), if_pos hc, prog_fits_eq h hc, bs]; split <;> rfl
  · rw [if_pos hc, if_neg hc]
theorem checkT_zero {a : Tm} (h : a.checkT = 0) : a.check = 0 ∧ a.fits = true := by
  unfold Tm.checkT at h
  split at h
  · rename_i hc
    split at h
    · exact ⟨hc, ‹_›⟩
    · cases h
  · exact absurd h ‹_›
end Go.Proofs.Ytdjmibbgoajcaaa.Fw
