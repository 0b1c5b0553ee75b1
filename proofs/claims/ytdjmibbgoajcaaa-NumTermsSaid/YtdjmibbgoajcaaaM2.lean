/- Terms: what the printed functions answer (sizes, order, copies). -/
import Derived.Test.YtdjmibbgoajcaaaM1
set_option autoImplicit false
set_option linter.unusedVariables false
set_option linter.unusedSimpArgs false
namespace Go.Proofs.Ytdjmibbgoajcaaa.Fw
open Go Go.Proofs

theorem ref2_Size_l (xs : List Tm) (ih : ∀ x ∈ xs, sequentref02_Size x = some (x.size : Int)) : ∀ m : Nat, m + Tm.sizes xs ≤ 2 * lim → sequentref02_Size_l0 xs m = some ((m + Tm.sizes xs : Nat) : Int) := by
  simp only [lim]
  induction xs with
  | nil => intro m _; rw [sequentref02_Size_l0_eq]; simp [Tm.sizes]
  | cons x r ihr =>
    intro m hm
    simp only [Tm.sizes] at hm
    rw [sequentref02_Size_l0_eq]; simp only []
    rw [ih x (by simp), bs, wr (by omega) (by omega), bs, show (m : Int) + (x.size : Int) = ((m + x.size : Nat) : Int) by omega, ihr (fun y hy => ih y (by simp [hy])) _ (by omega)]
    simp [Tm.sizes, Nat.add_assoc]
theorem ref2_Size_eq : ∀ a : Tm, a.size ≤ lim → sequentref02_Size a = some (a.size : Int) := by
  refine Tm.ind fun k n t i xs ih => ?_
  intro hs
  simp only [Tm.size, lim] at hs ⊢
  rw [sequentref02_Size_eq, show (1 : Int) = ((1 : Nat) : Int) from rfl, ref2_Size_l xs (fun x hx => ih x hx (by have := Tm.size_mem hx; simp only [lim]; omega)) 1 (by simp only [lim]; omega)]
theorem ref2_Depth_l (xs : List Tm) (ih : ∀ x ∈ xs, sequentref02_Depth x = some (x.depth : Int)) : ∀ d : Nat, d ≤ lim → Tm.depths xs ≤ lim → sequentref02_Depth_l0 xs d = some ((1 + max d (Tm.depths xs) : Nat) : Int) := by
  simp only [lim]
  induction xs with
  | nil => intro d h1 h2; rw [sequentref02_Depth_l0_eq]; simp only []; rw [wr (by omega) (by omega), bs]; simp [Tm.depths]
  | cons x r ihr =>
    intro d h1 h2
    simp only [Tm.depths] at h2
    rw [sequentref02_Depth_l0_eq]; simp only []
    rw [ih x (by simp), bs, show max (d : Int) (x.depth : Int) = ((max d x.depth : Nat) : Int) by omega, ihr (fun y hy => ih y (by simp [hy])) _ (by omega) (by omega)]
    simp [Tm.depths, Nat.max_assoc]
theorem ref2_Depth_eq : ∀ a : Tm, a.size ≤ lim → sequentref02_Depth a = some (a.depth : Int) := by
  refine Tm.ind fun k n t i xs ih => ?_
  intro hs
  simp only [Tm.size, lim] at hs
  have hd := Tm.depths_sizes xs
  rw [sequentref02_Depth_eq, show (0 : Int) = ((0 : Nat) : Int) from rfl, ref2_Depth_l xs (fun x hx => ih x hx (by have := Tm.size_mem hx; simp only [lim]; omega)) 0 (by omega) (by simp only [lim]; omega)]
  simp [Tm.depth]
theorem ref2_Small_eq (a : Tm) (hs : a.size ≤ lim) : sequentref02_Small a = some a.small := by
  rw [sequentref02_Small, ref2_Size_eq a hs, bs, Tm.small]
  by_cases h : a.size ≤ 32000
  · rw [if_pos (by omega), ref2_Depth_eq a hs, bs]; simp only [h, decide_true, Bool.true_and]; congr 2; simp; omega
  · rw [if_neg (by omega)]; simp [h]
theorem terms_extent_l (xs : List Tm) (ih : ∀ x ∈ xs, terms_extent x = some ((x.size : Int), (x.depth : Int))) : ∀ (m d : Nat), m + Tm.sizes xs ≤ 2 * lim → d ≤ lim → Tm.depths xs ≤ lim →
    terms_extent_l0 xs m d = some (((m + Tm.sizes xs : Nat) : Int), ((max d (Tm.depths xs) + 1 : Nat) : Int)) := by
  simp only [lim]
  induction xs with
  | nil => intro m d _ _ _; rw [terms_extent_l0_eq]; simp only []; rw [wr (by omega) (by omega), bs]; simp [Tm.sizes, Tm.depths]
  | cons x r ihr =>
    intro m d hm hd h2
    simp only [Tm.sizes] at hm
    simp only [Tm.depths] at h2
    rw [terms_extent_l0_eq]; simp only []
    rw [ih x (by simp), bs, wr (by simp only; omega) (by simp only; omega), bs]
    simp only []
    rw [show (m : Int) + (x.size : Int) = ((m + x.size : Nat) : Int) by omega, show max (d : Int) (x.depth : Int) = ((max d x.depth : Nat) : Int) by omega, ihr (fun y hy => ih y (by simp [hy])) _ _ (by omega) (by omega) (by omega)]
    simp [Tm.sizes, Tm.depths, Nat.add_assoc, Nat.max_assoc]
theorem terms_extent_eq2 : ∀ a : Tm, a.size ≤ lim → terms_extent a = some ((a.size : Int), (a.depth : Int)) := by
  refine Tm.ind fun k n t i xs ih => ?_
  intro hs
  simp only [Tm.size, lim] at hs
  have hd := Tm.depths_sizes xs
  have := terms_extent_l xs (fun x hx => ih x hx (by have := Tm.size_mem hx; simp only [lim]; omega)) 1 0 (by simp only [lim]; omega) (by omega) (by simp only [lim]; omega)
  rw [terms_extent_eq]
  simp only
  rw [show terms_extent_l0 xs 1 0 = _ from this]
  simp [Tm.size, Tm.depth, Nat.add_comm]
theorem terms_great_eq (a : Tm) (hs : a.size ≤ lim) : terms_great a = some (!a.small) := by
  rw [terms_great, terms_extent_eq2 a hs, bs, Tm.small]
  simp only []
  by_cases h : a.size ≤ 32000
  · rw [if_neg (by omega)]; simp only [h, decide_true, Bool.true_and]; congr 1; rw [Bool.eq_iff_iff]; simp; omega
  · rw [if_pos (by omega)]; simp [h]

/-! ### what is too large -/
theorem ref2_count_l (d : Nat) (hd : d ≤ 1000) (ih : ∀ (left : Int) (a : Tm), a.ok → 0 < left → left ≤ 1000000 → sequentref02_count a left d = some (Tm.count d left a)) :
    ∀ (xs : List Tm) (left : Int), Tm.oks xs → left ≤ 1000000 → sequentref02_count_l0 xs left ((d + 1 : Nat) : Int) = some (Tm.counts d left xs) := by
  intro xs
  induction xs with
  | nil => intro left _ _; rw [sequentref02_count_l0_eq]; rfl
  | cons x r ihr =>
    intro left ho h
    rw [sequentref02_count_l0_eq]; simp only [Tm.counts]
    by_cases h0 : 0 < left
    · have hb := Tm.count_bd d left x ho.1 h0
      rw [if_pos h0, if_pos h0, wr (by omega) (by omega), bs, show ((d + 1 : Nat) : Int) - 1 = (d : Int) by omega, ih left x ho.1 h0 h, bs, ihr _ ho.2 (by omega)]
    · rw [if_neg h0, if_neg h0]
theorem ref2_count_eq : ∀ (d : Nat), d ≤ 1000 → ∀ (left : Int) (a : Tm), a.ok → 0 < left → left ≤ 1000000 → sequentref02_count a left d = some (Tm.count d left a) := by
  intro d
  induction d with
  | zero => intro _ left a _ _ _; rw [sequentref02_count_eq, if_pos (by rfl)]; simp [Tm.count]
  | succ d ih =>
    rintro hd left ⟨k, n, t, i, xs⟩ ⟨hk, hn, ht, hi, hl, ho⟩ h0 h1
    simp only [big] at hn
    have htd := tdiv100 n.size
    rw [sequentref02_count_eq, if_neg (by omega)]
    simp only []
    rw [ref_Great_eq t ht, bs]
    simp only [Tm.count]
    by_cases hg : t.great = true
    · rw [if_pos hg, if_pos hg]
    · rw [if_neg hg, if_neg hg, wr (by omega) (by omega), bs, htd, wr (by omega) (by omega), bs, wr (by omega) (by omega), bs, ref2_count_l d (by omega) (fun left a => ih (by omega) left a) xs _ ho (by omega)]
theorem ref2_Great_eq (a : Tm) (h : a.ok) : sequentref02_Great a = some a.great := by
  rw [sequentref02_Great, show (400 : Int) = ((400 : Nat) : Int) from rfl, ref2_count_eq 400 (by omega) 2000 a h (by omega) (by omega), bs, Tm.great]
  by_cases h1 : 0 < Tm.count 400 2000 a
  · rw [if_pos h1]; simp [h1]
  · rw [if_neg h1, ref2_count_eq 400 (by omega) 40000 a h (by omega) (by omega), bs]
    by_cases h2 : Tm.count 400 40000 a ≤ 0
    · rw [if_pos h2]; simp [h1, h2]
    · have := (Tm.count_size 400 40000 a (by omega)).1
      rw [if_neg h2, ref2_Small_eq a (by simp only [lim]; omega), bs]; simp [h1, h2]

/-! ### copies -/
theorem terms_Twin_l (a : Tm) (u : Ty) (xs : List Tm) (ih : ∀ x ∈ xs, terms_Twin x = some x) : ∀ (k : Nat) (arr : List Tm), arr.length = k + xs.length → terms_Twin_l0 xs k arr a u = some (Tm.mk a.kind a.name u a.index (arr.take k ++ xs)) := by
  induction xs with
  | nil => intro k arr h; rw [terms_Twin_l0_eq]; simp only []; rw [List.take_of_length_le (by simp at h; omega), List.append_nil]
  | cons x r ihr =>
    intro k arr h
    simp only [List.length_cons] at h
    rw [terms_Twin_l0_eq]; simp only []
    rw [ih x (by simp), bs, wantb, if_pos (by omega), bs, seti_nat (by omega), bs, ihr (fun y hy => ih y (by simp [hy])) _ _ (by simp; omega)]
    congr 2
    rw [List.take_succ_eq_append_getElem (by simp; omega), List.getElem_set_self, List.take_set_of_le (Nat.le_refl _)]
    simp
theorem terms_Twin_eq2 : ∀ a : Tm, a.size ≤ lim → a.tys → terms_Twin a = some a := by
  refine Tm.ind fun k n t i xs ih => ?_
  rintro hs ⟨ht, hts⟩
  simp only [Tm.size, lim, tlim] at hs ht
  have hl := Tm.len_sizes xs
  have ih' : ∀ x ∈ xs, terms_Twin x = some x := fun x hx => ih x hx (by have := Tm.size_mem hx; simp only [lim]; omega) (Tm.tyss_mem hts x hx)
  rw [terms_Twin_eq, types_Twin_eq2 t (by simp only [lim]; omega), bs]
  simp only [Tm.Ds_len]
  by_cases h0 : 0 < xs.length
  · rw [if_pos (by omega), mkn, if_pos (by omega), bs, terms_Twin_j0_eq, terms_Twin_l _ _ xs ih' 0 _ (by simp)]
    simp
  · have : xs = [] := List.length_eq_zero_iff.1 (by omega)
    subst this
    rw [if_neg (by simp), terms_Twin_j0b_eq, terms_Twin_l0b_eq]

/-! ### the order of terms -/
theorem sign_lt (p : Prop) [Decidable p] (q : Prop) [Decidable q] : sequentref02_sign (decide p) (decide q) = some (if q then 0 else if p then -1 else 1) := by
  rw [sequentref02_sign]
  by_cases hq : q <;> by_cases hp : p <;> simp [hq, hp]
theorem icmp_sign (a b : Int) : (if a = b then (0 : Int) else if a < b then -1 else 1) = icmp a b := by
  unfold icmp; split
  · subst_vars; simp
  · split
    · rfl
    · rw [if_pos (by omega)]
theorem ref2_cmp_l (a b : Tm) : ∀ (j k : Nat) (c : Int), k + j = a.sub.length → a.sub.length = b.sub.length → (∀ x ∈ a.sub, ∀ y, sequentref02_Compare x y = some (Tm.cmp x y)) →
    a.sub.length ≤ big → sequentref02_Compare_l0 c k a b = some (if c ≠ 0 then c else Tm.cmps (a.sub.drop k) (b.sub.drop k)) := by
  intro j
  simp only [big]
  induction j with
  | zero =>
    intro k c hk hl h hb
    rw [sequentref02_Compare_l0_eq]
    simp only [Tm.Ds_len]
    rw [if_neg (by omega : ¬ ((k : Int) < _)), List.drop_eq_nil_of_le (by omega : a.sub.length ≤ k)]
    by_cases hc : c = 0
    · simp [hc, Tm.cmps]
    · simp [hc]
  | succ j ih =>
    intro k c hk hl h hb
    rw [sequentref02_Compare_l0_eq]
    simp only [Tm.Ds_len]
    by_cases hc : c = 0
    · subst hc
      obtain ⟨x, h1, h2⟩ := geti_drop (l := a.sub) (k := k) (n := j) hk
      obtain ⟨y, h3, h4⟩ := geti_drop (l := b.sub) (k := k) (n := j) (by omega)
      have hx : x ∈ a.sub := by
        rw [geti_nat] at h1
        exact List.mem_of_getElem? h1
      rw [if_pos rfl, if_pos (by omega), h1, bs, h3, bs, h x hx, bs, wr (by omega) (by omega), bs, show (k : Int) + 1 = ((k + 1 : Nat) : Int) by omega, ih (k + 1) _ (by omega) hl h hb, h2, h4, Tm.cmps]
      simp
    · rw [if_neg hc]; simp [hc]
theorem ref2_Compare_eq : ∀ a b : Tm, a.ok → sequentref02_Compare a b = some (Tm.cmp a b) := by
  refine Tm.ind fun k n t i xs ih => ?_
  rintro ⟨k', n', t', i', ys⟩ ⟨hk, hn, ht, hi, hl, ho⟩
  have hloop : ∀ c : Int, (c = 0 → xs.length = ys.length) → sequentref02_Compare_l0 c 0 (Tm.mk k n t i xs) (Tm.mk k' n' t' i' ys) = some (if c ≠ 0 then c else Tm.cmps xs ys) := fun c hc => by
    by_cases h0 : c = 0
    · have := ref2_cmp_l (Tm.mk k n t i xs) (Tm.mk k' n' t' i' ys) xs.length 0 c (by simp) (hc h0) (fun x hx y => ih x hx y (Tm.oks_mem ho x hx)) hl
      exact this
    · rw [sequentref02_Compare_l0_eq, if_neg h0]; simp [h0]
  rw [sequentref02_Compare_eq]
  simp only [sign_lt, bs, icmp_sign, sequentref02_Compare_j0_eq, sequentref02_Compare_j1_eq, sequentref02_Compare_j2_eq, sequentref02_Compare_j3_eq, ref_Compare_eq, Tm.Ds_len, Tm.cmp, Tm.hd, ors]
  have hlen : icmp (xs.length : Int) (ys.length : Int) = 0 → xs.length = ys.length := fun h => by unfold icmp at h; split at h <;> (try split at h) <;> omega
  have hnc : (if n = n' then (0 : Int) else if Op.bytesLess n.toList n'.toList = true then -1 else 1) = ncmp n n' := rfl
  rw [hnc]
  by_cases a0 : icmp k k' = 0
  · by_cases k5 : k = 5
    · subst k5
      by_cases c0 : Ty.cmp t t' = 0
      · by_cases e0 : icmp i i' = 0
        · simp [a0, c0, e0, hloop _ hlen]
          by_cases f0 : icmp (xs.length : Int) (ys.length : Int) = 0 <;> simp [f0]
        · simp [a0, c0, e0, hloop (icmp i i') (fun h => absurd h e0)]
      · simp [a0, c0, hloop (Ty.cmp t t') (fun h => absurd h c0)]
    · by_cases b0 : ncmp n n' = 0
      · by_cases c0 : Ty.cmp t t' = 0
        · by_cases e0 : icmp i i' = 0
          · simp [a0, k5, b0, c0, e0, hloop _ hlen]
            by_cases f0 : icmp (xs.length : Int) (ys.length : Int) = 0 <;> simp [f0]
          · simp [a0, k5, b0, c0, e0, hloop (icmp i i') (fun h => absurd h e0)]
        · simp [a0, k5, b0, c0, hloop (Ty.cmp t t') (fun h => absurd h c0)]
      · simp [a0, k5, b0, hloop (ncmp n n') (fun h => absurd h b0)]
  · simp [a0, hloop (icmp k k') (fun h => absurd h a0)]
theorem ref2_Same_eq (a b : Tm) (h : a.ok) : sequentref02_Same a b = some (Tm.beq a b) := by rw [sequentref02_Same, ref2_Compare_eq a b h, bs]; rfl
end Go.Proofs.Ytdjmibbgoajcaaa.Fw
