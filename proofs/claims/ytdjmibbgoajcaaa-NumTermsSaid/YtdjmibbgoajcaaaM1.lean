/- Types: what the printed functions answer. -/
import Derived.Test.YtdjmibbgoajcaaaM0
import Derived.Test.YtdjmibbgoajcaaaGFun
set_option autoImplicit false
set_option linter.unusedVariables false
set_option linter.unusedSimpArgs false
namespace Go.Proofs.Ytdjmibbgoajcaaa.Fw
open Go Go.Proofs

theorem getb_get (s : ByteArray) (k : Nat) (h : k < s.data.toList.length) : getb s (k : Int) = some ((s.data.toList[k]).toNat : Int) := by
  have := bget s k h
  simp [getb, this]

/-! ### names -/
theorem name_tail {s : ByteArray} {k : Nat} (h : k < s.data.toList.length) : (s.data.toList.drop k).all (fun c => !nmBad c) = (!nmBad s.data.toList[k] && (s.data.toList.drop (k + 1)).all (fun c => !nmBad c)) := by
  rw [List.drop_eq_getElem_cons h, List.all_cons]
theorem types_name_l (s : ByteArray) (hs : s.size ≤ big) : ∀ j k : Nat, k + j = s.data.toList.length →
    types_name_l0 k s = some ((s.data.toList.drop k).all (fun c => !nmBad c) && (decide (1 ≤ s.size) && decide (s.size ≤ 30))) := by
  have hz := bsize s
  have he := name_empty s
  simp only [big] at hs
  intro j
  induction j with
  | zero =>
    intro k hk
    rw [types_name_l0_eq, if_neg (by omega), List.drop_eq_nil_of_le (by omega)]
    by_cases h0 : s = ByteArray.empty
    · rw [if_neg (fun h => h h0)]; have := he.1 h0; simp [this]
    · rw [if_pos h0]
      have : 1 ≤ s.size := by have : ¬ s.size = 0 := fun h => h0 (he.2 h); omega
      have h30 : ((s.size : Int) ≤ 30) ↔ s.size ≤ 30 := by omega
      simp [this, h30]
  | succ j ih =>
    intro k hk
    have hlt : k < s.data.toList.length := by omega
    have ih1 := ih (k + 1) (by omega)
    rw [types_name_l0_eq, if_pos (by omega), getb_get s k hlt, name_tail hlt, bs, wr (by omega) (by omega)]
    generalize s.data.toList[k] = c
    simp only [bs]
    rw [show ((k : Int) + 1) = ((k + 1 : Nat) : Int) from by omega, ih1]
    have hb : nmBad c = (decide ((c.toNat : Int) < 33) || decide (126 < (c.toNat : Int)) || decide ((c.toNat : Int) = 40) || decide ((c.toNat : Int) = 41) || decide ((c.toNat : Int) = 44) || decide ((c.toNat : Int) = 58) || decide ((c.toNat : Int) = 92) || decide ((c.toNat : Int) = 46) || decide ((c.toNat : Int) = 34)) := rfl
    rw [hb]
    generalize (c.toNat : Int) = n
    clear ih ih1 hs hz hlt hb
    try clear he
    repeat' split
    all_goals simp_all
    all_goals (rw [decide_eq_false (show ¬ n < 33 by omega), decide_eq_false (show ¬ 126 < n by omega)]; simp)
theorem types_name_eq (s : ByteArray) (hs : s.size ≤ big) : types_name s = some (Name s) := by
  have := types_name_l s hs s.data.toList.length 0 (by simp)
  rw [types_name, show (0 : Int) = ((0 : Nat) : Int) from rfl, this, List.drop_zero, Name]
  congr 1
  cases decide (1 ≤ s.size) <;> cases decide (s.size ≤ 30) <;> simp
theorem ref_name_l (s : ByteArray) (hs : s.size ≤ big) : ∀ j k : Nat, k + j = s.data.toList.length →
    sequentref01_Name_l0 k s = some ((s.data.toList.drop k).all (fun c => !nmBad c)) := by
  have hz := bsize s
  simp only [big] at hs
  intro j
  induction j with
  | zero =>
    intro k hk
    rw [sequentref01_Name_l0_eq, if_neg (by omega), List.drop_eq_nil_of_le (by omega)]; rfl
  | succ j ih =>
    intro k hk
    have hlt : k < s.data.toList.length := by omega
    have ih1 := ih (k + 1) (by omega)
    rw [sequentref01_Name_l0_eq, if_pos (by omega), getb_get s k hlt, name_tail hlt, bs, wr (by omega) (by omega)]
    generalize s.data.toList[k] = c
    simp only [bs]
    rw [show ((k : Int) + 1) = ((k + 1 : Nat) : Int) from by omega, ih1]
    have hb : nmBad c = (decide ((c.toNat : Int) < 33) || decide (126 < (c.toNat : Int)) || decide ((c.toNat : Int) = 40) || decide ((c.toNat : Int) = 41) || decide ((c.toNat : Int) = 44) || decide ((c.toNat : Int) = 58) || decide ((c.toNat : Int) = 92) || decide ((c.toNat : Int) = 46) || decide ((c.toNat : Int) = 34)) := rfl
    rw [hb]
    generalize (c.toNat : Int) = n
    clear ih ih1 hs hz hlt hb
    try clear he
    repeat' split
    all_goals simp_all
theorem ref_name_eq (s : ByteArray) (hs : s.size ≤ big) : sequentref01_Name s = some (Name s) := by
  have := ref_name_l s hs s.data.toList.length 0 (by simp)
  rw [sequentref01_Name, show sequentref01_Name_l0 0 s = some _ from this, List.drop_zero, Name]
  by_cases h1 : 1 ≤ s.size
  · by_cases h2 : s.size ≤ 30
    · rw [if_neg (by omega), if_neg (by omega)]; simp [h1, h2]
    · rw [if_neg (by omega), if_pos (by omega)]; simp [h2]
  · rw [if_pos (by omega)]; simp [h1]
theorem name_pos {s : ByteArray} (h : Name s = true) : 0 < s.data.toList.length := by
  simp only [Name, Bool.and_eq_true, decide_eq_true_eq] at h
  have := bsize s; omega
theorem name_head {s : ByteArray} (h : Name s = true) : ∃ c : UInt8, s.data.toList[0]? = some c ∧ getb s 0 = some (c.toNat : Int) :=
  ⟨_, List.getElem?_eq_getElem (name_pos h), getb_get s 0 (name_pos h)⟩
theorem types_variable_eq (s : ByteArray) (hs : s.size ≤ big) : types_variable s = some (tvar s) := by
  rw [types_variable, types_name_eq s hs, bs]
  cases hN : Name s with
  | false => simp [tvar, hN]
  | true =>
    obtain ⟨c, h1, h2⟩ := name_head hN
    simp [tvar, hN, h1, h2, b39]
theorem ref2_name_eq (s : ByteArray) (hs : s.size ≤ big) : sequentref02_Name s = some (cname s) := by
  rw [sequentref02_Name, ref_name_eq s hs, bs]
  cases hN : Name s with
  | false => simp [cname, hN]
  | true =>
    obtain ⟨c, h1, h2⟩ := name_head hN
    simp [cname, hN, h1, h2, b39]

/-! ### sizes and depths -/
theorem types_measure_l (xs : List Ty) (ih : ∀ x ∈ xs, types_measure x = some ((x.size : Int), (x.depth : Int), x.shape)) (hs : Ty.sizes xs ≤ lim) :
    ∀ (m d : Nat) (b : Bool), m + Ty.sizes xs ≤ 2 * lim → d ≤ lim → types_measure_l0 xs m d b = some (((m + Ty.sizes xs : Nat) : Int), ((max d (Ty.depths xs) + 1 : Nat) : Int), b && Ty.shapes xs) := by
  simp only [lim] at hs ⊢
  induction xs with
  | nil =>
    intro m d b hm hd
    rw [types_measure_l0_eq]; simp only []
    rw [wr (by omega) (by omega), bs]
    simp [Ty.sizes, Ty.depths, Ty.shapes]
  | cons x r ihr =>
    intro m d b hm hd
    simp only [Ty.sizes] at hs hm
    have hx := x.depth_size
    rw [types_measure_l0_eq]; simp only []
    rw [ih x (by simp), bs, wr (by simp only; omega) (by simp only; omega), bs]
    simp only []
    have e1 : ((m : Int) + (x.size : Int)) = ((m + x.size : Nat) : Int) := by omega
    have e2 : max (d : Int) (x.depth : Int) = ((max d x.depth : Nat) : Int) := by omega
    rw [e1, e2]
    have hr := fun b' => ihr (fun y hy => ih y (by simp [hy])) (by omega) (m + x.size) (max d x.depth) b' (by omega) (by omega)
    cases b
    · rw [if_neg (by decide), hr]; simp [Ty.sizes, Ty.depths, Ty.shapes, Nat.add_assoc, Nat.max_assoc]
    · rw [if_pos rfl, hr]; simp [Ty.sizes, Ty.depths, Ty.shapes, Nat.add_assoc, Nat.max_assoc]
theorem types_measure_eq2 : ∀ a : Ty, a.ok → a.size ≤ lim → types_measure a = some ((a.size : Int), (a.depth : Int), a.shape) := by
  refine Ty.ind fun v n xs ih => ?_
  rintro ⟨hn, hl, hok⟩ hs
  simp only [Ty.size, lim] at hs
  have hd := Ty.depths_sizes xs
  have hj : ∀ b : Bool, types_measure_j0 b (Ty.mk v n xs) = some ((((Ty.mk v n xs).size : Nat) : Int), (((Ty.mk v n xs).depth : Nat) : Int), b && Ty.shapes xs) := fun b => by
    have hm := types_measure_l xs (fun x hx => ih x hx (Ty.oks_mem hok x hx) (by have := Ty.size_mem hx; simp only [lim]; omega)) (by simp only [lim]; omega) 1 0 b (by simp only [lim]; omega) (by omega)
    rw [types_measure_j0_eq, show types_measure_l0 xs 1 0 b = _ from hm]
    simp only [Ty.size, Ty.depth, Nat.zero_max, Nat.add_comm 1]
  have hlen := Ty.Ds_len xs
  rw [types_measure_eq]
  cases v with
  | true =>
    simp only [if_true, types_variable_eq n hn, bs, hj, hlen]
    simp only [Ty.shape, Ty.head, tvar]
    rcases fot (Name n) with hN | hN <;> rcases fot (decide (n.data.toList[0]? = some 39)) with hD | hD <;> simp only [hN, hD]
    · simp
    · simp
    · simp
    · by_cases h0 : xs = []
      · simp [h0]
      · simp [h0]
  | false =>
    simp only [Bool.false_eq_true, if_false, types_name_eq n hn, bs, hj, hlen]
    simp only [Ty.shape, Ty.head]
    cases hN : Name n with
    | false => simp
    | true =>
      obtain ⟨c, h1, h2⟩ := name_head hN
      simp only [if_true, h2, bs, h1, b39, Option.some.injEq]
      by_cases h3 : c = 39
      · simp [h3]
      · by_cases h4 : xs.length ≤ 8
        · rw [if_pos h3, if_pos (by omega)]; simp [h3, h4]
        · rw [if_pos h3, if_neg (by omega)]; simp [h3, h4]
theorem types_Check_eq (a : Ty) (h : a.ok) (hs : a.size ≤ lim) : types_Check a = some (tcheck a) := by
  rw [types_Check, types_measure_eq2 a h hs, bs]
  simp only [tcheck, Ty.valid, Ty.small]
  rcases fot a.shape with hsh | hsh <;> simp only [hsh]
  · simp
  · by_cases h1 : a.size ≤ 500
    · by_cases h2 : a.depth ≤ 200
      · simp only [if_true]; rw [if_neg (by omega), if_neg (by omega)]; simp [h1, h2]
      · simp only [if_true]; rw [if_neg (by omega), if_pos (by omega)]; simp [h2]
    · simp only [if_true]; rw [if_pos (by omega)]; simp [h1]

theorem ref_Size_l (xs : List Ty) (ih : ∀ x ∈ xs, sequentref01_Size x = some (x.size : Int)) : ∀ m : Nat, m + Ty.sizes xs ≤ 2 * lim → sequentref01_Size_l0 xs m = some ((m + Ty.sizes xs : Nat) : Int) := by
  simp only [lim]
  induction xs with
  | nil => intro m _; rw [sequentref01_Size_l0_eq]; simp [Ty.sizes]
  | cons x r ihr =>
    intro m hm
    simp only [Ty.sizes] at hm
    rw [sequentref01_Size_l0_eq]; simp only []
    rw [ih x (by simp), bs, wr (by omega) (by omega), bs, show (m : Int) + (x.size : Int) = ((m + x.size : Nat) : Int) by omega, ihr (fun y hy => ih y (by simp [hy])) _ (by omega)]
    simp [Ty.sizes, Nat.add_assoc]
theorem ref_Size_eq : ∀ a : Ty, a.size ≤ lim → sequentref01_Size a = some (a.size : Int) := by
  refine Ty.ind fun v n xs ih => ?_
  intro hs
  simp only [Ty.size, lim] at hs ⊢
  rw [sequentref01_Size_eq, show (1 : Int) = ((1 : Nat) : Int) from rfl, ref_Size_l xs (fun x hx => ih x hx (by have := Ty.size_mem hx; simp only [lim]; omega)) 1 (by simp only [lim]; omega)]
theorem ref_Depth_l (xs : List Ty) (ih : ∀ x ∈ xs, sequentref01_Depth x = some (x.depth : Int)) : ∀ d : Nat, d ≤ lim → Ty.depths xs ≤ lim → sequentref01_Depth_l0 xs d = some ((1 + max d (Ty.depths xs) : Nat) : Int) := by
  simp only [lim]
  induction xs with
  | nil => intro d h1 h2; rw [sequentref01_Depth_l0_eq]; simp only []; rw [wr (by omega) (by omega), bs]; simp [Ty.depths]
  | cons x r ihr =>
    intro d h1 h2
    simp only [Ty.depths] at h2
    rw [sequentref01_Depth_l0_eq]; simp only []
    rw [ih x (by simp), bs, show max (d : Int) (x.depth : Int) = ((max d x.depth : Nat) : Int) by omega, ihr (fun y hy => ih y (by simp [hy])) _ (by omega) (by omega)]
    simp [Ty.depths, Nat.max_assoc]
theorem ref_Depth_eq : ∀ a : Ty, a.size ≤ lim → sequentref01_Depth a = some (a.depth : Int) := by
  refine Ty.ind fun v n xs ih => ?_
  intro hs
  simp only [Ty.size, lim] at hs
  have hd := Ty.depths_sizes xs
  rw [sequentref01_Depth_eq, show (0 : Int) = ((0 : Nat) : Int) from rfl, ref_Depth_l xs (fun x hx => ih x hx (by have := Ty.size_mem hx; simp only [lim]; omega)) 0 (by omega) (by simp only [lim]; omega)]
  simp [Ty.depth]
theorem ref_Small_eq (a : Ty) (hs : a.size ≤ lim) : sequentref01_Small a = some a.small := by
  rw [sequentref01_Small, ref_Size_eq a hs, bs, Ty.small]
  by_cases h : a.size ≤ 500
  · rw [if_pos (by omega), ref_Depth_eq a hs, bs]; simp only [h, decide_true, Bool.true_and]; congr 2; simp; omega
  · rw [if_neg (by omega)]; simp [h]
theorem ref_shape_l (xs : List Ty) (ih : ∀ x ∈ xs, sequentref01_shape x = some x.shape) : sequentref01_shape_l0 xs = some (Ty.shapes xs) := by
  induction xs with
  | nil => rw [sequentref01_shape_l0_eq]; rfl
  | cons x r ihr =>
    rw [sequentref01_shape_l0_eq]; simp only []
    rw [ih x (by simp), bs, ihr fun y hy => ih y (by simp [hy])]
    cases h : x.shape <;> simp [Ty.shapes, h]
theorem ref_shape_eq : ∀ a : Ty, a.ok → sequentref01_shape a = some a.shape := by
  refine Ty.ind fun v n xs ih => ?_
  rintro ⟨hn, hl, hok⟩
  have hlen := Ty.Ds_len xs
  have hj : sequentref01_shape_j0 (Ty.mk v n xs) = some (Ty.shapes xs) := by rw [sequentref01_shape_j0_eq]; exact ref_shape_l xs fun x hx => ih x hx (Ty.oks_mem hok x hx)
  rw [sequentref01_shape_eq]
  simp only [ref_name_eq n hn, bs, hj, hlen, Ty.shape, Ty.head]
  cases hN : Name n with
  | false => simp
  | true =>
    obtain ⟨c, h1, h2⟩ := name_head hN
    simp only [if_true, h2, bs, h1, b39, Option.some.injEq, Bool.true_and]
    by_cases h0 : xs.length = 0
    · cases v <;> by_cases h3 : c = 39 <;> simp [h0, h3]
    · by_cases h4 : xs.length ≤ 8
      · cases v <;> by_cases h3 : c = 39 <;> simp [h0, h3, h4] <;> omega
      · cases v <;> by_cases h3 : c = 39 <;> simp [h0, h3, h4] <;> omega
theorem ref_Valid_eq (a : Ty) (h : a.ok) (hs : a.size ≤ lim) : sequentref01_Valid a = some a.valid := by
  rw [sequentref01_Valid, ref_Small_eq a hs, bs, Ty.valid]
  cases hsm : a.small
  · simp
  · rw [if_pos rfl, ref_shape_eq a h, bs]; simp

/-! ### the order of types -/
theorem cmp_int_eq (a b : Int) : cmp_Compare_int a b = some (icmp a b) := by
  simp only [cmp_Compare_int, cmp_isNaN_int, bs, icmp]
  simp only [not_true_eq_false, decide_false, Bool.false_eq_true, if_false]
  split
  · rfl
  · split <;> rfl
theorem strings_Compare_eq (a b : ByteArray) : strings_Compare a b = some (bcmp a b) := rfl
theorem cmp_Or_eq (xs : List Int) : cmp_Or_int xs = some (ors xs) := by
  rw [cmp_Or_int]
  induction xs with
  | nil => rw [cmp_Or_int_l0_eq]; rfl
  | cons x r ih =>
    rw [cmp_Or_int_l0_eq]; simp only [ih, ors]
    split <;> rfl
theorem geti_drop {α : Type} {l : List α} {k : Nat} {n : Nat} (h : k + (n + 1) = l.length) : ∃ y, geti l (k : Int) = some y ∧ l.drop k = y :: l.drop (k + 1) := by
  have hk : k < l.length := by omega
  exact ⟨l[k], by rw [geti_nat, List.getElem?_eq_getElem hk], List.drop_eq_getElem_cons hk⟩
theorem ref_cmp_l (ys : List Ty) (b : Ty) (hb : b.args = ys) : ∀ (xs : List Ty) (k : Nat), (∀ x ∈ xs, ∀ y, sequentref01_Compare x y = some (Ty.cmp x y)) → k + xs.length = ys.length → sequentref01_Compare_l0 xs k b = some (Ty.cmps xs (ys.drop k)) := by
  intro xs
  induction xs with
  | nil => intro k _ _; rw [sequentref01_Compare_l0_eq]; simp [Ty.cmps]
  | cons x r ih =>
    intro k h hk
    obtain ⟨y, h1, h2⟩ := geti_drop (l := ys) (k := k) (n := r.length) (by simpa using hk)
    rw [sequentref01_Compare_l0_eq]; simp only []
    rw [hb, h1, bs, h x (by simp), bs, h2, Ty.cmps, ih (k + 1) (fun z hz => h z (by simp [hz])) (by simp at hk; omega)]
    split <;> simp_all
theorem ref_Compare_eq : ∀ a b : Ty, sequentref01_Compare a b = some (Ty.cmp a b) := by
  refine Ty.ind fun v n xs ih => ?_
  rintro ⟨v', n', ys⟩
  rw [sequentref01_Compare_eq]
  simp only [Ty.Ds_len, Ty.cmp, Ty.hd]
  by_cases hv : v = v'
  · subst hv
    by_cases hn : n = n'
    · subst hn
      by_cases hl : xs.length = ys.length
      · simp only [hl, not_true_eq_false, if_false, ne_eq]
        exact ref_cmp_l ys _ rfl xs 0 ih (by omega)
      · have hl' : ¬ (xs.length : Int) = ys.length := by omega
        simp only [hl', not_true_eq_false, not_false_eq_true, if_false, if_true, ne_eq]
        split <;> simp
    · simp only [hn, not_true_eq_false, not_false_eq_true, if_false, if_true, ne_eq]
      split <;> simp
  · simp only [hv, not_false_eq_true, if_true, ne_eq]
    cases v <;> simp
theorem types_cmp_l (xs0 ys : List Ty) (hl : xs0.length = ys.length) : ∀ (xs : List Ty) (k : Nat), (∀ x ∈ xs, ∀ y, types_Compare x y = some (Ty.cmp x y)) → k + xs.length = ys.length →
    slices_CompareFunc_Type_Type_Type_Type__types_Compare_l0 xs k xs0 ys = some (Ty.cmps xs (ys.drop k)) := by
  intro xs
  induction xs with
  | nil => intro k _ _; rw [slices_CompareFunc_Type_Type_Type_Type__types_Compare_l0_eq]; simp only [Ty.Ds_len, hl]; simp [Ty.cmps]
  | cons x r ih =>
    intro k h hk
    obtain ⟨y, h1, h2⟩ := geti_drop (l := ys) (k := k) (n := r.length) (by simpa using hk)
    rw [slices_CompareFunc_Type_Type_Type_Type__types_Compare_l0_eq]; simp only [Ty.Ds_len]
    rw [if_neg (by simp at hk; omega), h1, bs, h x (by simp), bs, h2, Ty.cmps, ih (k + 1) (fun z hz => h z (by simp [hz])) (by simp at hk; omega)]
    split <;> simp_all
theorem types_Compare_eq2 : ∀ a b : Ty, types_Compare a b = some (Ty.cmp a b) := by
  refine Ty.ind fun v n xs ih => ?_
  rintro ⟨v', n', ys⟩
  have hr : ∀ (w : Bool) (m : ByteArray) (l : List Ty), types_rank (Ty.mk w m l) = some (if w then 0 else 1) := fun w m l => by cases w <;> rfl
  rw [types_Compare_eq]
  simp only [hr, bs, cmp_int_eq, strings_Compare_eq, cmp_Or_eq, Ty.Ds_len, Ty.hd_eq, Ty.cmp]
  by_cases h0 : Ty.hd v n xs.length v' n' ys.length = 0
  · simp only [h0, not_true_eq_false, if_false, ne_eq]
    have hl : xs.length = ys.length := by
      simp only [Ty.hd] at h0
      repeat' split at h0
      all_goals first | omega | simp_all
    rw [slices_CompareFunc_Type_Type_Type_Type__types_Compare_eq, types_cmp_l xs ys hl xs 0 ih (by omega)]; rfl
  · simp only [h0, not_false_eq_true, if_true, ne_eq]
theorem types_Same_eq (a b : Ty) : types_Same a b = some (Ty.beq a b) := by rw [types_Same, types_Compare_eq2, bs]; rfl
theorem ref_Same_eq (a b : Ty) : sequentref01_Same a b = some (Ty.beq a b) := by rw [sequentref01_Same, ref_Compare_eq, bs]; rfl

/-! ### copies -/
theorem ref_Twin_l (a : Ty) (xs : List Ty) (ih : ∀ x ∈ xs, sequentref01_Twin x = some x) : ∀ acc : List Ty, acc.length + xs.length ≤ 2 * lim → sequentref01_Twin_l0 xs acc a = some (Ty.mk a.v a.name (acc ++ xs)) := by
  simp only [lim]
  induction xs with
  | nil => intro acc _; rw [sequentref01_Twin_l0_eq]; simp
  | cons x r ihr =>
    intro acc h
    simp only [List.length_cons] at h
    rw [sequentref01_Twin_l0_eq]; simp only []
    rw [ih x (by simp), bs, app_eq (by simp; omega), bs, ihr (fun y hy => ih y (by simp [hy])) _ (by simp; omega)]
    simp
theorem ref_Twin_eq : ∀ a : Ty, a.size ≤ lim → sequentref01_Twin a = some a := by
  refine Ty.ind fun v n xs ih => ?_
  intro hs
  simp only [Ty.size, lim] at hs
  have hl := Ty.len_sizes xs
  rw [sequentref01_Twin_eq, ref_Twin_l _ xs (fun x hx => ih x hx (by have := Ty.size_mem hx; simp only [lim]; omega)) [] (by simp only [lim, List.length_nil]; omega)]
  rfl
theorem types_Twin_l (a : Ty) (xs : List Ty) (ih : ∀ x ∈ xs, types_Twin x = some x) : ∀ (k : Nat) (arr : List Ty), arr.length = k + xs.length → types_Twin_l0 xs k arr a = some (Ty.mk a.v a.name (arr.take k ++ xs)) := by
  induction xs with
  | nil => intro k arr h; rw [types_Twin_l0_eq]; simp only []; rw [List.take_of_length_le (by simp at h; omega), List.append_nil]
  | cons x r ihr =>
    intro k arr h
    simp only [List.length_cons] at h
    rw [types_Twin_l0_eq]; simp only []
    rw [ih x (by simp), bs, wantb, if_pos (by omega), bs, seti_nat (by omega), bs, ihr (fun y hy => ih y (by simp [hy])) _ _ (by simp; omega)]
    congr 2
    rw [List.take_succ_eq_append_getElem (by simp; omega), List.getElem_set_self, List.take_set_of_le (Nat.le_refl _)]
    simp
theorem types_Twin_eq2 : ∀ a : Ty, a.size ≤ lim → types_Twin a = some a := by
  refine Ty.ind fun v n xs ih => ?_
  intro hs
  simp only [Ty.size, lim] at hs
  have hl := Ty.len_sizes xs
  have ih' : ∀ x ∈ xs, types_Twin x = some x := fun x hx => ih x hx (by have := Ty.size_mem hx; simp only [lim]; omega)
  rw [types_Twin_eq]
  simp only [Ty.Ds_len]
  by_cases h0 : 0 < xs.length
  · rw [if_pos (by omega), mkn, if_pos (by omega), bs, types_Twin_j0_eq, types_Twin_l _ xs ih' 0 _ (by simp)]
    simp
  · have : xs = [] := List.length_eq_zero_iff.1 (by omega)
    subst this
    rw [if_neg (by simp), types_Twin_j0b_eq, types_Twin_l0b_eq]
theorem types_Fun_eq (a b : Ty) (ha : a.size ≤ lim) (hb : b.size ≤ lim) : types_Fun a b = some (Ty.fn a b) := by rw [types_Fun, types_Twin_eq2 a ha, bs, types_Twin_eq2 b hb, bs]; rfl
theorem ref_Fun_eq (a b : Ty) (ha : a.size ≤ lim) (hb : b.size ≤ lim) : sequentref01_Fun a b = some (Ty.fn a b) := by rw [sequentref01_Fun, ref_Twin_eq a ha, bs, ref_Twin_eq b hb, bs]; rfl
theorem types_Bool_eq : types_Bool = some Ty.bool := rfl
theorem ref_Bool_eq : sequentref01_Bool = some Ty.bool := rfl

/-! ### what is too large -/
theorem ref_count_l (d : Nat) (hd : d ≤ 1000) (ih : ∀ (left : Int) (a : Ty), a.ok → 0 < left → left ≤ 1000000 → sequentref01_count a left d = some (Ty.count d left a)) :
    ∀ (xs : List Ty) (left : Int), Ty.oks xs → left ≤ 1000000 → sequentref01_count_l0 xs left ((d + 1 : Nat) : Int) = some (Ty.counts d left xs) := by
  intro xs
  induction xs with
  | nil => intro left _ _; rw [sequentref01_count_l0_eq]; rfl
  | cons x r ihr =>
    intro left ho h
    rw [sequentref01_count_l0_eq]; simp only [Ty.counts]
    by_cases h0 : 0 < left
    · have hb := Ty.count_bd d left x ho.1 h0
      rw [if_pos h0, if_pos h0, wr (by omega) (by omega), bs, show ((d + 1 : Nat) : Int) - 1 = (d : Int) by omega, ih left x ho.1 h0 h, bs, ihr _ ho.2 (by omega)]
    · rw [if_neg h0, if_neg h0]
theorem ref_count_eq : ∀ (d : Nat), d ≤ 1000 → ∀ (left : Int) (a : Ty), a.ok → 0 < left → left ≤ 1000000 → sequentref01_count a left d = some (Ty.count d left a) := by
  intro d
  induction d with
  | zero => intro _ left a _ _ _; rw [sequentref01_count_eq, if_pos (by rfl)]; simp [Ty.count]
  | succ d ih =>
    rintro hd left ⟨v, n, xs⟩ ⟨hn, hl, ho⟩ h0 h1
    simp only [big] at hn
    have ht := tdiv100 n.size
    rw [sequentref01_count_eq, if_neg (by omega), wr (by omega) (by omega), bs, ht, wr (by omega) (by omega), bs, wr (by omega) (by omega), bs]
    simp only []
    rw [ref_count_l d (by omega) (fun left a => ih (by omega) left a) xs _ ho (by omega)]
    simp only [Ty.count, ht]
theorem ref_Great_eq (a : Ty) (h : a.ok) : sequentref01_Great a = some a.great := by
  rw [sequentref01_Great, show (500 : Int) = ((500 : Nat) : Int) from rfl, ref_count_eq 500 (by omega) 1500 a h (by omega) (by omega), bs]; rfl
end Go.Proofs.Ytdjmibbgoajcaaa.Fw
