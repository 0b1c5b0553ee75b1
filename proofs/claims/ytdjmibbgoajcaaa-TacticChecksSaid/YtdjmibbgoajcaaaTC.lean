/- Tactics as data: copies, sizes, what is equal. -/
import Derived.Test.YtdjmibbgoajcaaaMB
set_option autoImplicit false
set_option linter.unusedVariables false
set_option linter.unusedSimpArgs false
namespace Go.Proofs.Ytdjmibbgoajcaaa.Fw
open Go Go.Proofs

/-! ### terms that are the same -/
theorem icmp_z (a b : Int) : icmp a b = 0 ↔ a = b := by
  unfold icmp; split
  · omega
  · split <;> omega
theorem ors_z : ∀ {L : List Int}, ors L = 0 ↔ ∀ x ∈ L, x = 0
  | [] => by simp [ors]
  | a :: r => by
    simp only [ors]
    split
    · rename_i h; simp [h]
    · rename_i h; rw [ors_z]; simp at h; simp [h]
theorem ncmp_z (a b : ByteArray) : ncmp a b = 0 ↔ a = b := by
  unfold ncmp; split
  · simp [*]
  · rename_i h; split <;> simp [h]
theorem Tm.hd_z (k : Int) (n : ByteArray) (t : Ty) (i : Int) (m : Nat) (k' : Int) (n' : ByteArray) (t' : Ty) (i' : Int) (m' : Nat) :
    Tm.hd k n t i m k' n' t' i' m' = 0 ↔ k = k' ∧ (k = 5 ∨ n = n') ∧ t = t' ∧ i = i' ∧ m = m' := by
  rw [Tm.hd, ors_z]
  by_cases hk : k = 5
  · simp [icmp_z, Ty.cmp_zero, hk, Int.ofNat_inj]
  · simp [icmp_z, Ty.cmp_zero, hk, ncmp_z, Int.ofNat_inj]
theorem cmp_u8_eq (a b : Int) : cmp_Compare_uint8 a b = some (icmp a b) := by
  simp only [cmp_Compare_uint8, cmp_isNaN_uint8, bs, icmp]
  simp only [not_true_eq_false, decide_false, Bool.false_eq_true, if_false]
  split
  · rfl
  · split <;> rfl
mutual
theorem terms_Compare_iff : ∀ a b : Tm, ∃ c, terms_Compare a b = some c ∧ (c = 0 ↔ Tm.cmp a b = 0)
  | .mk k n t i xs, .mk k' n' t' i' ys => by
    have hj : k = k' → (k = 5 ∨ n = n') → ∃ c, terms_Compare_j0 (.mk k n t i xs) (.mk k' n' t' i' ys) = some c ∧ (c = 0 ↔ Tm.cmp (.mk k n t i xs) (.mk k' n' t' i' ys) = 0) := by
      rintro rfl hn
      rw [terms_Compare_j0_eq]
      simp only [types_Compare_eq2, bs, cmp_int_eq, Tm.Ds_len, cmp_Or_eq]
      have e : ors [Ty.cmp t t', icmp i i', icmp (xs.length : Int) (ys.length : Int)] = 0 ↔ t = t' ∧ i = i' ∧ xs.length = ys.length := by
        rw [ors_z]; simp [Ty.cmp_zero, icmp_z, Int.ofNat_inj]
      have hd : Tm.hd k n t i xs.length k n' t' i' ys.length = 0 ↔ t = t' ∧ i = i' ∧ xs.length = ys.length := by rw [Tm.hd_z]; simp [hn]
      by_cases h : t = t' ∧ i = i' ∧ xs.length = ys.length
      · rw [if_neg (fun q => q (e.2 h)), slices_CompareFunc_Term_Term_Term_Term__terms_Compare_eq]
        obtain ⟨c, h1, h2⟩ := terms_cmp_iff xs ys xs ys 0 (by simp) h.2.2 h.2.2 (by have := h.2.2; omega)
        rw [h1, bs]
        refine ⟨c, rfl, ?_⟩
        rw [h2]; simp only [Tm.cmp]; rw [if_neg (fun q => q (hd.2 h))]
      · rw [if_pos (fun q => h (e.1 q))]
        refine ⟨_, rfl, fun q => absurd (e.1 q) h, fun q => ?_⟩
        simp only [Tm.cmp] at q; rw [if_pos (fun q => h (hd.1 q))] at q; exact absurd (hd.1 q) h
    have hne : ∀ c : Int, ¬ c = 0 → ¬ (k = k' ∧ (k = 5 ∨ n = n')) → (∃ d, some c = some d ∧ (d = 0 ↔ Tm.cmp (.mk k n t i xs) (.mk k' n' t' i' ys) = 0)) := fun c hc hn => ⟨c, rfl, fun h => absurd h hc, fun h => by
      simp only [Tm.cmp] at h
      by_cases q : Tm.hd k n t i xs.length k' n' t' i' ys.length = 0
      · have := (Tm.hd_z ..).1 q; exact absurd ⟨this.1, this.2.1⟩ hn
      · rw [if_pos q] at h; exact absurd h q⟩
    rw [terms_Compare_eq]
    simp only [cmp_u8_eq, bs, strings_Compare_eq]
    by_cases h1 : k = k'
    · rw [if_neg (fun q => q ((icmp_z _ _).2 h1))]
      by_cases h2 : n = n'
      · rw [if_neg (fun q => q ((bcmp_zero _ _).2 h2))]; exact hj h1 (.inr h2)
      · rw [if_pos (fun h => h2 ((bcmp_zero _ _).1 h))]
        by_cases h3 : k = 5
        · rw [if_neg (fun h => h h3)]; exact hj h1 (.inl h3)
        · rw [if_pos h3]; exact hne _ (fun h => h2 ((bcmp_zero _ _).1 h)) (fun q => q.2.elim h3 h2)
    · rw [if_pos (fun h => h1 ((icmp_z _ _).1 h))]; exact hne _ (fun h => h1 ((icmp_z _ _).1 h)) (fun h => h1 h.1)
theorem terms_cmp_iff : ∀ (xs ys xs0 ys0 : List Tm) (k : Nat), ys0.drop k = ys → xs.length = ys.length → xs0.length = ys0.length → k + xs.length = ys0.length → ∃ c, slices_CompareFunc_Term_Term_Term_Term__terms_Compare_l0 xs k xs0 ys0 = some c ∧ (c = 0 ↔ Tm.cmps xs ys = 0)
  | [], ys, xs0, ys0, k, hd, hl0, hl, hk => by
    rw [slices_CompareFunc_Term_Term_Term_Term__terms_Compare_l0_eq]; simp only [Tm.Ds_len, hl]; rw [if_neg (by omega)]
    exact ⟨0, rfl, by simp [Tm.cmps]⟩
  | a :: r, [], xs0, ys0, k, hd, hl0, hl, hk => by simp at hl0
  | a :: r, b :: q, xs0, ys0, k, hd, hl0, hl, hk => by
    simp only [List.length_cons] at hk hl0
    obtain ⟨y, h1, h2⟩ := geti_drop (l := ys0) (k := k) (n := r.length) (by omega)
    rw [hd] at h2
    simp only [List.cons.injEq] at h2
    obtain ⟨rfl, h2⟩ := h2
    obtain ⟨c, g1, g2⟩ := terms_Compare_iff a b
    rw [slices_CompareFunc_Term_Term_Term_Term__terms_Compare_l0_eq]; simp only [Tm.Ds_len]
    rw [if_neg (by omega), h1, bs, g1, bs]
    simp only [Tm.cmps]
    by_cases hc : c = 0
    · rw [if_neg (fun z => z hc), if_neg (fun z => z (g2.1 hc))]
      exact terms_cmp_iff r q xs0 ys0 (k + 1) h2.symm (by omega) hl (by omega)
    · rw [if_pos hc, if_pos (fun z => hc (g2.2 z))]
      exact ⟨c, rfl, fun z => absurd z hc, fun z => absurd (g2.2 z) hc⟩
end
theorem terms_Same_beq (a b : Tm) : terms_Same a b = some (Tm.beq a b) := by
  obtain ⟨c, h1, h2⟩ := terms_Compare_iff a b
  rw [terms_Same, h1, bs, Tm.beq]
  exact congrArg some (decide_eq_decide.2 h2)
/-! ### tactics -/
mutual
def ATactic.ok : ATactic → Prop
  | .mk k p q t ks => (0 ≤ k ∧ k ≤ 255) ∧ (-9223372036854775808 ≤ p ∧ p ≤ 9223372036854775807) ∧ (-9223372036854775808 ≤ q ∧ q ≤ 9223372036854775807) ∧ t.ok ∧ ks.length ≤ big ∧ ATactic.oks ks
def ATactic.oks : List ATactic → Prop
  | [] => True
  | a :: r => a.ok ∧ ATactic.oks r
end
mutual
def ATactic.fine : ATactic → Prop
  | .mk k p q t ks => t.fine ∧ ATactic.fines ks
def ATactic.fines : List ATactic → Prop
  | [] => True
  | a :: r => a.fine ∧ ATactic.fines r
end
mutual
def ATactic.size : ATactic → Nat
  | .mk k p q t ks => 1 + ATactic.sizes ks
def ATactic.sizes : List ATactic → Nat
  | [] => 0
  | a :: r => a.size + ATactic.sizes r
end
mutual
def ATactic.depth : ATactic → Nat
  | .mk k p q t ks => 1 + ATactic.depths ks
def ATactic.depths : List ATactic → Nat
  | [] => 0
  | a :: r => max a.depth (ATactic.depths r)
end
theorem ATactic.ind {p : ATactic → Prop} (h : ∀ k q r t xs, (∀ x ∈ xs, p x) → p (.mk k q r t xs)) : ∀ a, p a
  | .mk k q r t xs => h k q r t xs (go xs)
  where go : ∀ xs, ∀ x ∈ xs, p x
  | [], x, hx => by cases hx
  | a :: r, x, hx => (List.mem_cons.1 hx).elim (fun e => e ▸ ATactic.ind h a) (go r x)
theorem ATactic.oks_mem : ∀ {xs : List ATactic}, ATactic.oks xs → ∀ x ∈ xs, x.ok
  | [], _, x, hx => by cases hx
  | a :: r, h, x, hx => by
    rcases List.mem_cons.1 hx with rfl | hx
    · exact h.1
    · exact ATactic.oks_mem h.2 x hx
theorem ATactic.fines_mem : ∀ {xs : List ATactic}, ATactic.fines xs → ∀ x ∈ xs, x.fine
  | [], _, x, hx => by cases hx
  | a :: r, h, x, hx => by
    rcases List.mem_cons.1 hx with rfl | hx
    · exact h.1
    · exact ATactic.fines_mem h.2 x hx
theorem ATactic.size_pos (a : ATactic) : 1 ≤ a.size := by obtain ⟨k, p, q, t, xs⟩ := a; simp only [ATactic.size]; omega
theorem ATactic.len_sizes : ∀ xs : List ATactic, xs.length ≤ ATactic.sizes xs
  | [] => Nat.le_refl _
  | a :: r => by have := ATactic.len_sizes r; have := a.size_pos; simp only [List.length_cons, ATactic.sizes]; omega
theorem ATactic.size_mem : ∀ {xs : List ATactic} {x : ATactic}, x ∈ xs → x.size ≤ ATactic.sizes xs
  | [], x, hx => by cases hx
  | a :: r, x, hx => by
    simp only [ATactic.sizes]
    rcases List.mem_cons.1 hx with rfl | hx
    · omega
    · have := ATactic.size_mem hx; omega
/-! ### what the statements consider -/
theorem count29_l (xs : List ATactic) (ih : ∀ x ∈ xs, ∀ left deep : Int, -1 ≤ left → left ≤ 400 → 0 ≤ deep → deep ≤ 60 → ∃ r, sequentref29_count x left deep = some r ∧ -1 ≤ r ∧ r ≤ left ∧ (0 ≤ r → (x.size : Int) + r ≤ left ∧ x.fine)) :
    ∀ t deep : Int, -1 ≤ t → t ≤ 400 → 1 ≤ deep → deep ≤ 60 → ∃ r, sequentref29_count_l0 xs t deep = some r ∧ -1 ≤ r ∧ r ≤ t ∧ (0 ≤ r → (ATactic.sizes xs : Int) + r ≤ t ∧ ATactic.fines xs) := by
  induction xs with
  | nil => intro t deep h1 h2 h3 h4; rw [sequentref29_count_l0_eq]; exact ⟨t, rfl, h1, Int.le_refl _, fun _ => ⟨by simp [ATactic.sizes], trivial⟩⟩
  | cons x r ihr =>
    intro t deep h1 h2 h3 h4
    rw [sequentref29_count_l0_eq]; simp only []
    by_cases h0 : 0 ≤ t
    · rw [if_pos h0, wr (by omega) (by omega), bs]
      obtain ⟨u, g1, g2, g3, g4⟩ := ih x (by simp) t (deep - 1) h1 h2 (by omega) (by omega)
      obtain ⟨v, k1, k2, k3, k4⟩ := ihr (fun y hy => ih y (by simp [hy])) u deep g2 (by omega) h3 h4
      rw [g1, bs, k1]
      refine ⟨v, rfl, k2, by omega, fun hv => ?_⟩
      have a1 := g4 (by omega)
      have a2 := k4 hv
      refine ⟨?_, a1.2, a2.2⟩
      have := a1.1; have := a2.1
      simp only [ATactic.sizes]; omega
    · rw [if_neg h0]; exact ⟨t, rfl, h1, Int.le_refl _, fun h => absurd h h0⟩
theorem count29 : ∀ a : ATactic, a.ok → ∀ left deep : Int, -1 ≤ left → left ≤ 400 → 0 ≤ deep → deep ≤ 60 → ∃ r, sequentref29_count a left deep = some r ∧ -1 ≤ r ∧ r ≤ left ∧ (0 ≤ r → (a.size : Int) + r ≤ left ∧ a.fine) := by
  refine ATactic.ind fun k p q t xs ih => ?_
  rintro ⟨h1, h2, h3, h4, h5, h6⟩ left deep l1 l2 d1 d2
  rw [sequentref29_count_eq, wr (by omega) (by omega), bs]
  simp only []
  by_cases c1 : left - 1 < 0
  · rw [if_pos c1]; exact ⟨-1, rfl, by omega, by omega, fun h => by omega⟩
  rw [if_neg c1]
  by_cases c2 : deep ≤ 0
  · rw [if_pos c2]; exact ⟨-1, rfl, by omega, by omega, fun h => by omega⟩
  rw [if_neg c2, ref2_Great_eq t h4, bs]
  by_cases c3 : t.great = true
  · rw [if_pos c3]; exact ⟨-1, rfl, by omega, by omega, fun h => by omega⟩
  rw [if_neg c3]
  obtain ⟨r, g1, g2, g3, g4⟩ := count29_l xs (fun x hx => ih x hx (ATactic.oks_mem h6 x hx)) (left - 1) deep (by omega) (by omega) (by omega) d2
  rw [g1]
  refine ⟨r, rfl, g2, by omega, fun h => ?_⟩
  have := g4 h
  exact ⟨by have := this.1; simp only [ATactic.size]; omega, Tm.great_fine h4 (by simpa using c3), this.2⟩
theorem Great29 (a : ATactic) (h : a.ok) : ∃ b, sequentref29_Great a = some b ∧ (b = false → a.size ≤ 400 ∧ a.fine) := by
  obtain ⟨r, g1, g2, g3, g4⟩ := count29 a h 400 60 (by omega) (by omega) (by omega) (by omega)
  rw [sequentref29_Great, g1, bs]
  refine ⟨_, rfl, fun hb => ?_⟩
  have hr : 0 ≤ r := by simpa using hb
  obtain ⟨k1, k2⟩ := g4 hr
  exact ⟨by omega, k2⟩
/-! ### copies -/
theorem ref29_Twin_l (a : ATactic) (v : Tm) (xs : List ATactic) (ih : ∀ x ∈ xs, sequentref29_Twin x = some x) : ∀ acc : List ATactic, acc.length + xs.length ≤ 1000 → sequentref29_Twin_l0 xs acc a v = some (ATactic.mk a.kind a.at_ a.to_ v (acc ++ xs)) := by
  induction xs with
  | nil => intro acc _; rw [sequentref29_Twin_l0_eq]; simp
  | cons x r ihr =>
    intro acc h
    simp only [List.length_cons] at h
    rw [sequentref29_Twin_l0_eq]; simp only []
    rw [ih x (by simp), bs, app_eq (by simp only [List.length_cons, List.length_nil]; omega), bs, ihr (fun y hy => ih y (by simp [hy])) _ (by simp; omega)]
    simp
theorem ref29_Twin_eq2 : ∀ a : ATactic, a.size ≤ 400 → a.fine → sequentref29_Twin a = some a := by
  refine ATactic.ind fun k p q t xs ih => ?_
  rintro hs ⟨ht, hts⟩
  simp only [ATactic.size] at hs
  have hl := ATactic.len_sizes xs
  rw [sequentref29_Twin_eq, ref2_Twin_eq t ht.lim ht.2.1, bs, sequentref29_Twin_j0_eq, ref29_Twin_l _ _ xs (fun x hx => ih x hx (by have := ATactic.size_mem hx; omega) (ATactic.fines_mem hts x hx)) [] (by simp only [List.length_nil]; omega)]
  rfl
theorem prog29_Twin_l (a : ATactic) (v : Tm) (xs : List ATactic) (ih : ∀ x ∈ xs, tactic_Twin x = some x) : ∀ acc : List ATactic, acc.length + xs.length ≤ 1000 → tactic_Twin_l0 xs acc a v = some (ATactic.mk a.kind a.at_ a.to_ v (acc ++ xs)) := by
  induction xs with
  | nil => intro acc _; rw [tactic_Twin_l0_eq]; simp
  | cons x r ihr =>
    intro acc h
    simp only [List.length_cons] at h
    rw [tactic_Twin_l0_eq]; simp only []
    rw [ih x (by simp), bs, app_eq (by simp only [List.length_cons, List.length_nil]; omega), bs, ihr (fun y hy => ih y (by simp [hy])) _ (by simp; omega)]
    simp
theorem prog29_Twin_eq2 : ∀ a : ATactic, a.size ≤ 400 → a.fine → tactic_Twin a = some a := by
  refine ATactic.ind fun k p q t xs ih => ?_
  rintro hs ⟨ht, hts⟩
  simp only [ATactic.size] at hs
  have hl := ATactic.len_sizes xs
  rw [tactic_Twin_eq, terms_Twin_eq2 t ht.lim ht.2.1, bs, prog29_Twin_l _ _ xs (fun x hx => ih x hx (by have := ATactic.size_mem hx; omega) (ATactic.fines_mem hts x hx)) [] (by simp only [List.length_nil]; omega)]
  rfl
theorem terms_Twin_ar_l (a : Tm) (u : Ty) (ih : ∀ x ∈ a.sub, terms_Twin x = some x) (hn : a.sub.length ≤ 2000000000) : ∀ (j k : Nat) (arr : List Tm), k + j = a.sub.length → arr.length = a.sub.length → terms_Twin_ar_l0 k arr a u = some (a.kind, a.name, u.v, u.name, u.args, a.index, arr.take k ++ a.sub.drop k) := by
  intro j
  induction j with
  | zero =>
    intro k arr h hl
    rw [terms_Twin_ar_l0_eq, if_neg (by simp only [Tm.Ds_len]; omega), List.take_of_length_le (by omega), List.drop_eq_nil_of_le (by omega), List.append_nil]
  | succ j ihj =>
    intro k arr h hl
    obtain ⟨y, g1, g2⟩ := geti_drop (l := a.sub) (k := k) (n := j) h
    have hy : y ∈ a.sub := List.mem_of_mem_drop (by rw [g2]; simp : y ∈ a.sub.drop k)
    rw [terms_Twin_ar_l0_eq, if_pos (by simp only [Tm.Ds_len]; omega), g1, bs, ih y hy, bs, wantb, if_pos (by omega), bs, seti_nat (by omega), bs, bs, wr (by omega) (by omega)]
    have := ihj (k + 1) (arr.set k y) (by omega) (by simpa using hl)
    rw [show ((k + 1 : Nat) : Int) = (k : Int) + 1 from rfl] at this
    rw [this]
    congr 7
    rw [List.take_succ_eq_append_getElem (by simp; omega), List.getElem_set_self, List.take_set_of_le (Nat.le_refl _), g2]
    simp
theorem terms_Twin_ar_eq2 (a : Tm) (h : a.fine) : terms_Twin_ar a = some (a.kind, a.name, a.ty.v, a.ty.name, a.ty.args, a.index, a.sub) := by
  obtain ⟨k, n, t, i, xs⟩ := a
  obtain ⟨_, ⟨ht, hts⟩, hs⟩ := h
  simp only [Tm.size, tlim] at hs ht
  have hl := Tm.len_sizes xs
  have ih' : ∀ x ∈ xs, terms_Twin x = some x := fun x hx => terms_Twin_eq2 x (by have := Tm.size_mem hx; simp only [lim]; omega) (Tm.tyss_mem hts x hx)
  rw [terms_Twin_ar, types_Twin_eq2 t (by simp only [lim]; omega), bs]
  simp only [Tm.Ds_len]
  by_cases h0 : 0 < xs.length
  · rw [if_pos (by omega), mkn, if_pos (by omega), bs, terms_Twin_ar_j0]
    have := terms_Twin_ar_l (.mk k n t i xs) t ih' (by show xs.length ≤ _; omega) xs.length 0 (List.replicate (xs.length : Int).toNat (Tm.mk 0 ByteArray.empty (Ty.mk false ByteArray.empty []) 0 [])) (by simp) (by simp)
    simpa using this
  · have : xs = [] := List.length_eq_zero_iff.1 (by omega)
    subst this
    rw [if_neg (by simp), terms_Twin_ar_j0b, terms_Twin_ar_l0b]
    simp [Tm.Ds_len]
theorem prog29_Twin_ar_l (a : ATactic) (v : (Int × ByteArray × Bool × ByteArray × (List Ty) × Int × (List Tm))) (xs : List ATactic) (ih : ∀ x ∈ xs, tactic_Twin x = some x) : ∀ acc : List ATactic, acc.length + xs.length ≤ 1000 →
    tactic_Twin_ar_l0 xs acc a v = some (a.kind, a.at_, a.to_, v.1, v.2.1, v.2.2.1, v.2.2.2.1, v.2.2.2.2.1, v.2.2.2.2.2.1, v.2.2.2.2.2.2, acc ++ xs) := by
  induction xs with
  | nil => intro acc _; rw [tactic_Twin_ar_l0_eq]; simp
  | cons x r ihr =>
    intro acc h
    simp only [List.length_cons] at h
    rw [tactic_Twin_ar_l0_eq]; simp only []
    rw [ih x (by simp), bs, app_eq (by simp only [List.length_cons, List.length_nil]; omega), bs, ihr (fun y hy => ih y (by simp [hy])) _ (by simp; omega)]
    simp
theorem prog29_Twin_ar_eq2 (a : ATactic) (hs : a.size ≤ 400) (hf : a.fine) : tactic_Twin_ar a = some (a.kind, a.at_, a.to_, a.term.kind, a.term.name, a.term.ty.v, a.term.ty.name, a.term.ty.args, a.term.index, a.term.sub, a.kids) := by
  obtain ⟨k, p, q, t, xs⟩ := a
  obtain ⟨ht, hts⟩ := hf
  simp only [ATactic.size] at hs
  have hl := ATactic.len_sizes xs
  rw [tactic_Twin_ar, terms_Twin_ar_eq2 t ht, bs, prog29_Twin_ar_l _ _ xs (fun x hx => prog29_Twin_eq2 x (by have := ATactic.size_mem hx; omega) (ATactic.fines_mem hts x hx)) [] (by simp only [List.length_nil]; omega)]
  rfl
/-! ### what is equal -/
mutual
def ATactic.beq : ATactic → ATactic → Bool
  | .mk k p q t ks, .mk k' p' q' t' ks' => decide (k = k') && (decide (p = p') && (decide (q = q') && (Tm.beq t t' && (decide (ks.length = ks'.length) && ATactic.beqs ks ks'))))
def ATactic.beqs : List ATactic → List ATactic → Bool
  | a :: r, b :: q => ATactic.beq a b && ATactic.beqs r q
  | _, _ => true
end
mutual
theorem ATactic.beq_self : ∀ a : ATactic, ATactic.beq a a = true
  | .mk k p q t ks => by simp [ATactic.beq, Tm.beq_self, ATactic.beqs_self ks]
theorem ATactic.beqs_self : ∀ a : List ATactic, ATactic.beqs a a = true
  | [] => rfl
  | a :: r => by simp [ATactic.beqs, ATactic.beq_self a, ATactic.beqs_self r]
end
theorem ref29_Same_l (b : ATactic) : ∀ (xs ys : List ATactic) (k : Nat), (∀ x ∈ xs, ∀ y, sequentref29_Same x y = some (ATactic.beq x y)) → b.kids.drop k = ys → xs.length = ys.length → sequentref29_Same_l0 xs k b = some (ATactic.beqs xs ys)
  | [], ys, k, ih, hd, hl => by rw [sequentref29_Same_l0_eq]; simp [ATactic.beqs]
  | x :: r, [], k, ih, hd, hl => by simp at hl
  | x :: r, y :: q, k, ih, hd, hl => by
    simp only [List.length_cons] at hl
    have hk : k + (q.length + 1) = b.kids.length := by have := congrArg List.length hd; simp at this; omega
    obtain ⟨z, h1, h2⟩ := geti_drop (l := b.kids) (k := k) (n := q.length) hk
    rw [hd] at h2
    simp only [List.cons.injEq] at h2
    obtain ⟨rfl, h2⟩ := h2
    rw [sequentref29_Same_l0_eq]; simp only []
    rw [h1, bs, ih x (by simp), bs]
    simp only [ATactic.beqs]
    by_cases hc : ATactic.beq x y = true
    · rw [if_pos hc, ref29_Same_l b r q (k + 1) (fun z hz => ih z (by simp [hz])) h2.symm (by omega), hc]; rfl
    · rw [if_neg hc]; simp [hc]
theorem ref29_Same_eq2 : ∀ a : ATactic, a.ok → ∀ b, sequentref29_Same a b = some (ATactic.beq a b) := by
  refine ATactic.ind fun k p q t xs ih => ?_
  rintro ⟨h1, h2, h3, h4, h5, h6⟩ ⟨k', p', q', t', ys⟩
  rw [sequentref29_Same_eq]
  simp only [ATactic.Ds_len, ATactic.beq]
  by_cases c1 : k = k'
  · rw [if_neg (fun z => z c1)]
    by_cases c2 : p = p'
    · rw [if_neg (fun z => z c2)]
      by_cases c3 : q = q'
      · rw [if_neg (fun z => z c3), ref2_Same_eq t t' h4, bs]
        by_cases c4 : Tm.beq t t' = true
        · rw [if_pos c4]
          by_cases c5 : xs.length = ys.length
          · rw [if_neg (by omega), ref29_Same_l _ xs ys 0 (fun x hx => ih x hx (ATactic.oks_mem h6 x hx)) (by simp) c5]
            simp [c1, c2, c3, c4, c5]
          · rw [if_pos (by omega)]; simp [c5]
        · rw [if_neg c4]; simp [c4]
      · rw [if_pos c3]; simp [c3]
    · rw [if_pos c2]; simp [c2]
  · rw [if_pos c1]; simp [c1]
mutual
theorem prog29_Same_eq2 : ∀ a b : ATactic, tactic_Same a b = some (ATactic.beq a b)
  | .mk k p q t xs, .mk k' p' q' t' ys => by
    rw [tactic_Same_eq]
    simp only [terms_Same_beq, bs, ATactic.beq]
    by_cases c1 : k = k'
    · rw [if_pos c1]
      by_cases c2 : p = p'
      · rw [if_pos c2]
        by_cases c3 : q = q'
        · rw [if_pos c3]
          by_cases c4 : Tm.beq t t' = true
          · rw [if_pos c4, slices_EqualFunc_Tactic_Tactic_Tactic_Tactic__tactic_Same_eq]
            simp only [ATactic.Ds_len]
            by_cases c5 : xs.length = ys.length
            · rw [if_neg (by omega), prog29_Same_l xs ys ys 0 (by simp) c5, bs]
              simp [c1, c2, c3, c4, c5]
            · rw [if_pos (by omega), bs]; simp [c5]
          · rw [if_neg c4]; simp [c4]
        · rw [if_neg c3]; simp [c3]
      · rw [if_neg c2]; simp [c2]
    · rw [if_neg c1]; simp [c1]
theorem prog29_Same_l : ∀ (xs ys ys0 : List ATactic) (k : Nat), ys0.drop k = ys → xs.length = ys.length → slices_EqualFunc_Tactic_Tactic_Tactic_Tactic__tactic_Same_l0 xs k ys0 = some (ATactic.beqs xs ys)
  | [], ys, ys0, k, hd, hl => by rw [slices_EqualFunc_Tactic_Tactic_Tactic_Tactic__tactic_Same_l0_eq]; simp [ATactic.beqs]
  | x :: r, [], ys0, k, hd, hl => by simp at hl
  | x :: r, y :: q, ys0, k, hd, hl => by
    simp only [List.length_cons] at hl
    have hk : k + (q.length + 1) = ys0.length := by have := congrArg List.length hd; simp at this; omega
    obtain ⟨z, h1, h2⟩ := geti_drop (l := ys0) (k := k) (n := q.length) hk
    rw [hd] at h2
    simp only [List.cons.injEq] at h2
    obtain ⟨rfl, h2⟩ := h2
    rw [slices_EqualFunc_Tactic_Tactic_Tactic_Tactic__tactic_Same_l0_eq]; simp only []
    rw [h1, bs, prog29_Same_eq2 x y, bs]
    simp only [ATactic.beqs]
    by_cases hc : ATactic.beq x y = true
    · rw [if_pos hc, prog29_Same_l r q ys0 (k + 1) h2.symm (by omega), hc]; rfl
    · rw [if_neg hc]; simp [hc]
end
end Go.Proofs.Ytdjmibbgoajcaaa.Fw


namespace Go.Proofs.Ytdjmibbgoajcaaa.Fw
open Go Go.Proofs

/-! ### the forms -/
def kd (k : Int) : Int := if 1 ≤ k ∧ k ≤ 24 then 0 else if k = 50 ∨ k = 52 then 2 else if k = 53 ∨ k = 54 then 1 else -1
def uA (k : Int) : Bool := decide (k = 6) || (decide (19 ≤ k) && decide (k ≤ 24))
def uT (k : Int) : Bool := decide (k = 13) || (decide (k = 18) || decide (k = 23))
theorem ref29_kids_eq (k : Int) : sequentref29_kids k = some (kd k) := by
  simp only [sequentref29_kids, kd]
  repeat' split
  all_goals first | rfl | (exfalso; omega)
theorem ref29_usesAt_eq (k : Int) : sequentref29_usesAt k = some (uA k) := by
  simp only [sequentref29_usesAt, uA]
  by_cases h1 : k = 6
  · rw [if_pos h1]; simp [h1]
  · rw [if_neg h1]
    by_cases h2 : 19 ≤ k
    · rw [if_pos h2]; simp [h1, h2]
    · rw [if_neg h2]; simp [h1, h2]
theorem ref29_usesTerm_eq (k : Int) : sequentref29_usesTerm k = some (uT k) := by
  simp only [sequentref29_usesTerm, uT]
  by_cases h1 : k = 13
  · rw [if_pos h1]; simp [h1]
  · rw [if_neg h1]
    by_cases h2 : k = 18
    · rw [if_pos h2]; simp [h1, h2]
    · rw [if_neg h2]; simp [h1, h2]
def look (k : Int) : Option TacticForm := if k = 51 then some ⟨false, false, false, 1, 65⟩ else if 0 ≤ kd k then some ⟨uA k, decide (k = 24), uT k, kd k, kd k⟩ else none
theorem mget_mput {α β : Type} [DecidableEq α] (k : α) (v : β) (k' : α) : ∀ m : List (α × β), mget (mput m k v) k' = if k' = k then some v else mget m k'
  | [] => by simp [mput, mget]
  | q :: r => by
    simp only [mput]
    by_cases h : k = q.1
    · rw [if_pos h]; simp only [mget]
      by_cases h2 : k' = k
      · rw [if_pos h2, if_pos h2]
      · rw [if_neg h2, if_neg h2, if_neg (by rw [← h]; exact h2)]
    · rw [if_neg h]; simp only [mget]
      by_cases h2 : k' = q.1
      · rw [if_pos h2, if_pos h2, if_neg (by rw [h2]; exact fun e => h e.symm)]
      · rw [if_neg h2, if_neg h2]; exact mget_mput k v k' r
theorem wr8 {x : Int} (h : 0 ≤ x) (h' : x ≤ 255) : IntKind.u8.wrap x = x := by
  simp only [IntKind.wrap, IntKind.bits, IntKind.signed]
  simp
  omega
theorem forms_l0 : ∀ (j : Nat) (t : Int) (m : List (Int × TacticForm)), t = 25 - (j : Int) → j ≤ 24 → ∃ m', tactic_forms_l0 t m = tactic_forms_l1 [6, 19, 20, 21, 22] m' ∧ ∀ k, mget m' k = if t ≤ k ∧ k ≤ 24 then some (TacticForm.mk false false false 0 0) else mget m k
  | 0, t, m, h, hj => by rw [tactic_forms_l0_eq, if_neg (by omega)]; exact ⟨m, rfl, fun k => by rw [if_neg (by omega)]⟩
  | j + 1, t, m, h, hj => by
    rw [tactic_forms_l0_eq, if_pos (by omega), bs, wr8 (by omega) (by omega), bs]
    obtain ⟨m', h1, h2⟩ := forms_l0 j (t + 1) (mput m t (TacticForm.mk false false false 0 0)) (by omega) (by omega)
    refine ⟨m', h1, fun k => ?_⟩
    rw [h2, mget_mput]
    by_cases e : k = t
    · rw [if_neg (by omega), if_pos e, if_pos (by omega)]
    · by_cases e2 : t + 1 ≤ k ∧ k ≤ 24
      · rw [if_pos e2, if_pos (by omega)]
      · rw [if_neg e2, if_neg e, if_neg (by omega)]
theorem tactic_forms_eq2 : ∃ F, tactic_forms = some F ∧ ∀ k, mgetO F k = look k := by
  obtain ⟨m', h1, h2⟩ := forms_l0 24 1 [] rfl (Nat.le_refl _)
  rw [tactic_forms, h1]
  rw [tactic_forms_l1_eq]; simp only [bs]
  rw [tactic_forms_l1_eq]; simp only [bs]
  rw [tactic_forms_l1_eq]; simp only [bs]
  rw [tactic_forms_l1_eq]; simp only [bs]
  rw [tactic_forms_l1_eq]; simp only [bs]
  rw [tactic_forms_l1_eq]; simp only [bs]
  refine ⟨some _, rfl, fun k => ?_⟩
  simp only [mgetO, mget_mput, h2]
  by_cases h : 1 ≤ k ∧ k ≤ 24
  · have : k = 1 ∨ k = 2 ∨ k = 3 ∨ k = 4 ∨ k = 5 ∨ k = 6 ∨ k = 7 ∨ k = 8 ∨ k = 9 ∨ k = 10 ∨ k = 11 ∨ k = 12 ∨ k = 13 ∨ k = 14 ∨ k = 15 ∨ k = 16 ∨ k = 17 ∨ k = 18 ∨ k = 19 ∨ k = 20 ∨ k = 21 ∨ k = 22 ∨ k = 23 ∨ k = 24 := by omega
    rcases this with rfl | rfl | rfl | rfl | rfl | rfl | rfl | rfl | rfl | rfl | rfl | rfl | rfl | rfl | rfl | rfl | rfl | rfl | rfl | rfl | rfl | rfl | rfl | rfl <;> rfl
  · by_cases h' : k = 50 ∨ k = 51 ∨ k = 52 ∨ k = 53 ∨ k = 54
    · rcases h' with rfl | rfl | rfl | rfl | rfl <;> rfl
    · simp only [not_or] at h'
      obtain ⟨g0, g1, g2, g3, g4⟩ := h'
      have e : look k = none := by
        unfold look kd
        repeat rw [if_neg (by omega)]
        try rfl
      rw [e]
      repeat rw [if_neg (by omega)]
      try rfl
theorem look_term (k : Int) : (match look k with | some f => f.term | none => false) = uT k := by
  unfold look
  by_cases h : k = 51
  · subst h; rfl
  · rw [if_neg h]
    by_cases h2 : 0 ≤ kd k
    · rw [if_pos h2]
    · rw [if_neg h2]
      unfold kd at h2
      unfold uT
      rw [decide_eq_false (by rintro rfl; exact h2 (by decide)), decide_eq_false (by rintro rfl; exact h2 (by decide)), decide_eq_false (by rintro rfl; exact h2 (by decide))]
      rfl
/-! ### blank terms -/
theorem beq_z (t : Tm) : Tm.beq t zTm = true ↔ t.kind = 0 ∧ t.name = ByteArray.empty ∧ t.ty = zTy ∧ t.index = 0 ∧ t.sub.length = 0 := by
  obtain ⟨k, n, t, i, xs⟩ := t
  rw [Tm.beq, decide_eq_true_eq]
  simp only [zTm, Tm.cmp]
  have e0 : Tm.cmps xs [] = 0 := by cases xs <;> rfl
  have hd := Tm.hd_z k n t i xs.length 0 ByteArray.empty zTy 0 ([] : List Tm).length
  by_cases h : Tm.hd k n t i xs.length 0 ByteArray.empty zTy 0 ([] : List Tm).length = 0
  · rw [if_neg (fun q => q h), e0]
    have h' := hd.1 h
    refine ⟨fun _ => ⟨h'.1, ?_, h'.2.2.1, h'.2.2.2.1, h'.2.2.2.2⟩, fun _ => rfl⟩
    rcases h'.2.1 with q | q
    · have := h'.1; omega
    · exact q
  · rw [if_pos h]
    exact ⟨fun q => absurd q h, fun q => absurd (hd.2 ⟨q.1, .inr q.2.1, q.2.2.1, q.2.2.2.1, q.2.2.2.2⟩) h⟩
theorem ref29_Blank_eq (t : Tm) : sequentref29_Blank t = some (Tm.beq t zTm) := by
  have key : Tm.beq t zTm = (decide (t.kind = 0) && (decide (t.name = ByteArray.empty) && (!t.ty.v && (decide (t.ty.name = ByteArray.empty) && (decide (t.ty.args.length = 0) && (decide (t.index = 0) && decide (t.sub.length = 0))))))) := by
    rw [Bool.eq_iff_iff, beq_z]
    obtain ⟨k, n, ⟨v, m, ys⟩, i, xs⟩ := t
    simp only [zTy, Ty.mk.injEq, Bool.and_eq_true, decide_eq_true_eq, Bool.not_eq_true', List.length_eq_zero_iff]
    exact ⟨fun ⟨a, b, ⟨c, d, e⟩, f, g⟩ => ⟨a, b, c, d, e, f, g⟩, fun ⟨a, b, c, d, e, f, g⟩ => ⟨a, b, ⟨c, d, e⟩, f, g⟩⟩
  rw [key]
  unfold sequentref29_Blank
  simp only [Ty.Ds_len, Tm.Ds_len]
  by_cases c1 : t.kind = 0
  · rw [if_pos c1]
    by_cases c2 : t.name = ByteArray.empty
    · rw [if_pos c2]
      by_cases c3 : t.ty.v = true
      · rw [if_pos c3]; simp [c3]
      · rw [if_neg c3]
        by_cases c4 : t.ty.name = ByteArray.empty
        · rw [if_pos c4]
          by_cases c5 : t.ty.args.length = 0
          · rw [if_pos (by omega)]
            by_cases c6 : t.index = 0
            · rw [if_pos c6]; simp [c1, c2, c3, c4, c5, c6]
            · rw [if_neg c6]; simp [c6]
          · rw [if_neg (by omega)]; simp [c5]
        · rw [if_neg c4]; simp [c4]
    · rw [if_neg c2]; simp [c2]
  · rw [if_neg c1]; simp [c1]
theorem tactic_empty_eq (t : Tm) : tactic_empty t = some (Tm.beq t zTm) := by
  rw [tactic_empty, zTm_eq, terms_Same_beq, bs]
  by_cases h : Tm.beq t zTm = true
  · rw [if_pos h, h, decide_eq_true ((beq_z t).1 h).2.1]
  · rw [if_neg h]; simp [h]
/-! ### what is well-formed -/
def hdr (k p q : Int) (t : Tm) (n : Nat) : Bool := match look k with
  | none => false
  | some f => decide (f.least ≤ (n : Int)) && (decide ((n : Int) ≤ f.most) && ((f.at_ || decide (p = 0)) && ((f.to_ || decide (q = 0)) && (f.term || Tm.beq t zTm))))
mutual
def ATactic.shp : ATactic → Bool
  | .mk k p q t ks => hdr k p q t ks.length && ATactic.shps ks
def ATactic.shps : List ATactic → Bool
  | [] => true
  | a :: r => ATactic.shp a && ATactic.shps r
end
theorem ref29_shape_l (xs : List ATactic) (ih : ∀ x ∈ xs, sequentref29_shape x = some x.shp) : sequentref29_shape_l0 xs = some (ATactic.shps xs) := by
  induction xs with
  | nil => rw [sequentref29_shape_l0_eq]; rfl
  | cons x r ihr =>
    rw [sequentref29_shape_l0_eq]; simp only []
    rw [ih x (by simp), bs, ihr fun y hy => ih y (by simp [hy])]
    simp only [ATactic.shps]
    by_cases h : x.shp = true
    · rw [if_pos h, h]; rfl
    · rw [if_neg h]; simp [h]
theorem ref29_shape_j (k p q : Int) (t : Tm) (ks : List ATactic) (h : sequentref29_shape_l0 ks = some (ATactic.shps ks)) :
    sequentref29_shape_j0 (.mk k p q t ks) = some (((uA k || decide (p = 0)) && ((decide (k = 24) || decide (q = 0)) && (uT k || Tm.beq t zTm))) && ATactic.shps ks) := by
  rw [sequentref29_shape_j0_eq]
  simp only [ref29_usesAt_eq, bs, ref29_usesTerm_eq, ref29_Blank_eq, sequentref29_shape_j1_eq, h]
  generalize uA k = A, uT k = B, Tm.beq t zTm = C
  cases A <;> cases B <;> cases C <;> by_cases h4 : k = 24 <;> by_cases h5 : q = 0 <;> by_cases h6 : p = 0 <;> simp [h4, h5, h6]
theorem ref29_shape_eq2 : ∀ a : ATactic, sequentref29_shape a = some a.shp := by
  refine ATactic.ind fun k p q t xs ih => ?_
  rw [sequentref29_shape_eq]
  simp only [ref29_kids_eq, bs, ATactic.Ds_len, ATactic.shp, ref29_shape_j k p q t xs (ref29_shape_l xs ih)]
  have hk0 : -1 ≤ kd k := by unfold kd; repeat' split
                             all_goals omega
  unfold hdr look
  by_cases c1 : k = 51
  · subst c1
    have e : kd 51 = -1 := rfl
    have e1 : uA 51 = false := rfl
    have e2 : uT 51 = false := rfl
    rw [e, if_pos (by omega), if_neg (fun z => z rfl)]
    simp only [if_pos, e1, e2]
    by_cases d1 : (xs.length : Int) < 1
    · rw [if_pos d1]; simp; omega
    · rw [if_neg d1]
      by_cases d2 : (65 : Int) < (xs.length : Int)
      · rw [if_pos d2]; simp; omega
      · rw [if_neg d2, decide_eq_true (by omega : (1 : Int) ≤ (xs.length : Int)), decide_eq_true (by omega : (xs.length : Int) ≤ 65)]
        rfl
  · rw [if_neg c1, if_pos c1]
    by_cases c2 : 0 ≤ kd k
    · rw [if_pos c2]
      by_cases c3 : (xs.length : Int) = kd k
      · rw [if_neg (fun z => z c3)]
        simp only []
        rw [decide_eq_true (by omega : kd k ≤ (xs.length : Int)), decide_eq_true (by omega : (xs.length : Int) ≤ kd k)]
        rfl
      · rw [if_pos c3]
        simp only []
        by_cases c4 : kd k ≤ (xs.length : Int)
        · rw [decide_eq_false (by omega : ¬ (xs.length : Int) ≤ kd k)]; simp
        · rw [decide_eq_false c4]; simp
    · rw [if_neg c2, if_pos (by omega)]; simp
theorem formed_l {F : Option (List (Int × TacticForm))} (xs : List ATactic) (ih : ∀ x ∈ xs, ∀ d t : Int, 1 ≤ d → d ≤ 31 → 0 ≤ t → t ≤ 200 → ∃ r, tactic_formed x F d t = some r ∧ ((d + x.depth ≤ 31 ∧ t + x.size ≤ 200 ∧ x.shp = true) → r = (t + x.size, true)) ∧ (¬ (d + x.depth ≤ 31 ∧ t + x.size ≤ 200 ∧ x.shp = true) → r.2 = false)) :
    ∀ d t : Int, 1 ≤ d → d ≤ 30 → 0 ≤ t → t ≤ 200 → ∃ r, tactic_formed_l0 xs t F d = some r ∧ ((d + ATactic.depths xs ≤ 30 ∧ t + ATactic.sizes xs ≤ 200 ∧ ATactic.shps xs = true) → r = (t + ATactic.sizes xs, true)) ∧ (¬ (d + ATactic.depths xs ≤ 30 ∧ t + ATactic.sizes xs ≤ 200 ∧ ATactic.shps xs = true) → r.2 = false) := by
  induction xs with
  | nil =>
    intro d t h1 h2 h3 h4
    rw [tactic_formed_l0_eq]
    simp only [ATactic.depths, ATactic.sizes, ATactic.shps]
    exact ⟨_, rfl, fun _ => by simp, fun h => absurd ⟨by omega, by omega, trivial⟩ h⟩
  | cons x r ihr =>
    intro d t h1 h2 h3 h4
    rw [tactic_formed_l0_eq]; simp only []
    rw [wr (by omega) (by omega), bs]
    obtain ⟨u, g1, g2, g3⟩ := ih x (by simp) (d + 1) t (by omega) (by omega) h3 h4
    rw [g1, bs]
    have hp := x.size_pos
    simp only [ATactic.depths, ATactic.sizes, ATactic.shps, Bool.and_eq_true]
    by_cases hc : d + 1 + x.depth ≤ 31 ∧ t + x.size ≤ 200 ∧ x.shp = true
    · have e := g2 hc
      subst e
      obtain ⟨v, k1, k2, k3⟩ := ihr (fun y hy => ih y (by simp [hy])) d (t + x.size) h1 h2 (by omega) (by omega)
      rw [if_pos rfl, k1]
      obtain ⟨a1, a2, a3⟩ := hc
      refine ⟨v, rfl, fun ⟨b1, b2, b3, b4⟩ => ?_, fun hn => k3 fun ⟨b1, b2, b3⟩ => hn ⟨by omega, by omega, a3, b3⟩⟩
      rw [k2 ⟨by omega, by omega, b4⟩]
      congr 1
      omega
    · have e := g3 hc
      rw [if_neg (by simp [e])]
      exact ⟨_, rfl, fun ⟨b1, b2, b3, b4⟩ => absurd ⟨by omega, by omega, b3⟩ hc, fun _ => rfl⟩
theorem formed_j {F : Option (List (Int × TacticForm))} (f : TacticForm) (k p q : Int) (t : Tm) (ks : List ATactic) (d s : Int) (h0 : 0 ≤ s) (h1 : s ≤ 200) :
    tactic_formed_j0 true f.at_ f.to_ f.term f.least f.most (.mk k p q t ks) F d s = if (30 < d ∨ 200 < s + 1 ∨ (ks.length : Int) < f.least ∨ f.most < (ks.length : Int)) ∨ ((f.at_ || decide (p = 0)) && ((f.to_ || decide (q = 0)) && (f.term || Tm.beq t zTm))) = false then some (s + 1, false) else tactic_formed_l0 ks (s + 1) F d := by
  rw [tactic_formed_j0_eq, wr (by omega) (by omega), bs, if_pos rfl]
  simp only [ATactic.Ds_len, tactic_empty_eq, bs, tactic_formed_j1_eq]
  by_cases c1 : 30 < d
  · rw [if_pos c1, if_pos (.inl (.inl c1))]
  rw [if_neg c1]
  by_cases c2 : 200 < s + 1
  · rw [if_pos c2, if_pos (.inl (.inr (.inl c2)))]
  rw [if_neg c2]
  by_cases c3 : (ks.length : Int) < f.least
  · rw [if_pos c3, if_pos (.inl (.inr (.inr (.inl c3))))]
  rw [if_neg c3]
  by_cases c4 : f.most < (ks.length : Int)
  · rw [if_pos c4, if_pos (.inl (.inr (.inr (.inr c4))))]
  rw [if_neg c4]
  rcases fot f.at_ with h1 | h1 <;> rcases fot f.to_ with h2 | h2 <;> rcases fot f.term with h3 | h3 <;> rcases fot (Tm.beq t zTm) with h4 | h4 <;> by_cases h5 : q = 0 <;> by_cases h6 : p = 0 <;> simp [h1, h2, h3, h4, h5, h6, c1, c2, c3, c4]
theorem formed_eq {F : Option (List (Int × TacticForm))} (hF : ∀ k, mgetO F k = look k) : ∀ x : ATactic, ∀ d t : Int, 1 ≤ d → d ≤ 31 → 0 ≤ t → t ≤ 200 → ∃ r, tactic_formed x F d t = some r ∧ ((d + x.depth ≤ 31 ∧ t + x.size ≤ 200 ∧ x.shp = true) → r = (t + x.size, true)) ∧ (¬ (d + x.depth ≤ 31 ∧ t + x.size ≤ 200 ∧ x.shp = true) → r.2 = false) := by
  refine ATactic.ind fun k p q u xs ih => ?_
  intro d t h1 h2 h3 h4
  rw [tactic_formed_eq]
  simp only [hF, ATactic.depth, ATactic.size, ATactic.shp, hdr]
  cases hl : look k with
  | none =>
    simp only []
    rw [tactic_formed_j0_eq, wr (by omega) (by omega), bs, if_neg (by simp)]
    exact ⟨_, rfl, fun ⟨_, _, h⟩ => by simp at h, fun _ => rfl⟩
  | some f =>
    simp only []
    rw [formed_j f k p q u xs d t h3 h4]
    by_cases hc : (30 < d ∨ 200 < t + 1 ∨ (xs.length : Int) < f.least ∨ f.most < (xs.length : Int)) ∨ ((f.at_ || decide (p = 0)) && ((f.to_ || decide (q = 0)) && (f.term || Tm.beq u zTm))) = false
    · rw [if_pos hc]
      refine ⟨_, rfl, fun ⟨b1, b2, b3⟩ => ?_, fun _ => rfl⟩
      simp only [Bool.and_eq_true, decide_eq_true_eq] at b3
      rcases hc with hc | hc
      · omega
      · obtain ⟨⟨_, _, b6, b7, b8⟩, _⟩ := b3
        rw [b6, b7, b8] at hc; cases hc
    · rw [if_neg hc]
      simp only [not_or, Bool.not_eq_false] at hc
      obtain ⟨⟨d1, d2, d3, d4⟩, d5⟩ := hc
      obtain ⟨v, k1, k2, k3⟩ := formed_l xs ih d (t + 1) h1 (by omega) (by omega) (by omega)
      have e1 : decide (f.least ≤ (xs.length : Int)) = true := decide_eq_true (by omega)
      have e2 : decide ((xs.length : Int) ≤ f.most) = true := decide_eq_true (by omega)
      rw [k1, d5, e1, e2]
      simp only [Bool.true_and]
      refine ⟨v, rfl, fun ⟨b1, b2, b3⟩ => ?_, fun hn => k3 fun ⟨b1, b2, b3⟩ => hn ⟨by omega, by omega, b3⟩⟩
      rw [k2 ⟨by omega, by omega, b3⟩]
      congr 1
      omega
/-! ### the terms that a tactic uses -/
mutual
def ATactic.giv : ATactic → List Tm
  | .mk k p q t ks => (if uT k = true then [t] else []) ++ ATactic.givs ks
def ATactic.givs : List ATactic → List Tm
  | [] => []
  | a :: r => ATactic.giv a ++ ATactic.givs r
end
mutual
theorem ATactic.giv_len : ∀ a : ATactic, a.giv.length ≤ a.size
  | .mk k p q t ks => by
    have := ATactic.givs_len ks
    simp only [ATactic.giv, ATactic.size, List.length_append]
    split
    · simp only [List.length_cons, List.length_nil]; omega
    · simp only [List.length_nil]; omega
theorem ATactic.givs_len : ∀ a : List ATactic, (ATactic.givs a).length ≤ ATactic.sizes a
  | [] => Nat.le_refl _
  | a :: r => by
    have := ATactic.giv_len a
    have := ATactic.givs_len r
    simp only [ATactic.givs, ATactic.sizes, List.length_append]; omega
end
mutual
theorem ATactic.giv_fine : ∀ a : ATactic, a.fine → ∀ t ∈ a.giv, t.fine
  | .mk k p q u ks, h, t, ht => by
    simp only [ATactic.giv, List.mem_append] at ht
    rcases ht with ht | ht
    · split at ht
      · rw [List.mem_singleton] at ht; subst ht; exact h.1
      · cases ht
    · exact ATactic.givs_fine ks h.2 t ht
theorem ATactic.givs_fine : ∀ a : List ATactic, ATactic.fines a → ∀ t ∈ ATactic.givs a, t.fine
  | [], _, t, ht => by cases ht
  | a :: r, h, t, ht => by
    simp only [ATactic.givs, List.mem_append] at ht
    rcases ht with ht | ht
    · exact ATactic.giv_fine a h.1 t ht
    · exact ATactic.givs_fine r h.2 t ht
end
def ferr : List Tm → Int
  | [] => 0
  | a :: r => if a.checkT = 0 then ferr r else a.checkT
theorem ferr_y {a : Tm} {r : List Tm} (h : a.checkT = 0) : ferr (a :: r) = ferr r := if_pos h
theorem ferr_n {a : Tm} {r : List Tm} (h : ¬ a.checkT = 0) : ferr (a :: r) = a.checkT := if_neg h
theorem ferr_append : ∀ l m : List Tm, ferr (l ++ m) = if ferr l = 0 then ferr m else ferr l
  | [], m => (if_pos rfl).symm
  | a :: r, m => by
    rw [List.cons_append]
    by_cases h : a.checkT = 0
    · rw [ferr_y h, ferr_y h, ferr_append r m]
    · rw [ferr_n h, ferr_n h, if_neg h]
theorem given_l {F : Option (List (Int × TacticForm))} (xs : List ATactic) (ih : ∀ x ∈ xs, tactic_given__equality_CheckTerm x F = some (ferr x.giv)) : tactic_given__equality_CheckTerm_l0 xs F = some (ferr (ATactic.givs xs)) := by
  induction xs with
  | nil => rw [tactic_given__equality_CheckTerm_l0_eq]; rfl
  | cons x r ihr =>
    rw [tactic_given__equality_CheckTerm_l0_eq]; simp only []
    rw [ih x (by simp), bs, ihr fun y hy => ih y (by simp [hy])]
    simp only [ATactic.givs, ferr_append]
    by_cases h : ferr x.giv = 0
    · rw [if_neg (fun z => z h), if_pos h]
    · rw [if_pos h, if_neg h]
theorem given_eq {F : Option (List (Int × TacticForm))} (hF : ∀ k, mgetO F k = look k) : ∀ a : ATactic, a.fine → tactic_given__equality_CheckTerm a F = some (ferr a.giv) := by
  refine ATactic.ind fun k p q t xs ih => ?_
  rintro ⟨ht, hts⟩
  have hl := given_l xs fun x hx => ih x hx (ATactic.fines_mem hts x hx)
  have hj : tactic_given__equality_CheckTerm_j0 (.mk k p q t xs) F = some (ferr (ATactic.givs xs)) := by rw [tactic_given__equality_CheckTerm_j0_eq]; exact hl
  rw [tactic_given__equality_CheckTerm_eq]
  simp only [hF, hj, ATactic.giv, ferr_append, prog_CheckTerm_eq ht, bs]
  have e := look_term k
  have hv : ∀ b : Bool, b = uT k → (if b = true then (if ¬ t.checkT = 0 then some t.checkT else some (ferr (ATactic.givs xs))) else some (ferr (ATactic.givs xs))) = some (if ferr (if uT k = true then [t] else []) = 0 then ferr (ATactic.givs xs) else ferr (if uT k = true then [t] else [])) := by
    rintro b rfl
    by_cases h : uT k = true
    · rw [if_pos h, if_pos h]
      by_cases hc : t.checkT = 0
      · rw [if_neg (fun z => z hc), ferr_y hc]; rfl
      · rw [if_pos hc, ferr_n hc, if_neg hc]
    · rw [if_neg h, if_neg h]; rfl
  cases hlk : look k with
  | none => rw [hlk] at e; simp only [] at e ⊢; rw [← hv false e]; rfl
  | some f => rw [hlk] at e; simp only [] at e ⊢; exact hv f.term e
theorem Given_l (xs : List ATactic) (ih : ∀ x ∈ xs, ∀ l : List Tm, l.length + x.giv.length ≤ 1000 → sequentref29_Given_io l x = some (l ++ x.giv)) : ∀ l : List Tm, l.length + (ATactic.givs xs).length ≤ 1000 → sequentref29_Given_io_l0 xs l = some (l ++ ATactic.givs xs) := by
  induction xs with
  | nil => intro l _; rw [sequentref29_Given_io_l0_eq]; simp [ATactic.givs]
  | cons x r ihr =>
    intro l h
    simp only [ATactic.givs, List.length_append] at h
    rw [sequentref29_Given_io_l0_eq]; simp only []
    rw [ih x (by simp) l (by omega), bs, ihr (fun y hy => ih y (by simp [hy])) _ (by simp only [List.length_append]; omega)]
    simp [ATactic.givs]
theorem Given_eq2 : ∀ a : ATactic, ∀ l : List Tm, l.length + a.giv.length ≤ 1000 → sequentref29_Given_io l a = some (l ++ a.giv) := by
  refine ATactic.ind fun k p q t xs ih => ?_
  intro l h
  rw [sequentref29_Given_io_eq]
  simp only [ref29_usesTerm_eq, bs, sequentref29_Given_io_j0_eq, ATactic.giv, List.length_append] at h ⊢
  by_cases hu : uT k = true
  · rw [if_pos hu] at h ⊢
    simp only [List.length_cons, List.length_nil] at h
    rw [app_eq (by simp only [List.length_cons, List.length_nil]; omega), bs, Given_l xs ih _ (by simp only [List.length_append, List.length_cons, List.length_nil]; omega), if_pos hu]
    simp
  · rw [if_neg hu] at h ⊢
    rw [Given_l xs ih _ (by omega), if_neg hu]
    simp
theorem Check_l (l : List Tm) (hf : ∀ x ∈ l, x.fine) (hn : l.length ≤ 1000) : ∀ j k : Nat, k + j = l.length → sequentref29_Check_l0 k l = some (ferr (l.drop k)) := by
  intro j
  induction j with
  | zero => intro k h; rw [sequentref29_Check_l0_eq, if_neg (by simp only [Tm.Ds_len]; omega), List.drop_eq_nil_of_le (by omega)]; rfl
  | succ j ih =>
    intro k h
    obtain ⟨y, g1, g2⟩ := geti_drop (l := l) (k := k) (n := j) h
    have hy : y.fine := hf y (List.mem_of_mem_drop (by rw [g2]; simp : y ∈ l.drop k))
    have hn' := ih (k + 1) (by omega)
    rw [show ((k + 1 : Nat) : Int) = (k : Int) + 1 from rfl] at hn'
    rw [sequentref29_Check_l0_eq, if_pos (by simp only [Tm.Ds_len]; omega), g1, bs, ref2_Check_eq y hy.1 hy.lim hy.2.1, bs, g2]
    simp only [ferr, Tm.checkT, g1, bs, sequentref28_Big, wr (by omega : -9223372036854775808 ≤ (k : Int) + 1) (by omega), hn']
    by_cases hc : y.check = 0
    · simp only [if_pos hc, ref_Fits_eq hy hc, bs]
      rcases fot y.fits with hb | hb
      · simp [hb]
      · simp [hb, hc]
    · simp only [if_neg hc]
      rw [if_pos hc]
/-! ### sizes -/
theorem ref29_Size_l (xs : List ATactic) (ih : ∀ x ∈ xs, sequentref29_Size x = some (x.size : Int)) : ∀ m : Nat, m + ATactic.sizes xs ≤ 1000 → sequentref29_Size_l0 xs m = some ((m + ATactic.sizes xs : Nat) : Int) := by
  induction xs with
  | nil => intro m _; rw [sequentref29_Size_l0_eq]; simp [ATactic.sizes]
  | cons x r ihr =>
    intro m h
    simp only [ATactic.sizes] at h ⊢
    rw [sequentref29_Size_l0_eq]; simp only []
    rw [ih x (by simp), bs, wr (by omega) (by omega), bs]
    have := ihr (fun y hy => ih y (by simp [hy])) (m + x.size) (by omega)
    rw [show ((m + x.size : Nat) : Int) = (m : Int) + x.size from by omega] at this
    rw [this, Nat.add_assoc]
theorem ref29_Size_eq2 : ∀ a : ATactic, a.size ≤ 400 → sequentref29_Size a = some (a.size : Int) := by
  refine ATactic.ind fun k p q t xs ih => ?_
  intro h
  simp only [ATactic.size] at h ⊢
  rw [sequentref29_Size_eq]
  exact ref29_Size_l xs (fun x hx => ih x hx (by have := ATactic.size_mem hx; omega)) 1 (by omega)
mutual
theorem ATactic.depth_size : ∀ a : ATactic, a.depth ≤ a.size
  | .mk k p q t xs => by have := ATactic.depths_sizes xs; simp only [ATactic.depth, ATactic.size]; omega
theorem ATactic.depths_sizes : ∀ xs : List ATactic, ATactic.depths xs ≤ ATactic.sizes xs
  | [] => Nat.le_refl _
  | a :: r => by have := ATactic.depth_size a; have := ATactic.depths_sizes r; simp only [ATactic.depths, ATactic.sizes]; omega
end
theorem ref29_Depth_l (xs : List ATactic) (ih : ∀ x ∈ xs, sequentref29_Depth x = some (x.depth : Int)) : ∀ d : Nat, d ≤ 1000 → ATactic.depths xs ≤ 1000 → sequentref29_Depth_l0 xs d = some ((1 + max d (ATactic.depths xs) : Nat) : Int) := by
  induction xs with
  | nil => intro d h _; rw [sequentref29_Depth_l0_eq]; simp only []; rw [wr (by omega) (by omega), bs]; simp only [ATactic.depths]; congr 1; omega
  | cons x r ihr =>
    intro d h h'
    simp only [ATactic.depths] at h' ⊢
    rw [sequentref29_Depth_l0_eq]; simp only []
    rw [ih x (by simp), bs]
    have := ihr (fun y hy => ih y (by simp [hy])) (max d x.depth) (by omega) (by omega)
    rw [show ((max d x.depth : Nat) : Int) = max (d : Int) x.depth from by omega] at this
    rw [this]
    congr 1
    omega
theorem ref29_Depth_eq2 : ∀ a : ATactic, a.size ≤ 400 → sequentref29_Depth a = some (a.depth : Int) := by
  refine ATactic.ind fun k p q t xs ih => ?_
  intro h
  have hd := ATactic.depths_sizes xs
  simp only [ATactic.size, ATactic.depth] at h ⊢
  rw [sequentref29_Depth_eq]
  have := ref29_Depth_l xs (fun x hx => ih x hx (by have := ATactic.size_mem hx; omega)) 0 (by omega) (by omega)
  simpa using this
/-! ### the check, and the statement -/
def ATactic.chk (a : ATactic) : Int := if a.size ≤ 200 ∧ a.depth ≤ 30 ∧ a.shp = true then ferr a.giv else 8
theorem ref29_Check_eq2 (a : ATactic) (hs : a.size ≤ 400) (hf : a.fine) : sequentref29_Check a = some a.chk := by
  have hg := a.giv_len
  rw [sequentref29_Check, ref29_Size_eq2 a hs, bs, ATactic.chk]
  by_cases h1 : a.size ≤ 200
  · rw [if_neg (by omega), ref29_Depth_eq2 a hs, bs]
    by_cases h2 : a.depth ≤ 30
    · rw [if_neg (by omega), ref29_shape_eq2, bs]
      by_cases h3 : a.shp = true
      · rw [if_pos h3, if_pos ⟨h1, h2, h3⟩, Given_eq2 a [] (by simp only [List.length_nil]; omega), bs]
        have := Check_l ([] ++ a.giv) (by simpa using ATactic.giv_fine a hf) (by simp; omega) ([] ++ a.giv).length 0 (by simp)
        simpa using this
      · rw [if_neg h3, if_neg (fun h => h3 h.2.2)]
    · rw [if_pos (by omega), if_neg (fun h => h2 h.2.1)]
  · rw [if_pos (by omega), if_neg (fun h => h1 h.1)]
theorem prog29_Check_eq2 (a : ATactic) (hf : a.fine) : tactic_Check a = some a.chk := by
  obtain ⟨F, h1, hF⟩ := tactic_forms_eq2
  obtain ⟨r, g1, g2, g3⟩ := formed_eq hF a 1 0 (by omega) (by omega) (by omega) (by omega)
  rw [tactic_Check, h1, bs, g1, bs, ATactic.chk]
  by_cases h : a.size ≤ 200 ∧ a.depth ≤ 30 ∧ a.shp = true
  · rw [g2 ⟨by omega, by omega, h.2.2⟩, if_pos rfl, if_pos h, given_eq hF a hf, bs]
  · rw [if_neg h]
    have e := g3 fun q => h ⟨by omega, by omega, q.2.2⟩
    rw [if_neg (by simp [e])]
theorem law29_l1 (a : ATactic) (b : Bool) (v : ATactic) : ∀ (j k : Nat) (arr : List Tm), k + j = arr.length → arr.length ≤ 2000000000 → sequentlaw29_TacticChecks_l1 k arr a b v = if b = true then sequentref29_Same v a else some false := by
  intro j
  induction j with
  | zero =>
    intro k arr h hn
    rw [sequentlaw29_TacticChecks_l1_eq, if_neg (by omega)]
    split
    · cases sequentref29_Same v a <;> rfl
    · rfl
  | succ j ih =>
    intro k arr h hn
    obtain ⟨y, g1, g2⟩ := geti_drop (l := arr) (k := k) (n := j) h
    rw [sequentlaw29_TacticChecks_l1_eq, if_pos (by omega), wantb, if_pos (by omega), bs, g1, bs, seti_nat (by omega), bs, wr (by omega) (by omega), bs]
    exact ih (k + 1) _ (by simp only [List.length_set]; omega) (by simpa using hn)
theorem law29_l0 (a : ATactic) (b : Bool) (v : ATactic) (w : (Int × Int × Int × Int × ByteArray × Bool × ByteArray × (List Ty) × Int × (List Tm) × (List ATactic))) : ∀ (j k : Nat) (arr : List ATactic), k + j = arr.length → arr.length ≤ 2000000000 → sequentlaw29_TacticChecks_l0 k arr a b v w = sequentlaw29_TacticChecks_l1 0 w.2.2.2.2.2.2.2.2.2.1 a b v := by
  intro j
  induction j with
  | zero => intro k arr h hn; rw [sequentlaw29_TacticChecks_l0_eq, if_neg (by omega)]
  | succ j ih =>
    intro k arr h hn
    obtain ⟨y, g1, g2⟩ := geti_drop (l := arr) (k := k) (n := j) h
    rw [sequentlaw29_TacticChecks_l0_eq, if_pos (by omega), wantb, if_pos (by omega), bs, g1, bs, seti_nat (by omega), bs, wr (by omega) (by omega), bs]
    exact ih (k + 1) _ (by simp only [List.length_set]; omega) (by simpa using hn)
theorem TacticChecks_law (a u : ATactic) (ha : a.ok) (hu : u.ok) : sequentlaw29_TacticChecks a u = some true := by
  obtain ⟨b1, g1, g2⟩ := Great29 a ha
  obtain ⟨b2, k1, k2⟩ := Great29 u hu
  rw [sequentlaw29_TacticChecks, g1, bs]
  rcases fot b1 with rfl | rfl
  · obtain ⟨hs, hf⟩ := g2 rfl
    rw [if_neg (by simp), k1, bs]
    rcases fot b2 with rfl | rfl
    · rw [if_neg (by simp), ref29_Twin_eq2 a hs hf, bs, prog29_Check_eq2 a hf, bs, prog29_Twin_ar_eq2 a hs hf, bs, ref29_Check_eq2 a hs hf, bs, if_pos rfl]
      have e : (ATactic.mk a.kind a.at_ a.to_ (Tm.mk a.term.kind a.term.name (Ty.mk a.term.ty.v a.term.ty.name a.term.ty.args) a.term.index a.term.sub) a.kids) = a := by
        obtain ⟨k, p, q, ⟨k', n, ⟨v, m, ys⟩, i, zs⟩, ks⟩ := a; rfl
      simp only []
      rw [e, ref29_Same_eq2 a ha, bs, ATactic.beq_self, if_pos rfl, prog29_Same_eq2, bs, ref29_Same_eq2 a ha, bs, if_pos rfl, prog29_Same_eq2, bs, ATactic.beq_self, sequentlaw29_TacticChecks_j0]
      have hk : a.kids.length ≤ 400 := by
        obtain ⟨k, p, q, t, ks⟩ := a
        have := ATactic.len_sizes ks
        simp only [ATactic.size] at hs
        show ks.length ≤ 400
        omega
      have hz : a.term.sub.length ≤ 100000 := by
        obtain ⟨k, p, q, ⟨k', n, ty, i, zs⟩, ks⟩ := a
        have h3 := hf.1.2.2
        have := Tm.len_sizes zs
        simp only [Tm.size] at h3
        show zs.length ≤ 100000
        omega
      have l0 := law29_l0 a true a (a.kind, a.at_, a.to_, a.term.kind, a.term.name, a.term.ty.v, a.term.ty.name, a.term.ty.args, a.term.index, a.term.sub, a.kids) a.kids.length 0 a.kids (by omega) (by omega)
      have l1 := law29_l1 a true a a.term.sub.length 0 a.term.sub (by omega) (by omega)
      rw [show ((0 : Nat) : Int) = 0 from rfl] at l0 l1
      rw [l0, l1, if_pos rfl, ref29_Same_eq2 a ha, ATactic.beq_self]
    · rw [if_pos rfl]
  · rw [if_pos rfl]
end Go.Proofs.Ytdjmibbgoajcaaa.Fw

