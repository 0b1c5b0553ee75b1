/- Destructors; LogicTerms. -/
import Derived.Test.YtdjmibbgoajcaaaM5
set_option autoImplicit false
set_option linter.unusedVariables false
set_option linter.unusedSimpArgs false
namespace Go.Proofs.Ytdjmibbgoajcaaa.Fw
open Go Go.Proofs

theorem Tm.sub_fine {a : Tm} (h : a.fine) {x : Tm} (hx : x ∈ a.sub) : x.fine := by
  obtain ⟨k, n, t, i, xs⟩ := a
  obtain ⟨⟨_, _, _, _, _, ho⟩, ⟨_, ht⟩, hs⟩ := h
  simp only [Tm.size] at hs
  have hx : x ∈ xs := hx
  have := Tm.size_mem hx
  exact ⟨Tm.oks_mem ho x hx, Tm.tyss_mem ht x hx, by omega⟩

def spine (a : Tm) : Option (Tm × Tm) := if a.kind = 4 then (match a.sub with | [f, x] => some (f, x) | _ => none) else none
theorem spine_some {a f x : Tm} (h : spine a = some (f, x)) : a.kind = 4 ∧ a.sub = [f, x] := by
  unfold spine at h
  split at h
  · refine ⟨‹_›, ?_⟩
    split at h
    · rename_i hh; injection h with h; injection h with h1 h2; subst h1; subst h2; exact hh
    · cases h
  · cases h
theorem spine_none {a : Tm} (h : spine a = none) : ¬ a.kind = 4 ∨ ¬ ((Tm.Ds a.sub).length : Int) = 2 := by
  unfold spine at h
  split at h
  · right
    split at h
    · cases h
    · rename_i hne
      rw [Tm.Ds_len]
      intro hl
      have hl : a.sub.length = 2 := by omega
      match hs : a.sub, hl with
      | [f, x], _ => exact hne f x hs
  · exact .inl ‹_›

theorem args_step {a : Tm} (h : a.fine) {arr : List Tm} {op : ByteArray} {i : Nat} (hi : i < arr.length) (hb : arr.length ≤ 10) :
    prove_Args_l0 i a.kind a.name a.sub arr op = match spine a with
      | none => some ([], false)
      | some (f, x) => prove_Args_l0 ((i : Int) - 1) f.kind f.name f.sub (arr.set i x) op := by
  rw [prove_Args_l0_eq, if_pos (by omega)]
  cases hs : spine a with
  | none =>
    rcases spine_none hs with h1 | h1
    · rw [if_pos h1]
    · by_cases h2 : a.kind = 4
      · rw [if_neg (fun k => k h2), if_pos h1]
      · rw [if_pos h2]
  | some p =>
    obtain ⟨f, x⟩ := p
    obtain ⟨h1, h2⟩ := spine_some hs
    have hx := Tm.sub_fine h (x := x) (by rw [h2]; simp)
    rw [if_neg (fun k => k h1), if_neg (by rw [h2, Tm.Ds_len]; simp), h2]
    simp only [(geti_two f x).1, (geti_two f x).2, bs]
    rw [terms_Twin_eq2 x hx.lim hx.2.1, bs, wantb, if_pos (by omega), bs, seti_nat hi, bs, wr (by omega) (by omega)]
theorem args_end (a : Tm) (arr : List Tm) (op : ByteArray) : prove_Args_l0 (-1) a.kind a.name a.sub arr op = some (arr, decide (a.kind = 2) && decide (a.name = op)) := by
  rw [prove_Args_l0_eq, if_neg (by omega)]
  by_cases h : a.kind = 2 <;> simp [h]
theorem dest_step {a : Tm} (h : a.fine) {acc : List Tm} {op : ByteArray} {i m : Int} (hi : i < m) (hm : m ≤ 10) (h0 : 0 ≤ i) (hb : acc.length ≤ 10) :
    sequentref09_Dest_l0 acc i a.kind a.name a.sub op m = match spine a with
      | none => some ([], false)
      | some (f, x) => sequentref09_Dest_l0 (x :: acc) (i + 1) f.kind f.name f.sub op m := by
  rw [sequentref09_Dest_l0_eq, if_pos hi]
  cases hs : spine a with
  | none =>
    rcases spine_none hs with h1 | h1
    · rw [if_pos h1]
    · by_cases h2 : a.kind = 4
      · rw [if_neg (fun k => k h2), if_pos h1]
      · rw [if_pos h2]
  | some p =>
    obtain ⟨f, x⟩ := p
    obtain ⟨h1, h2⟩ := spine_some hs
    have hx := Tm.sub_fine h (x := x) (by rw [h2]; simp)
    rw [if_neg (fun k => k h1), if_neg (by rw [h2, Tm.Ds_len]; simp), h2]
    simp only [(geti_two f x).1, (geti_two f x).2, bs]
    rw [ref2_Twin_eq x hx.lim hx.2.1, bs, app_eq (by simp; omega), bs, wr (by omega) (by omega)]
    rfl
theorem dest_end (a : Tm) (acc : List Tm) (op : ByteArray) (m : Int) : sequentref09_Dest_l0 acc m a.kind a.name a.sub op m = some (if a.kind = 2 ∧ a.name = op then (acc, true) else ([], false)) := by
  rw [sequentref09_Dest_l0_eq, if_neg (by omega)]
  by_cases h : a.kind = 2 <;> by_cases h2 : a.name = op <;> simp [h, h2]

/-- what the destructors of two arguments, of one, find -/
def des2 (a : Tm) (op : ByteArray) : Option (Tm × Tm) := (spine a).bind fun p => (spine p.1).bind fun q => if q.1.kind = 2 ∧ q.1.name = op then some (q.2, p.2) else none
def des1 (a : Tm) (op : ByteArray) : Option Tm := (spine a).bind fun p => if p.1.kind = 2 ∧ p.1.name = op then some p.2 else none
theorem spine_fine {a f x : Tm} (h : a.fine) (hs : spine a = some (f, x)) : f.fine ∧ x.fine := by
  have h2 := (spine_some hs).2
  exact ⟨Tm.sub_fine h (by rw [h2]; simp), Tm.sub_fine h (by rw [h2]; simp)⟩
theorem des2_fine {a : Tm} {op : ByteArray} {x y : Tm} (h : a.fine) (hd : des2 a op = some (x, y)) : x.fine ∧ y.fine := by
  unfold des2 at hd
  cases hs : spine a with
  | none => rw [hs] at hd; cases hd
  | some p =>
    obtain ⟨f, y'⟩ := p
    rw [hs] at hd
    simp only [Option.bind_some] at hd
    obtain ⟨hf, hy⟩ := spine_fine h hs
    cases hs2 : spine f with
    | none => rw [hs2] at hd; cases hd
    | some q =>
      obtain ⟨c, x'⟩ := q
      rw [hs2] at hd
      simp only [Option.bind_some] at hd
      split at hd
      · injection hd with hd; injection hd with e1 e2; subst e1; subst e2; exact ⟨(spine_fine hf hs2).2, hy⟩
      · cases hd
theorem des1_fine {a : Tm} {op : ByteArray} {x : Tm} (h : a.fine) (hd : des1 a op = some x) : x.fine := by
  unfold des1 at hd
  cases hs : spine a with
  | none => rw [hs] at hd; cases hd
  | some p =>
    obtain ⟨f, y'⟩ := p
    rw [hs] at hd
    simp only [Option.bind_some] at hd
    split at hd
    · injection hd with hd; subst hd; exact (spine_fine h hs).2
    · cases hd
theorem args2 {a : Tm} (h : a.fine) (op : ByteArray) : ∃ l, prove_Args a op 2 = some (l, (des2 a op).isSome) ∧ ∀ x y, des2 a op = some (x, y) → l = [x, y] := by
  rw [prove_Args, show mkn (Tm.mk 0 ByteArray.empty (Ty.mk false ByteArray.empty []) 0 []) 2 = some [zTm, zTm] from rfl, bs, wr (by omega) (by omega), bs]
  rw [show ((2 : Int) - 1) = ((1 : Nat) : Int) from rfl, args_step h (by simp) (by simp)]
  unfold des2
  cases hs : spine a with
  | none => exact ⟨[], rfl, fun x y e => by cases e⟩
  | some p =>
    obtain ⟨f, y⟩ := p
    have hf := (spine_fine h hs).1
    simp only [Option.bind_some]
    rw [show (((1 : Nat) : Int) - 1) = ((0 : Nat) : Int) from rfl, args_step hf (by simp) (by simp)]
    cases hs2 : spine f with
    | none => exact ⟨[], rfl, fun x y e => by cases e⟩
    | some q =>
      obtain ⟨c, x⟩ := q
      simp only [Option.bind_some]
      rw [show (((0 : Nat) : Int) - 1) = -1 from rfl, args_end]
      refine ⟨[x, y], ?_, fun x' y' e => ?_⟩
      · by_cases h1 : c.kind = 2 <;> by_cases h2 : c.name = op <;> simp [h1, h2]
      · split at e
        · injection e with e; injection e with e1 e2; subst e1; subst e2; rfl
        · cases e
theorem args1 {a : Tm} (h : a.fine) (op : ByteArray) : ∃ l, prove_Args a op 1 = some (l, (des1 a op).isSome) ∧ ∀ x, des1 a op = some x → l = [x] := by
  rw [prove_Args, show mkn (Tm.mk 0 ByteArray.empty (Ty.mk false ByteArray.empty []) 0 []) 1 = some [zTm] from rfl, bs, wr (by omega) (by omega), bs]
  rw [show ((1 : Int) - 1) = ((0 : Nat) : Int) from rfl, args_step h (by simp) (by simp)]
  unfold des1
  cases hs : spine a with
  | none => exact ⟨[], rfl, fun x e => by cases e⟩
  | some p =>
    obtain ⟨c, x⟩ := p
    simp only [Option.bind_some]
    rw [show (((0 : Nat) : Int) - 1) = -1 from rfl, args_end]
    refine ⟨[x], ?_, fun x' e => ?_⟩
    · by_cases h1 : c.kind = 2 <;> by_cases h2 : c.name = op <;> simp [h1, h2]
    · split at e
      · injection e with e; subst e; rfl
      · cases e
theorem dest2 {a : Tm} (h : a.fine) (op : ByteArray) : sequentref09_Dest a op 2 = some (match des2 a op with | some (x, y) => ([x, y], true) | none => ([], false)) := by
  rw [sequentref09_Dest, dest_step h (by omega) (by omega) (by omega) (by simp)]
  unfold des2
  cases hs : spine a with
  | none => rfl
  | some p =>
    obtain ⟨f, y⟩ := p
    have hf := (spine_fine h hs).1
    simp only [Option.bind_some]
    rw [dest_step hf (by omega) (by omega) (by omega) (by simp)]
    cases hs2 : spine f with
    | none => rfl
    | some q =>
      obtain ⟨c, x⟩ := q
      simp only [Option.bind_some]
      rw [show ((0 : Int) + 1 + 1) = 2 from rfl, dest_end]
      split <;> simp_all
theorem dest1 {a : Tm} (h : a.fine) (op : ByteArray) : sequentref09_Dest a op 1 = some (match des1 a op with | some x => ([x], true) | none => ([], false)) := by
  rw [sequentref09_Dest, dest_step h (by omega) (by omega) (by omega) (by simp)]
  unfold des1
  cases hs : spine a with
  | none => rfl
  | some p =>
    obtain ⟨c, x⟩ := p
    simp only [Option.bind_some]
    rw [show ((0 : Int) + 1) = 1 from rfl, dest_end]
    split <;> simp_all
theorem pair_eq {a : Tm} (h : a.fine) (op : ByteArray) : logic_pair a op = some (match des2 a op with | some (x, y) => (x, y, true) | none => (zTm, zTm, false)) := by
  obtain ⟨l, h1, h2⟩ := args2 h op
  rw [logic_pair, h1, bs]
  cases hd : des2 a op with
  | none => rfl
  | some p =>
    obtain ⟨x, y⟩ := p
    rw [h2 x y hd]
    rfl
theorem not_eq {a : Tm} (h : a.fine) : logic_DestNot a = some (match des1 a ⟨#[126]⟩ with | some x => (x, true) | none => (zTm, false)) := by
  obtain ⟨l, h1, h2⟩ := args1 h ⟨#[126]⟩
  rw [logic_DestNot, h1, bs]
  cases hd : des1 a ⟨#[126]⟩ with
  | none => rfl
  | some x => rw [h2 x hd]; rfl

/-! ### the statement -/
theorem Tm.cmp_self : ∀ a : Tm, Tm.cmp a a = 0 := by
  refine Tm.ind fun k n t i xs ih => ?_
  have h0 : ∀ z : Int, icmp z z = 0 := fun z => by unfold icmp; simp
  have hn : ncmp n n = 0 := by unfold ncmp; simp
  have ht : Ty.cmp t t = 0 := (Ty.cmp_zero t t).2 rfl
  have hl : ∀ l : List Tm, (∀ x ∈ l, Tm.cmp x x = 0) → Tm.cmps l l = 0 := by
    intro l
    induction l with
    | nil => intro _; rfl
    | cons x r ihr => intro h; simp only [Tm.cmps, h x (by simp), ihr fun y hy => h y (by simp [hy])]; simp
  simp only [Tm.cmp, Tm.hd, h0, hn, ht, ors, hl xs ih]
  simp
theorem Tm.beq_self (a : Tm) : Tm.beq a a = true := by simp [Tm.beq, Tm.cmp_self]
theorem same_self {a : Tm} (h : a.ok) : sequentref02_Same a a = some true := by rw [ref2_Same_eq a a h, Tm.beq_self]
theorem sameTerms_eq {a : Tm} (h : a.fine) (op : ByteArray) : (logic_pair a op >>= fun v => sequentref09_Dest a op 2 >>= fun w => sequentlaw09_sameTerms v.1 v.2.1 v.2.2 w.1 w.2) = some true := by
  rw [pair_eq h, bs, dest2 h, bs]
  cases hd : des2 a op with
  | none => simp only [sequentlaw09_sameTerms, zTm_eq]; simp [same_self zTm_fine.1, bs]
  | some p =>
    obtain ⟨x, y⟩ := p
    obtain ⟨hx, hy⟩ := des2_fine h hd
    simp only [sequentlaw09_sameTerms, (geti_two x y).1, (geti_two x y).2, bs]
    simp [same_self hx.1, same_self hy.1, bs]
theorem Tm.counts_pos (d : Nat) : ∀ (xs : List Tm) (l : Int), 0 < Tm.counts d l xs → ∀ x ∈ xs, ∃ l', 0 < Tm.count d l' x := by
  intro xs
  induction xs with
  | nil => intro l _ x hx; cases hx
  | cons a r ih =>
    intro l h x hx
    simp only [Tm.counts] at h
    split at h
    · have h1 : 0 < Tm.count d l a := by
        by_cases h1 : 0 < Tm.count d l a
        · exact h1
        · rw [Tm.counts_stop d _ r h1] at h; omega
      rcases List.mem_cons.1 hx with rfl | hx
      · exact ⟨l, h1⟩
      · exact ih _ h x hx
    · omega
theorem Tm.tyss_of {xs : List Tm} (h : ∀ x ∈ xs, x.tys) : Tm.tyss xs := by
  induction xs with
  | nil => trivial
  | cons a r ih => exact ⟨h a (by simp), ih fun x hx => h x (by simp [hx])⟩
theorem Tm.count_tys : ∀ (d : Nat) (l : Int) (a : Tm), 0 < Tm.count d l a → a.tys := by
  intro d
  induction d with
  | zero => intro l a h; simp only [Tm.count] at h; omega
  | succ d ih =>
    rintro l ⟨k, n, t, i, xs⟩ h
    simp only [Tm.count] at h
    split at h
    · omega
    · rename_i hg
      have := (Ty.great_size t (by simpa using hg)).1
      exact ⟨by simp only [tlim]; omega, Tm.tyss_of fun x hx => let ⟨l', h'⟩ := Tm.counts_pos d xs _ h x hx; ih l' x h'⟩
theorem Tm.great_fine {a : Tm} (h : a.ok) (hg : a.great = false) : a.fine := by
  simp only [Tm.great, Bool.and_eq_false_iff, Bool.not_eq_false', decide_eq_true_eq, Bool.or_eq_false_iff, decide_eq_false_iff_not] at hg
  rcases hg with hg | ⟨hg, _⟩
  · have := (Tm.count_size 400 2000 a hg).1
    exact ⟨h, Tm.count_tys _ _ _ hg, by omega⟩
  · have := (Tm.count_size 400 40000 a (by omega)).1
    exact ⟨h, Tm.count_tys 400 40000 a (by omega), by omega⟩

theorem law_great_l (xs : List Tm) (h : ∀ x ∈ xs, x.ok) : sequentlaw09_great_l1 xs = some (xs.any Tm.great) := by
  induction xs with
  | nil => rw [sequentlaw09_great_l1_eq]; rfl
  | cons x r ih =>
    rw [sequentlaw09_great_l1_eq]
    simp only []
    rw [ref2_Great_eq x (h x (by simp)), bs, ih fun y hy => h y (by simp [hy])]
    rcases fot x.great with hg | hg <;> simp [hg]
theorem law_great (xs : List Tm) (h : ∀ x ∈ xs, x.ok) : sequentlaw09_great [] xs = some (xs.any Tm.great) := by
  rw [sequentlaw09_great, sequentlaw09_great_l0_eq]
  exact law_great_l xs h
theorem mk1_fine {p : Tm} (hp : p.fine) : (mk1 ⟨#[126]⟩ p).1.ok := by
  unfold mk1
  split
  · exact zTm_fine.1
  · split
    · exact zTm_fine.1
    · split
      · exact ⟨by decide, by decide, ⟨by decide, by decide, trivial⟩, by decide, (by decide : 2 ≤ big), (con_fine (n := ⟨#[126]⟩) (by decide) T1_ok (by decide)).1, hp.1, trivial⟩
      · exact zTm_fine.1
theorem mk2_fine {op : ByteArray} (h0 : op.size ≤ big) {p q : Tm} (hp : p.fine) (hq : q.fine) : (mk2 op p q).1.ok := by
  unfold mk2
  repeat' split
  all_goals first
    | exact zTm_fine.1
    | exact ⟨by decide, by decide, ⟨by decide, by decide, trivial⟩, by decide, (by decide : 2 ≤ big), ⟨by decide, by decide, ⟨by decide, by decide, trivial⟩, by decide, (by decide : 2 ≤ big), (con_fine h0 T2_ok (by decide)).1, hp.1, trivial⟩, hq.1, trivial⟩
theorem LogicTerms_law (p q : Tm) (hp : p.ok) (hq : q.ok) : sequentlaw09_LogicTerms p q = some true := by
  rw [sequentlaw09_LogicTerms, law_great [p, q] (by simp [hp, hq]), bs]
  by_cases hg : ([p, q].any Tm.great) = true
  · rw [if_pos hg]
  rw [if_neg hg]
  simp only [List.any_cons, List.any_nil, Bool.or_false, Bool.or_eq_true, not_or, Bool.not_eq_true] at hg
  have fp := Tm.great_fine hp hg.1
  have fq := Tm.great_fine hq hg.2
  have ha : (⟨#[38]⟩ : ByteArray).size ≤ big := by decide
  have ho : (⟨#[124]⟩ : ByteArray).size ≤ big := by decide
  have hi : (⟨#[61, 61, 62]⟩ : ByteArray).size ≤ big := by decide
  have hn : (⟨#[126]⟩ : ByteArray).size ≤ big := by decide
  have ca : cname ⟨#[38]⟩ = true := by decide
  have co : cname ⟨#[124]⟩ = true := by decide
  have ci : cname ⟨#[61, 61, 62]⟩ = true := by decide
  have cn : cname ⟨#[126]⟩ = true := by decide
  have e1 : logic_MkAnd p q = some (mk2 ⟨#[38]⟩ p q) := by rw [logic_MkAnd, prove_Binary_eq, bs, connect2 ha ca fp fq, bs]
  have e2 : logic_MkOr p q = some (mk2 ⟨#[124]⟩ p q) := by rw [logic_MkOr, prove_Binary_eq, bs, connect2 ho co fp fq, bs]
  have e3 : logic_MkImp p q = some (mk2 ⟨#[61, 61, 62]⟩ p q) := by rw [logic_MkImp, prove_Binary_eq, bs, connect2 hi ci fp fq, bs]
  have e4 : logic_MkNot p = some (mk1 ⟨#[126]⟩ p) := by
    rw [logic_MkNot, show prove_Bool = some Ty.bool from rfl, bs, bs, types_Fun_eq _ _ bool_lim bool_lim, bs, show Ty.fn Ty.bool Ty.bool = T1 from rfl, connect1 hn cn fp, bs]
  rw [e1, bs, make2 ha ca fp fq, bs, e2, bs, make2 ho co fp fq, bs, e3, bs, make2 hi ci fp fq, bs, e4, bs, make1 fp, bs]
  rw [same_self (mk2_fine ha fp fq), bs, if_pos rfl, if_neg (fun h => h rfl), same_self (mk2_fine ho fp fq), bs, if_pos rfl, if_neg (fun h => h rfl), same_self (mk2_fine hi fp fq), bs, if_pos rfl, if_neg (fun h => h rfl), same_self (mk1_fine fp), bs, if_pos rfl, if_neg (fun h => h rfl)]
  have s1 := sameTerms_eq fp ⟨#[38]⟩
  have s2 := sameTerms_eq fp ⟨#[124]⟩
  have s3 := sameTerms_eq fp ⟨#[61, 61, 62]⟩
  rw [pair_eq fp, bs, dest2 fp, bs] at s1 s2 s3
  have d1 : ∀ op, (logic_pair p op >>= fun v1 => some (v1.1, v1.2.1, v1.2.2)) = logic_pair p op := fun op => by rw [pair_eq fp, bs]
  simp only [logic_DestAnd, logic_DestOr, logic_DestImp, d1]
  rw [pair_eq fp, bs, dest2 fp, bs, pair_eq fp, bs, dest2 fp, bs, pair_eq fp, bs, dest2 fp, bs, not_eq fp, bs, dest1 fp, bs, s1, bs, if_pos rfl, s2, bs, if_pos rfl, s3, bs, if_pos rfl]
  cases hd : des1 p ⟨#[126]⟩ with
  | none => simp only [zTm_eq]; simp [same_self zTm_fine.1, bs]
  | some x =>
    have hx := des1_fine fp hd
    simp only [if_true]
    rw [show geti [x] 0 = some x from rfl, bs, same_self hx.1, bs]
end Go.Proofs.Ytdjmibbgoajcaaa.Fw
