/- Destructors; LogicTerms. -/
import Derived.Test.YtdjmibbgoajcaaaM5
set_option autoImplicit false
set_option linter.unusedVariables false
set_option linter.unusedSimpArgs false
namespace Go.Proofs.Ytdjmibbgoajcaaa.Fw
open Go Go.Proofs

theorem Tm.sub_fine {a : Tm} (h : a.fine) {x : Tm} (hx : x ∈ a.sub) : x.fine := by
  obtain ⟨k, n, t, i, xs⟩ := a
  obtain ⟨⟨_, _, _, _, _, ho⟩, ⟨_, ht⟩, hs⟩ := h
  simp only [Tm.size] at hs
  have hx : x ∈ xs := hx
  have := Tm.size_mem hx
  exact ⟨Tm.oks_mem ho x hx, Tm.tyss_mem ht x hx, by omega⟩

def spine (a : Tm) : Option (Tm × Tm) := if a.kind = 4 then (match a.sub with | [f, x] => some (f, x) | _ => none) else none
theorem spine_some {a f x : Tm} (h : spine a = some (f, x)) : a.kind = 4 ∧ a.sub = [f, x] := by
  unfold spine at h
  split at h
  · refine ⟨‹_›, ?_⟩
    split at h
    · rename_i hh; injection h with h; injection h with h1 h2; subst h1; subst h2; exact hh
    · cases h
  · cases h
theorem spine_none {a : Tm} (h : spine a = none) : ¬ a.kind = 4 ∨ ¬ ((Tm.Ds a.sub).length : Int) = 2 := by
  unfold spine at h
  split at h
  · right
    split at h
    · cases h
    · rename_i hne
      rw [Tm.Ds_len]
      intro hl
      have hl : a.sub.length = 2 := by omega
      match hs : a.sub, hl with
      | [f, x], _ => exact hne f x hs
  · exact .inl ‹_›

/-- what the destructors of two arguments, of one, find -/
def des2 (a : Tm) (op : ByteArray) : Option (Tm × Tm) := (spine a).bind fun p => (spine p.1).bind fun q => if q.1.kind = 2 ∧ q.1.name = op then some (q.2, p.2) else none
def des1 (a : Tm) (op : ByteArray) : Option Tm := (spine a).bind fun p => if p.1.kind = 2 ∧ p.1.name = op then some p.2 else none
theorem spine_fine {a f x : Tm} (h : a.fine) (hs : spine a = some (f, x)) : f.fine ∧ x.fine := by
  have h2 := (spine_some hs).2
  exact ⟨Tm.sub_fine h (by rw [h2]; simp), Tm.sub_fine h (by rw [h2]; simp)⟩
theorem des2_fine {a : Tm} {op : ByteArray} {x y : Tm} (h : a.fine) (hd : des2 a op = some (x, y)) : x.fine ∧ y.fine := by
  unfold des2 at hd
  cases hs : spine a with
  | none => rw [hs] at hd; cases hd
  | some p =>
    obtain ⟨f, y'⟩ := p
    rw [hs] at hd
    simp only [Option.bind_some] at hd
    obtain ⟨hf, hy⟩ := spine_fine h hs
    cases hs2 : spine f with
    | none => rw [hs2] at hd; cases hd
    | some q =>
      obtain ⟨c, x'⟩ := q
      rw [hs2] at hd
      simp only [Option.bind_some] at hd
      split at hd
      · injection hd with hd; injection hd with e1 e2; subst e1; subst e2; exact ⟨(spine_fine hf hs2).2, hy⟩
      · cases hd
theorem des1_fine {a : Tm} {op : ByteArray} {x : Tm} (h : a.fine) (hd : des1 a op = some x) : x.fine := by
  unfold des1 at hd
  cases hs : spine a with
  | none => rw [hs] at hd; cases hd
  | some p =>
    obtain ⟨f, y'⟩ := p
    rw [hs] at hd
    simp only [Option.bind_some] at hd
    split at hd
    · injection hd with hd; subst hd; exact (spine_fine h hs).2
    · cases hd
/-! ### the statement -/
theorem Tm.cmp_self : ∀ a : Tm, Tm.cmp a a = 0 := by
  refine Tm.ind fun k n t i xs ih => ?_
  have h0 : ∀ z : Int, icmp z z = 0 := fun z => by unfold icmp; simp
  have hn : ncmp n n = 0 := by unfold ncmp; simp
  have ht : Ty.cmp t t = 0 := (Ty.cmp_zero t t).2 rfl
  have hl : ∀ l : List Tm, (∀ x ∈ l, Tm.cmp x x = 0) → Tm.cmps l l = 0 := by
    intro l
    induction l with
    | nil => intro _; rfl
    | cons x r ihr => intro h; simp only [Tm.cmps, h x (by simp), ihr fun y hy => h y (by simp [hy])]; simp
  simp only [Tm.cmp, Tm.hd, h0, hn, ht, ors, hl xs ih]
  simp
theorem Tm.beq_self (a : Tm) : Tm.beq a a = true := by simp [Tm.beq, Tm.cmp_self]
theorem same_self {a : Tm} (h : a.ok) : sequentref02_Same a a = some true := by rw [ref2_Same_eq a a h, Tm.beq_self]
theorem Tm.counts_pos (d : Nat) : ∀ (xs : List Tm) (l : Int), 0 < Tm.counts d l xs → ∀ x ∈ xs, ∃ l', 0 < Tm.count d l' x := by
  intro xs
  induction xs with
  | nil => intro l _ x hx; cases hx
  | cons a r ih =>
    intro l h x hx
    simp only [Tm.counts] at h
    split at h
    · have h1 : 0 < Tm.count d l a := by
        by_cases h1 : 0 < Tm.count d l a
        · exact h1
        · rw [Tm.counts_stop d _ r h1] at h; omega
      rcases List.mem_cons.1 hx with rfl | hx
      · exact ⟨l, h1⟩
      · exact ih _ h x hx
    · omega
theorem Tm.tyss_of {xs : List Tm} (h : ∀ x ∈ xs, x.tys) : Tm.tyss xs := by
  induction xs with
  | nil => trivial
  | cons a r ih => exact ⟨h a (by simp), ih fun x hx => h x (by simp [hx])⟩
theorem Tm.count_tys : ∀ (d : Nat) (l : Int) (a : Tm), 0 < Tm.count d l a → a.tys := by
  intro d
  induction d with
  | zero => intro l a h; simp only [Tm.count] at h; omega
  | succ d ih =>
    rintro l ⟨k, n, t, i, xs⟩ h
    simp only [Tm.count] at h
    split at h
    · omega
    · rename_i hg
      have := (Ty.great_size t (by simpa using hg)).1
      exact ⟨by simp only [tlim]; omega, Tm.tyss_of fun x hx => let ⟨l', h'⟩ := Tm.counts_pos d xs _ h x hx; ih l' x h'⟩
theorem Tm.great_fine {a : Tm} (h : a.ok) (hg : a.great = false) : a.fine := by
  simp only [Tm.great, Bool.and_eq_false_iff, Bool.not_eq_false', decide_eq_true_eq, Bool.or_eq_false_iff, decide_eq_false_iff_not] at hg
  rcases hg with hg | ⟨hg, _⟩
  · have := (Tm.count_size 400 2000 a hg).1
    exact ⟨h, Tm.count_tys _ _ _ hg, by omega⟩
  · have := (Tm.count_size 400 40000 a (by omega)).1
    exact ⟨h, Tm.count_tys 400 40000 a (by omega), by omega⟩

theorem mk1_fine {p : Tm} (hp : p.fine) : (mk1 ⟨#[126]⟩ p).1.ok := by
  unfold mk1
  split
  · exact zTm_fine.1
  · split
    · exact zTm_fine.1
    · split
      · exact ⟨by decide, by decide, ⟨by decide, by decide, trivial⟩, by decide, (by decide : 2 ≤ big), (con_fine (n := ⟨#[126]⟩) (by decide) T1_ok (by decide)).1, hp.1, trivial⟩
      · exact zTm_fine.1
theorem mk2_fine {op : ByteArray} (h0 : op.size ≤ big) {p q : Tm} (hp : p.fine) (hq : q.fine) : (mk2 op p q).1.ok := by
  unfold mk2
  repeat' split
  all_goals first
    | exact zTm_fine.1
    | exact ⟨by decide, by decide, ⟨by decide, by decide, trivial⟩, by decide, (by decide : 2 ≤ big), ⟨by decide, by decide, ⟨by decide, by decide, trivial⟩, by decide, (by decide : 2 ≤ big), (con_fine h0 T2_ok (by decide)).1, hp.1, trivial⟩, hq.1, trivial⟩
end Go.Proofs.Ytdjmibbgoajcaaa.Fw
