/- What a caller hands in as a type or a term is such data. -/
import Derived.Test.YtdjmibbgoajcaaaTC
import Derived.Test.YtdjmibbgoajcaaaChecked
set_option autoImplicit false
set_option linter.unusedVariables false
set_option linter.unusedSimpArgs false
namespace Go.Proofs.Ytdjmibbgoajcaaa.Fw
open Go Go.Proofs Go.RowKit Go.WideShapes Go.ChangeShapes
theorem aggTy : aggT Try.prog 33 = true := by unfold aggT; rw [Try.underlying33]; rfl
theorem aggTm : aggT Try.prog 36 = true := by unfold aggT; rw [Try.underlying36]; rfl
theorem cellsTy : Try.prog.cellsOf 33 = 3 := by kernel_rfl
theorem cellsTm : Try.prog.cellsOf 36 = 7 := by kernel_rfl
theorem agg_eq {x : Fw.D} (h : x.isAgg = true) : x = .agg x.cells := by cases x <;> first | rfl | cases h
theorem Ty.D_agg (a : Ty) : a.D.isAgg = true := rfl
theorem Tm.D_agg (a : Tm) : a.D.isAgg = true := rfl
theorem Ty.list_of {ys : List Fw.D} (h : ∀ y ∈ ys, y.isAgg = true ∧ ∃ a : Ty, a.ok ∧ y.cells = a.D.cells) : ∃ xs, ys = Ty.Ds xs ∧ Ty.oks xs := by
  induction ys with
  | nil => exact ⟨[], rfl, trivial⟩
  | cons y r ih =>
    obtain ⟨xs, h1, h2⟩ := ih fun y hy => h y (by simp [hy])
    obtain ⟨k1, a, k2, k3⟩ := h y (by simp)
    refine ⟨a :: xs, ?_, k2, h2⟩
    rw [agg_eq k1, k3, ← agg_eq a.D_agg, h1, Ty.Ds_cons]
theorem Tm.list_of {ys : List Fw.D} (h : ∀ y ∈ ys, y.isAgg = true ∧ ∃ a : Tm, a.ok ∧ y.cells = a.D.cells) : ∃ xs, ys = Tm.Ds xs ∧ Tm.oks xs := by
  induction ys with
  | nil => exact ⟨[], rfl, trivial⟩
  | cons y r ih =>
    obtain ⟨xs, h1, h2⟩ := ih fun y hy => h y (by simp [hy])
    obtain ⟨k1, a, k2, k3⟩ := h y (by simp)
    refine ⟨a :: xs, ?_, k2, h2⟩
    rw [agg_eq k1, k3, ← agg_eq a.D_agg, h1, Tm.Ds_cons]
theorem shape_bool {n : Nat} {t : TypeId} (hu : Try.prog.underlying t = some .bool) {xs : List Fw.D} (h : Shape Try.prog n t xs) : ∃ b, xs = [.bool b] := by
  cases n with
  | zero => exact h.elim
  | succ n => simp only [Shape, hu] at h; exact h
theorem shape_int {n : Nat} {t : TypeId} {k : IntKind} (hu : Try.prog.underlying t = some (.int k)) {xs : List Fw.D} (h : Shape Try.prog n t xs) : ∃ m, xs = [.int k m] ∧ (Lit.int k m).wf = true := by
  cases n with
  | zero => exact h.elim
  | succ n => simp only [Shape, hu] at h; exact h
theorem shape_str {n : Nat} {t : TypeId} (hu : Try.prog.underlying t = some .string) {xs : List Fw.D} (h : Shape Try.prog n t xs) : ∃ s, xs = [.str s] ∧ s.size ≤ maxLen := by
  cases n with
  | zero => exact h.elim
  | succ n => simp only [Shape, hu] at h; exact h
theorem shape_slice {n : Nat} {t e : TypeId} (hu : Try.prog.underlying t = some (.slice e)) {xs : List Fw.D} (h : Shape Try.prog n t xs) :
    ∃ m ys, n = m + 1 ∧ xs = [.slice (Try.prog.cellsOf e) ys] ∧ ys.length ≤ maxLen ∧ ∀ y ∈ ys, y.isAgg = aggT Try.prog e ∧ Shape Try.prog m e y.cells := by
  cases n with
  | zero => exact h.elim
  | succ n => simp only [Shape, hu] at h; obtain ⟨ys, h⟩ := h; exact ⟨n, ys, rfl, h⟩
theorem shape_struct {n : Nat} {t : TypeId} {fs : Array Field} (hu : Try.prog.underlying t = some (.struct fs)) {xs : List Fw.D} (h : Shape Try.prog n t xs) :
    ∃ m, n = m + 1 ∧ ShapeF (Shape Try.prog m) fs.toList xs := by
  cases n with
  | zero => exact h.elim
  | succ n => simp only [Shape, hu] at h; exact ⟨n, rfl, h⟩
theorem le_big {n : Nat} (h : n ≤ maxLen) : n ≤ big := h
theorem Ty.of_shape : ∀ (n : Nat) (xs : List Fw.D), Shape Try.prog n 33 xs → ∃ a : Ty, a.ok ∧ xs = a.D.cells := by
  intro n
  induction n using Nat.strongRecOn with
  | _ n ih =>
    intro xs h
    obtain ⟨m, rfl, h0⟩ := shape_struct Try.underlying33 h
    obtain ⟨p1, q1, rfl, h1, p2, q2, rfl, h2, p3, q3, rfl, h3, rfl⟩ := h0
    obtain ⟨b, rfl⟩ := shape_bool Try.underlying4 h1
    obtain ⟨s, rfl, hs⟩ := shape_str Try.underlying9 h2
    obtain ⟨m', ys, rfl, rfl, hl, hy⟩ := shape_slice Try.underlying31 h3
    obtain ⟨zs, rfl, hz⟩ := Ty.list_of fun y hy' => by
      obtain ⟨k1, k2⟩ := hy y hy'
      exact ⟨k1.trans aggTy, ih _ (by omega) _ k2⟩
    rw [cellsTy]
    rw [Ty.Ds_len] at hl
    exact ⟨.mk b s zs, ⟨le_big hs, le_big hl, hz⟩, rfl⟩
theorem Tm.of_shape : ∀ (n : Nat) (xs : List Fw.D), Shape Try.prog n 36 xs → ∃ a : Tm, a.ok ∧ xs = a.D.cells := by
  intro n
  induction n using Nat.strongRecOn with
  | _ n ih =>
    intro xs h
    obtain ⟨m, rfl, h0⟩ := shape_struct Try.underlying36 h
    obtain ⟨p1, q1, rfl, h1, p2, q2, rfl, h2, p3, q3, rfl, h3, p4, q4, rfl, h4, p5, q5, rfl, h5, rfl⟩ := h0
    obtain ⟨k, rfl, hk⟩ := shape_int Try.underlying5 h1
    obtain ⟨s, rfl, hs⟩ := shape_str Try.underlying9 h2
    obtain ⟨⟨v, tn, ta⟩, ht, rfl⟩ := Ty.of_shape _ _ h3
    obtain ⟨i, rfl, hi⟩ := shape_int Try.underlying3 h4
    obtain ⟨m', ys, rfl, rfl, hl, hy⟩ := shape_slice Try.underlying34 h5
    obtain ⟨zs, rfl, hz⟩ := Tm.list_of fun y hy' => by
      obtain ⟨k1, k2⟩ := hy y hy'
      exact ⟨k1.trans aggTm, ih _ (by omega) _ k2⟩
    rw [cellsTm]
    rw [Tm.Ds_len] at hl
    refine ⟨.mk k s (.mk v tn ta) i zs, ⟨?_, le_big hs, ht, ?_, le_big hl, hz⟩, rfl⟩
    · simp [Lit.wf, IntKind.min, IntKind.max, IntKind.signed, IntKind.bits] at hk; omega
    · simp [Lit.wf, IntKind.min, IntKind.max, IntKind.signed, IntKind.bits] at hi; omega
theorem aggTac : aggT Try.prog 39 = true := by unfold aggT; rw [Try.underlying39]; rfl
theorem cellsTac : Try.prog.cellsOf 39 = 11 := by kernel_rfl
theorem ATactic.D_agg (a : ATactic) : a.D.isAgg = true := rfl
theorem ATactic.list_of {ys : List Fw.D} (h : ∀ y ∈ ys, y.isAgg = true ∧ ∃ a : ATactic, a.ok ∧ y.cells = a.D.cells) : ∃ xs, ys = ATactic.Ds xs ∧ ATactic.oks xs := by
  induction ys with
  | nil => exact ⟨[], rfl, trivial⟩
  | cons y r ih =>
    obtain ⟨xs, h1, h2⟩ := ih fun y hy => h y (by simp [hy])
    obtain ⟨k1, a, k2, k3⟩ := h y (by simp)
    refine ⟨a :: xs, ?_, k2, h2⟩
    rw [agg_eq k1, k3, ← agg_eq a.D_agg, h1, ATactic.Ds_cons]
theorem ATactic.of_shape : ∀ (n : Nat) (xs : List Fw.D), Shape Try.prog n 39 xs → ∃ a : ATactic, a.ok ∧ xs = a.D.cells := by
  intro n
  induction n using Nat.strongRecOn with
  | _ n ih =>
    intro xs h
    obtain ⟨m, rfl, h0⟩ := shape_struct Try.underlying39 h
    obtain ⟨p1, q1, rfl, h1, p2, q2, rfl, h2, p3, q3, rfl, h3, p4, q4, rfl, h4, p5, q5, rfl, h5, rfl⟩ := h0
    obtain ⟨k, rfl, hk⟩ := shape_int Try.underlying5 h1
    obtain ⟨i, rfl, hi⟩ := shape_int Try.underlying3 h2
    obtain ⟨j, rfl, hj⟩ := shape_int Try.underlying3 h3
    obtain ⟨⟨tk, tn, ⟨v, yn, ya⟩, ti, ts⟩, ht, rfl⟩ := Tm.of_shape _ _ h4
    obtain ⟨m', ys, rfl, rfl, hl, hy⟩ := shape_slice Try.underlying37 h5
    obtain ⟨zs, rfl, hz⟩ := ATactic.list_of fun y hy' => by
      obtain ⟨k1, k2⟩ := hy y hy'
      exact ⟨k1.trans aggTac, ih _ (by omega) _ k2⟩
    rw [cellsTac]
    rw [ATactic.Ds_len] at hl
    refine ⟨.mk k i j (.mk tk tn (.mk v yn ya) ti ts) zs, ⟨?_, ?_, ?_, ht, le_big hl, hz⟩, rfl⟩
    · simp [Lit.wf, IntKind.min, IntKind.max, IntKind.signed, IntKind.bits] at hk; omega
    · simp [Lit.wf, IntKind.min, IntKind.max, IntKind.signed, IntKind.bits] at hi; omega
    · simp [Lit.wf, IntKind.min, IntKind.max, IntKind.signed, IntKind.bits] at hj; omega
/-! ### values that are one cell -/
section
variable {H : Type} {enc : TypeId × Value → H} {W : World} {spare : Nat → Bool} {held : Bool}
end
/-- the types that arguments are made of -/
def argTypes : List TypeId := [3, 4, 5, 9, 31, 33, 34, 36, 37, 39]
theorem argTypes_shut : ∀ t ∈ argTypes, shutB Try.prog argTypes t = true := by
  have : argTypes.all (shutB Try.prog argTypes) = true := by kernel_rfl
  exact List.all_eq_true.1 this
theorem Try.own : ownKnob Try.prog.godebug = none := by kernel_rfl
theorem Try.laidOut : laidOutB Try.prog = true := by kernel_rfl
/-- from the contract to the call -/
theorem calls_of_pure {P : Program} {f : FuncId} {ds : List Fw.D} {W : World} {vs : List Value} (hfn : fnOk P f = true) (h : Fw.Pure P f ds (.bool true)) (hn : vs.length = ds.length) (hr : ∀ j (h : j < ds.length), DRel (known W) (vs.getD j default) ds[j]) :
    Calls P f vs.toArray W fun e W' => e = .returned (.bool true) ∧ Below W.heap.size W W' := by
  rcases h.out (known W) W vs (known_models W) hn hr with ⟨_, h⟩ | ⟨v, w', h, _⟩
  · refine h.mono ?_
    rintro e W' ⟨v, H', rfl, _, _, hv, hb⟩
    cases hv
    exact ⟨rfl, hb⟩
  · rw [run_callFunc hfn] at h
    cases h
end Go.Proofs.Ytdjmibbgoajcaaa.Fw

