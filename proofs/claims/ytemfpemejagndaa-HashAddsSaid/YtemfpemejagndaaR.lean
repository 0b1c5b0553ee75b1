/- What a caller hands in as a type or a term is such data. -/
import Derived.Test.YtemfpemejagndaaHC
import Derived.Test.YtemfpemejagndaaChecked
set_option autoImplicit false
set_option linter.unusedVariables false
set_option linter.unusedSimpArgs false
namespace Go.Proofs.Ytemfpemejagndaa.Fw
open Go Go.Proofs Go.RowKit Go.WideShapes Go.ChangeShapes
theorem aggTy : aggT Try.prog 28 = true := by unfold aggT; rw [Try.underlying28]; rfl
theorem aggTm : aggT Try.prog 31 = true := by unfold aggT; rw [Try.underlying31]; rfl
theorem cellsTy : Try.prog.cellsOf 28 = 3 := by kernel_rfl
theorem cellsTm : Try.prog.cellsOf 31 = 7 := by kernel_rfl
theorem agg_eq {x : Fw.D} (h : x.isAgg = true) : x = .agg x.cells := by cases x <;> first | rfl | cases h
theorem Ty.D_agg (a : Ty) : a.D.isAgg = true := rfl
theorem Tm.D_agg (a : Tm) : a.D.isAgg = true := rfl
theorem Ty.list_of {ys : List Fw.D} (h : ∀ y ∈ ys, y.isAgg = true ∧ ∃ a : Ty, a.ok ∧ y.cells = a.D.cells) : ∃ xs, ys = Ty.Ds xs ∧ Ty.oks xs := by
 induction ys with
 | nil => exact ⟨[], rfl, trivial⟩
 | cons y r ih =>
  obtain ⟨xs, h1, h2⟩ := ih fun y hy => h y (by simp [hy])
  obtain ⟨k1, a, k2, k3⟩ := h y (by simp)
  refine ⟨a :: xs, ?_, k2, h2⟩
  rw [agg_eq k1, k3, ← agg_eq a.D_agg, h1, Ty.Ds_cons]
theorem Tm.list_of {ys : List Fw.D} (h : ∀ y ∈ ys, y.isAgg = true ∧ ∃ a : Tm, a.ok ∧ y.cells = a.D.cells) : ∃ xs, ys = Tm.Ds xs ∧ Tm.oks xs := by
 induction ys with
 | nil => exact ⟨[], rfl, trivial⟩
 | cons y r ih =>
  obtain ⟨xs, h1, h2⟩ := ih fun y hy => h y (by simp [hy])
  obtain ⟨k1, a, k2, k3⟩ := h y (by simp)
  refine ⟨a :: xs, ?_, k2, h2⟩
  rw [agg_eq k1, k3, ← agg_eq a.D_agg, h1, Tm.Ds_cons]
theorem shape_bool {n : Nat} {t : TypeId} (hu : Try.prog.underlying t = some .bool) {xs : List Fw.D} (h : Shape Try.prog n t xs) : ∃ b, xs = [.bool b] := by
 cases n with
 | zero => exact h.elim
 | succ n => simp only [Shape, hu] at h; exact h
theorem shape_int {n : Nat} {t : TypeId} {k : IntKind} (hu : Try.prog.underlying t = some (.int k)) {xs : List Fw.D} (h : Shape Try.prog n t xs) : ∃ m, xs = [.int k m] ∧ (Lit.int k m).wf = true := by
 cases n with
 | zero => exact h.elim
 | succ n => simp only [Shape, hu] at h; exact h
theorem shape_str {n : Nat} {t : TypeId} (hu : Try.prog.underlying t = some .string) {xs : List Fw.D} (h : Shape Try.prog n t xs) : ∃ s, xs = [.str s] ∧ s.size ≤ maxLen := by
 cases n with
 | zero => exact h.elim
 | succ n => simp only [Shape, hu] at h; exact h
theorem shape_slice {n : Nat} {t e : TypeId} (hu : Try.prog.underlying t = some (.slice e)) {xs : List Fw.D} (h : Shape Try.prog n t xs) :
  ∃ m ys, n = m + 1 ∧ xs = [.slice (Try.prog.cellsOf e) ys] ∧ ys.length ≤ maxLen ∧ ∀ y ∈ ys, y.isAgg = aggT Try.prog e ∧ Shape Try.prog m e y.cells := by
 cases n with
 | zero => exact h.elim
 | succ n => simp only [Shape, hu] at h; obtain ⟨ys, h⟩ := h; exact ⟨n, ys, rfl, h⟩
theorem shape_struct {n : Nat} {t : TypeId} {fs : Array Field} (hu : Try.prog.underlying t = some (.struct fs)) {xs : List Fw.D} (h : Shape Try.prog n t xs) :
  ∃ m, n = m + 1 ∧ ShapeF (Shape Try.prog m) fs.toList xs := by
 cases n with
 | zero => exact h.elim
 | succ n => simp only [Shape, hu] at h; exact ⟨n, rfl, h⟩
theorem le_big {n : Nat} (h : n ≤ maxLen) : n ≤ big := h
theorem Ty.of_shape : ∀ (n : Nat) (xs : List Fw.D), Shape Try.prog n 28 xs → ∃ a : Ty, a.ok ∧ xs = a.D.cells := by
 intro n
 induction n using Nat.strongRecOn with
 | _ n ih =>
  intro xs h
  obtain ⟨m, rfl, h0⟩ := shape_struct Try.underlying28 h
  obtain ⟨p1, q1, rfl, h1, p2, q2, rfl, h2, p3, q3, rfl, h3, rfl⟩ := h0
  obtain ⟨b, rfl⟩ := shape_bool Try.underlying4 h1
  obtain ⟨s, rfl, hs⟩ := shape_str Try.underlying9 h2
  obtain ⟨m', ys, rfl, rfl, hl, hy⟩ := shape_slice Try.underlying26 h3
  obtain ⟨zs, rfl, hz⟩ := Ty.list_of fun y hy' => by
   obtain ⟨k1, k2⟩ := hy y hy'
   exact ⟨k1.trans aggTy, ih _ (by omega) _ k2⟩
  rw [cellsTy]
  rw [Ty.Ds_len] at hl
  exact ⟨.mk b s zs, ⟨le_big hs, le_big hl, hz⟩, rfl⟩
theorem Tm.of_shape : ∀ (n : Nat) (xs : List Fw.D), Shape Try.prog n 31 xs → ∃ a : Tm, a.ok ∧ xs = a.D.cells := by
 intro n
 induction n using Nat.strongRecOn with
 | _ n ih =>
  intro xs h
  obtain ⟨m, rfl, h0⟩ := shape_struct Try.underlying31 h
  obtain ⟨p1, q1, rfl, h1, p2, q2, rfl, h2, p3, q3, rfl, h3, p4, q4, rfl, h4, p5, q5, rfl, h5, rfl⟩ := h0
  obtain ⟨k, rfl, hk⟩ := shape_int Try.underlying5 h1
  obtain ⟨s, rfl, hs⟩ := shape_str Try.underlying9 h2
  obtain ⟨⟨v, tn, ta⟩, ht, rfl⟩ := Ty.of_shape _ _ h3
  obtain ⟨i, rfl, hi⟩ := shape_int Try.underlying3 h4
  obtain ⟨m', ys, rfl, rfl, hl, hy⟩ := shape_slice Try.underlying29 h5
  obtain ⟨zs, rfl, hz⟩ := Tm.list_of fun y hy' => by
   obtain ⟨k1, k2⟩ := hy y hy'
   exact ⟨k1.trans aggTm, ih _ (by omega) _ k2⟩
  rw [cellsTm]
  rw [Tm.Ds_len] at hl
  refine ⟨.mk k s (.mk v tn ta) i zs, ⟨?_, le_big hs, ht, ?_, le_big hl, hz⟩, rfl⟩
  ·simp [Lit.wf, IntKind.min, IntKind.max, IntKind.signed, IntKind.bits] at hk; omega
  ·simp [Lit.wf, IntKind.min, IntKind.max, IntKind.signed, IntKind.bits] at hi; omega
theorem aggTN : aggT Try.prog 53 = true := by unfold aggT; rw [Try.underlying53]; rfl
theorem aggMN : aggT Try.prog 46 = true := by unfold aggT; rw [Try.underlying46]; rfl
theorem aggInt : aggT Try.prog 3 = false := by unfold aggT; rw [Try.underlying3]; rfl
theorem cellsTN : Try.prog.cellsOf 53 = 3 := by kernel_rfl
theorem cellsMN : Try.prog.cellsOf 46 = 5 := by kernel_rfl
theorem cellsInt : Try.prog.cellsOf 3 = 1 := by kernel_rfl
theorem AStore.D_agg (a : AStore) : a.D.isAgg = true := rfl
theorem ints_of {ys : List Fw.D} (h : ∀ y ∈ ys, y.isAgg = false ∧ ∃ m : Int, y.cells = [.int .i64 m]) : ∃ xs, ys = intDs_i64 xs := by
 induction ys with
 | nil => exact ⟨[], rfl⟩
 | cons y r ih =>
  obtain ⟨xs, h1⟩ := ih fun y hy => h y (by simp [hy])
  obtain ⟨k1, m, k3⟩ := h y (by simp)
  rw [noagg_cells k1] at k3
  injection k3 with k3
  exact ⟨m :: xs, by rw [k3, h1, intDs_i64_cons]⟩
theorem ints_shape {n : Nat} {xs : List Fw.D} (h : Shape Try.prog n 44 xs) : ∃ ms, xs = [.slice 1 (intDs_i64 ms)] ∧ ms.length ≤ maxLen := by
 obtain ⟨m, ys, rfl, rfl, hl, hy⟩ := shape_slice Try.underlying44 h
 obtain ⟨ms, rfl⟩ := ints_of fun y hy' => by
  obtain ⟨k1, k2⟩ := hy y hy'
  obtain ⟨q, k3, -⟩ := shape_int Try.underlying3 k2
  exact ⟨k1.trans aggInt, q, k3⟩
 rw [cellsInt]
 exact ⟨ms, rfl, by rwa [intDs_i64_len] at hl⟩
theorem TN.of_shape {n : Nat} {xs : List Fw.D} (h : Shape Try.prog n 53 xs) : ∃ a : YN, a.name.size ≤ big ∧ xs = a.D.cells := by
 obtain ⟨m, rfl, h0⟩ := shape_struct Try.underlying53 h
 obtain ⟨p1, q1, rfl, h1, p2, q2, rfl, h2, p3, q3, rfl, h3, rfl⟩ := h0
 obtain ⟨b, rfl⟩ := shape_bool Try.underlying4 h1
 obtain ⟨s, rfl, hs⟩ := shape_str Try.underlying9 h2
 obtain ⟨ms, rfl, -⟩ := ints_shape h3
 exact ⟨.mk b s ms, le_big hs, rfl⟩
theorem MN.of_shape {n : Nat} {xs : List Fw.D} (h : Shape Try.prog n 46 xs) : ∃ a : XN, a.name.size ≤ big ∧ xs = a.D.cells := by
 obtain ⟨m, rfl, h0⟩ := shape_struct Try.underlying46 h
 obtain ⟨p1, q1, rfl, h1, p2, q2, rfl, h2, p3, q3, rfl, h3, p4, q4, rfl, h4, p5, q5, rfl, h5, rfl⟩ := h0
 obtain ⟨k, rfl, -⟩ := shape_int Try.underlying5 h1
 obtain ⟨s, rfl, hs⟩ := shape_str Try.underlying9 h2
 obtain ⟨t, rfl, -⟩ := shape_int Try.underlying3 h3
 obtain ⟨i, rfl, -⟩ := shape_int Try.underlying3 h4
 obtain ⟨ms, rfl, -⟩ := ints_shape h5
 exact ⟨.mk k s t i ms, le_big hs, rfl⟩
theorem TN.list_of {ys : List Fw.D} (h : ∀ y ∈ ys, y.isAgg = true ∧ ∃ a : YN, a.name.size ≤ big ∧ y.cells = a.D.cells) : ∃ xs, ys = YN.Ds xs ∧ ∀ a ∈ xs, a.name.size ≤ big := by
 induction ys with
 | nil => exact ⟨[], rfl, by simp⟩
 | cons y r ih =>
  obtain ⟨xs, h1, h2⟩ := ih fun y hy => h y (by simp [hy])
  obtain ⟨k1, a, k2, k3⟩ := h y (by simp)
  refine ⟨a :: xs, ?_, by simpa using ⟨k2, h2⟩⟩
  rw [agg_eq k1, k3, ← agg_eq (show a.D.isAgg = true from rfl), h1, YN.Ds_cons]
theorem MN.list_of {ys : List Fw.D} (h : ∀ y ∈ ys, y.isAgg = true ∧ ∃ a : XN, a.name.size ≤ big ∧ y.cells = a.D.cells) : ∃ xs, ys = XN.Ds xs ∧ ∀ a ∈ xs, a.name.size ≤ big := by
 induction ys with
 | nil => exact ⟨[], rfl, by simp⟩
 | cons y r ih =>
  obtain ⟨xs, h1, h2⟩ := ih fun y hy => h y (by simp [hy])
  obtain ⟨k1, a, k2, k3⟩ := h y (by simp)
  refine ⟨a :: xs, ?_, by simpa using ⟨k2, h2⟩⟩
  rw [agg_eq k1, k3, ← agg_eq (show a.D.isAgg = true from rfl), h1, XN.Ds_cons]
theorem AStore.of_shape (n : Nat) (xs : List Fw.D) (h : Shape Try.prog n 25 xs) : ∃ a : AStore, a.ok ∧ xs = a.D.cells := by
 obtain ⟨m, rfl, h0⟩ := shape_struct Try.underlying25 h
 obtain ⟨p1, q1, rfl, h1, p2, q2, rfl, h2, rfl⟩ := h0
 obtain ⟨m1, ys, -, rfl, hl, hy⟩ := shape_slice Try.underlying22 h1
 obtain ⟨m2, zs, -, rfl, hl', hz⟩ := shape_slice Try.underlying23 h2
 obtain ⟨ts, rfl, ht⟩ := TN.list_of fun y hy' => ⟨(hy y hy').1.trans aggTN, TN.of_shape (hy y hy').2⟩
 obtain ⟨ms, rfl, hm⟩ := MN.list_of fun y hy' => ⟨(hz y hy').1.trans aggMN, MN.of_shape (hz y hy').2⟩
 rw [cellsTN, cellsMN]
 exact ⟨.mk ts ms, ⟨ht, hm⟩, rfl⟩
/-! ### values that are one cell -/
section
variable {H : Type} {enc : TypeId × Value → H} {W : World} {spare : Nat → Bool} {held : Bool}
end
/-- the types that arguments are made of -/
def argTypes : List TypeId := [3, 4, 5, 9, 26, 28, 29, 31, 25, 22, 23, 53, 46, 44]
theorem argTypes_shut : ∀ t ∈ argTypes, shutB Try.prog argTypes t = true := by
 have : argTypes.all (shutB Try.prog argTypes) = true := by kernel_rfl
 exact List.all_eq_true.1 this
theorem Try.own : ownKnob Try.prog.godebug = none := by kernel_rfl
theorem Try.laidOut : laidOutB Try.prog = true := by kernel_rfl
/-- from the contract to the call -/
theorem calls_of_pure {P : Program} {f : FuncId} {ds : List Fw.D} {W : World} {vs : List Value} (hfn : fnOk P f = true) (h : Fw.Pure P f ds (.bool true)) (hn : vs.length = ds.length) (hr : ∀ j (h : j < ds.length), DRel (known W) (vs.getD j default) ds[j]) :
  Calls P f vs.toArray W fun e W' => e = .returned (.bool true) ∧ Below W.heap.size W W' := by
 rcases h.out (known W) W vs (known_models W) (Nat.zero_le _) hn hr with ⟨_, h⟩ | ⟨v, w', h, _⟩
 ·refine h.mono ?_
  rintro e W' ⟨v, H', rfl, _, _, hv, hb⟩
  cases hv
  exact ⟨rfl, hb⟩
 ·rw [run_callFunc hfn] at h
  cases h
end Go.Proofs.Ytemfpemejagndaa.Fw

