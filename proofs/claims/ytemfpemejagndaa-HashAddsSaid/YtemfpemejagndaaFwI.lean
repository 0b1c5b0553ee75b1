/- A function's contract. -/
import Derived.Test.YtemfpemejagndaaFwH
set_option autoImplicit false
set_option linter.unusedVariables false
set_option linter.unusedSimpArgs false
namespace Go.Proofs.Ytemfpemejagndaa.Fw
open Go Go.RowKit Go.WideShapes

/-- A function of pure data: it returns r; nothing that was there changes. -/
structure Pure (P : Program) (f : FuncId) (args : List D) (r : D) : Prop where mk ::
 out : ∀ (H : Imm) (w : World) (vs : List Value), Models w H → H.base ≤ w.heap.size → vs.length = args.length → (∀ j (h : j < args.length), DRel H (vs.getD j default) (args[j])) →
  CallsX P f vs.toArray w fun e w' => ∃ v H', e = .returned v ∧ H.ext H' (since w.heap.size) ∧ Models w' H' ∧ DRel H' v r ∧ Below w.heap.size w w'
def argsEnv : Nat → List AV → Env
 | _, [] => []
 | k, x :: r => (k, x) :: argsEnv (k + 1) r
/-- what a frame's end makes of a value -/
def Frz (L : List Blk) : AV → D → Prop
 | .d x, y => x = y
 | .nil sz, y => .slice sz [] = y
 | .full sz xs, y => .slice sz xs = y
 | .own _ _ sz xs, y => .slice sz xs = y
 | .arr 0 i 0 len sz, y => ∃ xs, L[i]? = some (.arr sz xs) ∧ len = xs.length ∧ .slice sz xs = y
 | .garr 0 i len sz, y => ∃ xs, L[i]? = some (.garr sz xs) ∧ len = xs.length ∧ .slice sz xs = y
 | .ptr 0 i 0, y => match L[i]? with
  | some (.frz x) => .ptr x = y
  | _ => ∃ cs ds x, L[i]? = some (.cells cs) ∧ pures cs = some ds ∧ x.cells = ds ∧ .ptr x = y
 | .map 0 i, y => ∃ es, L[i]? = some (.map es) ∧ .map es = y
 | .agg cs, .agg ds => FrzL L cs ds
 | .tuple cs, .tuple ds => FrzL L cs ds
 | .func fn us cs, y => match pures us, pures cs with | some us, some cs => .func fn us cs = y | _, _ => False
 | .iface t x, .iface u y => t = u ∧ Frz L x y
 | _, _ => False
 where FrzL (L : List Blk) : List AV → List D → Prop
 | [], [] => True
 | x :: xs, y :: ys => Frz L x y ∧ FrzL L xs ys
 | _, _ => False
section
variable {T : TT} {P : Program} {N : Nat} {ds : Fix} {js : List Nat} {c : Ctx} {s : Env} {fr : Frs} {a : Act} {w : World}

/-- everything that is known at the end -/
def Ctx.all (c : Ctx) (fr : Frs) (w : World) : Imm where
 cell b j := match c.H.cell b j with
  | some v => some v
  | none => if c.B ≤ b then w.cell? ⟨b, j, none⟩ else none
 obj b := match c.H.obj b with
  | some o => some o
  | none => if c.B ≤ b then (match w.heap[b]? with | some (.map es k) => some (.map es k) | _ => none) else none
 var b := c.H.var b || (decide (c.B ≤ b) && match w.heap[b]? with | some (.cells _ _ (0, 0)) => true | _ => false)
 base := c.H.base
 wr b := c.H.wr b || match w.heap[b]? with | some (.cells _ _ (0, 0)) => true | _ => false
theorem all_le : c.H.le (c.all fr w) := ⟨fun b j v h => by simp [Ctx.all, h], fun b o h => by simp [Ctx.all, h], fun b h => by simp [Ctx.all, h], rfl, fun b h => by simp [Ctx.all, h]⟩
theorem all_yg {b : Nat} {cs : Array Value} {t : TypeId} (h : c.H.base ≤ b) (hw : w.heap[b]? = some (.cells cs t (0, 0))) : (c.all fr w).yg b := ⟨h, fun _ => .inl (by simp [Ctx.all, hw])⟩
theorem all_models (h : Models w c.H) : Models w (c.all fr w) := by
 refine ⟨fun b j v hc => ?_, fun b o ho => ?_, fun b hv => ?_, fun b hv => ?_⟩
 ·simp only [Ctx.all] at hc
  cases hh : c.H.cell b j with
  | some u => rw [hh] at hc; injection hc with hc; subst hc; exact h.1 _ _ _ hh
  | none =>
   rw [hh] at hc
   simp only at hc
   split at hc
   ·exact hc
   ·cases hc
 ·simp only [Ctx.all] at ho
  cases hh : c.H.obj b with
  | some u => rw [hh] at ho; injection ho with ho; subst ho; exact h.2.1 _ _ hh
  | none =>
   rw [hh] at ho
   simp only at ho
   split at ho
   ·split at ho
    ·rename_i es k hw
     injection ho with ho; subst ho
     exact ⟨hw, fun _ _ _ hq => by cases hq⟩
    ·cases ho
   ·cases ho
 ·simp only [Ctx.all, Bool.or_eq_true, Bool.and_eq_true] at hv
  rcases hv with hv | ⟨_, hv⟩
  ·exact h.2.2.1 _ hv
  ·split at hv
   ·rename_i cc t he; exact ⟨cc, t, he⟩
   ·cases hv
 ·simp only [Ctx.all, Bool.or_eq_true] at hv
  rcases hv with hv | hv
  ·exact h.2.2.2 _ hv
  ·split at hv
   ·rename_i cc t he
    refine ⟨(Array.getElem?_eq_some_iff.1 he).1, fun c' t' f hc => ?_⟩
    rw [he] at hc; injection hc with hc; injection hc with _ _ hc; exact hc.symm
   ·cases hv
theorem all_ext {H : Imm} {n : Nat} (hH : H.ext c.H (since n)) (hB : n ≤ c.B) : H.ext (c.all fr w) (since n) := by
 refine ⟨hH.le.trans all_le, fun b j v hc => ?_, fun b o ho => ?_, fun b hv => ?_⟩
 ·simp only [Ctx.all] at hc
  cases hh : c.H.cell b j with
  | some u => rw [hh] at hc; injection hc with hc; subst hc; exact hH.cell _ _ _ hh
  | none =>
   rw [hh] at hc
   simp only at hc
   split at hc
   ·exact .inr (by omega)
   ·cases hc
 ·simp only [Ctx.all] at ho
  cases hh : c.H.obj b with
  | some u => rw [hh] at ho; injection ho with ho; subst ho; exact hH.obj _ _ hh
  | none =>
   rw [hh] at ho
   simp only at ho
   split at ho
   ·exact .inr (by omega)
   ·cases ho
 ·simp only [Ctx.all, Bool.or_eq_true, Bool.and_eq_true, decide_eq_true_eq] at hv
  rcases hv with hv | ⟨hv, _⟩
  ·exact hH.var _ hv
  ·exact .inr (by omega)
theorem Ok.ge' (hok : Ok c fr w) (hX : c.X = []) {l i : Nat} {e : Ent} (he : c.ent l i = some e) : c.B ≤ e.b := by
 rcases hok.ge _ _ _ he with h | h
 ·exact h
 ·rw [hX] at h; cases h
theorem all_cell (hok : Ok c fr w) (hX : c.X = []) {l i : Nat} {e : Ent} (he : c.ent l i = some e) (hg' : e.g = false ∧ e.n = 0) (j : Nat) : (c.all fr w).cell e.b j = w.cell? ⟨e.b, j, none⟩ := by
 have h1 := hok.far _ _ _ he fun _ => hg'.2
 have hg := hg'.1
 have h2 := hok.ge' hX he
 simp only [Ctx.all]
 cases hh : c.H.cell e.b j with
 | some v => have := (h1.1 _ _ hh).1; rw [hg] at this; cases this
 | none => simp [h2]
theorem all_cellG (hok : Ok c fr w) (hX : c.X = []) {l i : Nat} {e : Ent} (he : c.ent l i = some e) (hg : e.g = true ∧ e.sz = 0) (j : Nat) : (c.all fr w).cell e.b j = w.cell? ⟨e.b, j, none⟩ := by
 have h1 := hok.far _ _ _ he fun h => by rw [hg.1] at h; cases h
 have h2 := hok.ge' hX he
 simp only [Ctx.all]
 cases hh : c.H.cell e.b j with
 | some v => have := (h1.1 _ _ hh).2; rw [hg.2] at this; omega
 | none => simp [h2]
theorem row_relL {H : Imm} {b o cap sz : Nat} {xs : List D} {vs : List Value} (hcap : xs.length ≤ cap ∧ xs.length ≤ 9223372036854775807) (hsz : ∀ x ∈ xs, x.cells.length = sz) (hl : ∀ y ∈ flat xs, y.leaf = true) (hy : H.yg b)
  (hH : ∀ j, j < (flat xs).length → H.cell b (o + j) = some (vs.getD j default)) (hr : ∀ j (hj : j < (flat xs).length), DRel H (vs.getD j default) ((flat xs)[j])) : DRel H (.slice (some ⟨b, o, none⟩) xs.length cap) (.slice sz xs) :=
 .slice _ cap sz xs b o (fun j => vs.getD j default) hcap hsz (fun _ => rfl) (fun _ => hy) hH hl hr
theorem DRel.leaf_of {H : Imm} {v : Value} {y : D} (h : DRel H v y) (hv : (∀ cs, v ≠ .agg cs) ∧ ∀ vs, v ≠ .tuple vs) : y.leaf = true := by
 cases h <;> first | rfl | exact absurd rfl (hv.1 _) | exact absurd rfl (hv.2 _)
mutual
theorem frz_rel (hok : Ok c fr w) (hX : c.X = []) {L : List Blk} {r : Frs} (hfr : fr = L :: r) : ∀ (x : AV) (v : Value) (y : D), VRel c v x → Frz L x y → DRel (c.all fr w) v y
 | .undef, v, y, hv, h => by cases y <;> exact h.elim
 | .d x, v, y, hv, h => by
  have h : x = y := by cases y <;> exact h
  subst h
  cases hv with | d _ _ hv => exact hv.mono all_le
 | .nil sz, v, y, hv, h => by
  have h : .slice sz [] = y := by cases y <;> exact h
  subst h
  exact (hv.pure _ rfl).mono all_le
 | .full sz xs, v, y, hv, h => by
  have h : .slice sz xs = y := by cases y <;> exact h
  subst h
  exact (hv.pure _ rfl).mono all_le
 | .own l i sz xs, v, y, hv, h => by
  have h : .slice sz xs = y := by cases y <;> exact h
  subst h
  exact (hv.pure _ rfl).mono all_le
 | .arr l i off len sz, v, y, hv, h => by
  cases l with
  | succ l => cases y <;> exact h.elim
  | zero =>
   cases off with
   | succ off => cases y <;> exact h.elim
   | zero =>
    have h : ∃ xs, L[i]? = some (.arr sz xs) ∧ len = xs.length ∧ .slice sz xs = y := by cases y <;> exact h
    obtain ⟨xs, h1, rfl, rfl⟩ := h
    have hv2 : ∃ n, n = xs.length ∧ VRel c v (.arr 0 i 0 n sz) := ⟨_, rfl, hv⟩
    obtain ⟨n, hn2, hv2⟩ := hv2
    cases hv2 with
    | arr0 a =>
     obtain rfl := List.eq_nil_of_length_eq_zero hn2.symm
     exact .zero0 a sz
    | arr cap _ _ _ _ _ e he hg hs hc =>
    subst hn2
    have hbr := hok.blk 0 i e (.arr sz xs) he (by rw [hfr]; simpa using h1)
    rw [Ctx.drop_zero] at hbr
    cases hbr with | arr _ _ vs u hg' hs' hw hn hsz hl hr =>
    simp only [Nat.zero_mul]
    exact row_relL hc hsz hl (all_yg (hok.yng _ (hok.ge _ _ _ he)) hw) (fun j hj => by rw [Nat.zero_add, all_cell hok hX he hg', cell_of_heap hw]; exact getD_some (by omega)) fun j hj => (hr j hj).mono all_le
 | .garr l i len sz, v, y, hv, h => by
  cases l with
  | succ l => cases y <;> exact h.elim
  | zero =>
   have h : ∃ xs, L[i]? = some (.garr sz xs) ∧ len = xs.length ∧ .slice sz xs = y := by cases y <;> exact h
   obtain ⟨xs, h1, rfl, rfl⟩ := h
   have hv2 : ∃ n, n = xs.length ∧ VRel c v (.garr 0 i n sz) := ⟨_, rfl, hv⟩
   obtain ⟨n, hn2, hv2⟩ := hv2
   cases hv2 with
   | garr0 a =>
    obtain rfl := List.eq_nil_of_length_eq_zero hn2.symm
    exact .zero0 a sz
   | garr a cap _ _ _ _ e he hg hne hcc =>
   subst hn2
   have hbr := hok.blk 0 i e (.garr sz xs) he (by rw [hfr]; simpa using h1)
   rw [Ctx.drop_zero] at hbr
   cases hbr with | garr _ _ vs u hg' hen hw hvl hcap hsz hl hr =>
   obtain ⟨rfl, rfl⟩ := hcc hen.symm
   have hle : xs.length * sz ≤ vs.length := by rw [hvl]; exact Nat.mul_le_mul_right _ hcap.1
   exact row_relL hcap hsz hl (all_yg (hok.yng _ (hok.ge _ _ _ he)) hw) (fun j hj => by rw [Nat.zero_add, all_cellG hok hX he hg', cell_of_heap hw]; exact getD_some (by have := flat_len hsz; omega)) fun j hj => (hr j hj).mono all_le
 | .ptr l i off, v, y, hv, h => by
  cases l with
  | succ l => cases y <;> exact h.elim
  | zero =>
   cases off with
   | succ off => cases y <;> exact h.elim
   | zero =>
    have h : match L[i]? with | some (.frz x) => .ptr x = y | _ => ∃ cs ds x, L[i]? = some (.cells cs) ∧ pures cs = some ds ∧ x.cells = ds ∧ .ptr x = y := by cases y <;> exact h
    split at h
    ·rename_i x h1
     subst h
     cases hv with | ptr _ _ _ e he hg =>
     have hbr := hok.blk 0 i e (.frz x) he (by rw [hfr]; simpa using h1)
     rw [Ctx.drop_zero] at hbr
     cases hbr with | frz _ vs u hg' hw hvv hn hl hk hr =>
     exact (DRel.ptr x e.b 0 (fun j => vs.getD j default) hvv (fun j hj => by rw [Nat.zero_add]; exact hk j hj) hl hr).mono all_le
    obtain ⟨cs, ds, x, h1, h2, h3, rfl⟩ := h
    subst h3
    cases hv with | ptr _ _ _ e he hg =>
    obtain ⟨e', he', hbr⟩ := hok.ent (l := 0) (i := i) (b := .cells cs) (by rw [hfr]; simpa using h1)
    rw [he] at he'; injection he' with he'; subst he'
    rw [Ctx.drop_zero] at hbr
    cases hbr with | cells _ vs u hg' hw hn hl hr =>
    obtain ⟨k1, k2⟩ := pures_some h2
    refine .ptr x e.b 0 (fun j => vs.getD j default) ?_ (fun j hj => ?_) (fun q hq => ?_) fun j hj => ?_
    ·simp [Ctx.all, hok.ge' hX he, hw]
    ·rw [Nat.zero_add, all_cell hok hX he hg', cell_of_heap hw]; exact getD_some (by omega)
    ·obtain ⟨j, hj, rfl⟩ := List.mem_iff_getElem.1 hq
     rw [pure_leaf (k2 j (by omega) hj)]
     exact hl _ (List.getElem_mem _)
    ·exact ((hr j (by omega)).pure _ (k2 j (by omega) hj)).mono all_le
 | .eptr .., v, y, hv, h => by cases y <;> exact h.elim
 | .win .., v, y, hv, h => by cases y <;> exact h.elim
 | .pel .., v, y, hv, h => by cases y <;> exact h.elim
 | .vp .., v, y, hv, h => by cases y <;> exact h.elim
 | .map l i, v, y, hv, h => by
  cases l with
  | succ l => cases y <;> exact h.elim
  | zero =>
   have h : ∃ es, L[i]? = some (.map es) ∧ .map es = y := by cases y <;> exact h
   obtain ⟨es, h1, rfl⟩ := h
   cases hv with | map _ _ e he hg =>
   obtain ⟨e', he', hbr⟩ := hok.ent (l := 0) (i := i) (b := .map es) (by rw [hfr]; simpa using h1)
   rw [he] at he'; injection he' with he'; subst he'
   rw [Ctx.drop_zero] at hbr
   cases hbr with | map _ ms clock hg' hw hn hk hv =>
   refine .map e.b ms clock es hn ?_ (fun j hj => (hk j hj).mono all_le) fun j hj => (hv j hj).mono all_le
   have hff := hok.far _ _ _ he fun _ => hg'.2
   simp [Ctx.all, hff.2.1, hok.ge' hX he, hw]
 | .func fn us cs, v, y, hv, h => by
  have h : match pures us, pures cs with | some us, some cs => .func fn us cs = y | _, _ => False := by cases y <;> exact h
  split at h
  ·rename_i us' cs' h1 h2
   subst h
   exact (hv.pure _ (by simp [pure?, pure_go, h1, h2])).mono all_le
  ·exact h.elim
 | .iface t x, v, y, hv, h => by
  cases y <;> try exact h.elim
  rename_i u y
  obtain ⟨rfl, h⟩ := h
  cases hv with | iface _ v _ hv => exact .iface t v y (frz_rel hok hX hfr x v y hv h)
 | .agg cs, v, y, hv, h => by
  cases y <;> try exact h.elim
  rename_i ds
  have h : Frz.FrzL L cs ds := h
  cases hv with | agg vs _ hn hl hr =>
  obtain ⟨h1, h2, h3⟩ := frzL_rel hok hX hfr cs vs ds hn hr h
  exact .agg vs ds h1 (fun q hq => h3 hl q hq) h2
 | .tuple cs, v, y, hv, h => by
  cases y <;> try exact h.elim
  rename_i ds
  have h : Frz.FrzL L cs ds := h
  cases hv with | tuple vs _ hn hr =>
  obtain ⟨h1, h2, h3⟩ := frzL_rel hok hX hfr cs vs ds hn hr h
  exact .tuple vs ds h1 h2
theorem frzL_rel (hok : Ok c fr w) (hX : c.X = []) {L : List Blk} {r : Frs} (hfr : fr = L :: r) : ∀ (xs : List AV) (vs : List Value) (ys : List D), vs.length = xs.length → (∀ j (h : j < xs.length), VRel c (vs.getD j default) xs[j]) → Frz.FrzL L xs ys →
  vs.length = ys.length ∧ (∀ j (h : j < ys.length), DRel (c.all fr w) (vs.getD j default) ys[j]) ∧ ((∀ q ∈ xs, q.leaf = true) → ∀ q ∈ ys, q.leaf = true)
 | [], vs, ys, hn, hr, h => by
  cases ys with
  | nil => exact ⟨hn, fun j h => by simp at h, fun _ q hq => by cases hq⟩
  | cons y ys => exact h.elim
 | x :: xs, vs, ys, hn, hr, h => by
  cases ys with
  | nil => exact h.elim
  | cons y ys =>
   cases vs with
   | nil => simp at hn
   | cons v vs =>
    obtain ⟨h1, h2⟩ := h
    have hx := hr 0 (by simp)
    simp only [List.getD_cons_zero, List.getElem_cons_zero] at hx
    have k0 := frz_rel hok hX hfr x v y hx h1
    obtain ⟨k1, k2, k3⟩ := frzL_rel hok hX hfr xs vs ys (by simpa using hn) (fun j hj => by have := hr (j + 1) (by simpa using hj); simpa using this) h2
    refine ⟨by simp [k1], fun j hj => ?_, fun hl q hq => ?_⟩
    ·cases j with
     | zero => exact k0
     | succ j => exact k2 j (by simpa using hj)
    ·rcases List.mem_cons.1 hq with rfl | hq
     ·exact k0.leaf_of (hx.leaf_value (hl x (by simp)))
     ·exact k3 (fun q hq => hl q (by simp [hq])) q hq
end

/-! ### entry -/
theorem lookup_args : ∀ (xs : List AV) (k t : Nat), lookup t (argsEnv k xs) = if k ≤ t ∧ t < k + xs.length then xs.getD (t - k) .undef else .undef
 | [], k, t => by simp [argsEnv, lookup]
 | x :: r, k, t => by
  simp only [argsEnv, lookup]
  split
  ·rename_i he
   have := Nat.eq_of_beq_eq_true he
   subst this
   simp
  ·rename_i he
   have hne : t ≠ k := fun e => by subst e; simp at he
   rw [lookup_args r (k + 1) t]
   by_cases h : k + 1 ≤ t ∧ t < k + 1 + r.length
   ·rw [if_pos h, if_pos (by simp; omega), show t - k = (t - (k + 1)) + 1 by omega]
    simp
   ·rw [if_neg h, if_neg (by simp; omega)]
theorem st_entry (m : Nat) {vs : List Value} {xs : List AV} (hok : Ok c fr w) (hB : c.B ≤ w.heap.size) (hn : vs.length = xs.length) (hN : xs.length ≤ N) (hr : ∀ j (h : j < xs.length), VRel c (vs.getD j default) xs[j]) :
  St N ⟨[], m⟩ c (argsEnv 0 xs) fr { tmps := vs.toArray ++ Array.replicate (N - vs.toArray.size) undef, defers := [] } w := by
 refine ⟨hok, hB, by simp; omega, rfl, fun t => ?_⟩
 rw [lookup_args]
 split
 ·rename_i h
  have ht : t < xs.length := by omega
  have e1 : (vs.toArray ++ Array.replicate (N - vs.toArray.size) undef).getD t undef = vs.getD t default := by
   rw [Array.getD_eq_getD_getElem?, Array.getElem?_append_left (by simp; omega), List.getElem?_toArray, getD_some (by omega)]; rfl
  rw [e1]
  have := hr t ht
  simpa [List.getD_eq_getElem?_getD, List.getElem?_eq_getElem ht] using this
 ·exact .undef _
theorem Ok.frame (h : Ok c fr w) : Ok { c with ents := [] :: c.ents } ([] :: fr) w := by
 have hent : ∀ l i e, ({ c with ents := [] :: c.ents } : Ctx).ent l i = some e → ∃ k, l = k + 1 ∧ c.ent k i = some e := by
  intro l i e he
  cases l with
  | zero => simp [Ctx.ent, Ctx.raw] at he
  | succ l => exact ⟨l, rfl, by simpa [Ctx.ent, Ctx.raw] using he⟩
 refine ⟨by simpa using h.len, fun l => ?_, fun l i e b he hb => ?_, fun l i e b he hg hb => ?_, fun l i e l' i' e' he he' hbb => ?_, fun l i e he => ?_, fun l i e he hfz => ?_, h.mod, h.below, h.yng⟩
 ·cases l with
  | zero => rfl
  | succ l => simpa using h.lens l
 ·obtain ⟨k, rfl, he⟩ := hent _ _ _ he
  exact h.blk k i e b he (by simpa using hb)
 ·cases l with
  | zero => simp [Ctx.raw] at he
  | succ l => exact h.gho l i e b (by simpa [Ctx.raw] using he) hg (by simpa using hb)
 ·obtain ⟨k, rfl, he⟩ := hent _ _ _ he
  obtain ⟨k', rfl, he'⟩ := hent _ _ _ he'
  obtain ⟨r1, r2⟩ := h.inj _ _ _ _ _ _ he he' hbb
  exact ⟨by omega, r2⟩
 ·obtain ⟨k, rfl, he⟩ := hent _ _ _ he
  exact h.ge _ _ _ he
 ·obtain ⟨k, rfl, he⟩ := hent _ _ _ he
  exact h.far _ _ _ he hfz
/-- what the end of a body must be -/
def EndPure (T : TT) (rs : List ResultVar) (r : D) : Ex → Env → Frs → Prop
 | .normal, s, fr => match fr with | L :: _ => ares T fr s rs fun x => Frz L x r | [] => False
 | .ret, s, fr => match fr with | L :: _ => ares T fr s rs fun x => Frz L x r | [] => False
 | _, _, _ => False
theorem pure_of_awp (hT : T.okB P = true) {f : FuncId} {fn : Func} {body : Code} (hf : P.funcs[f]? = some fn) (hb : fn.body = some body) (hname : fnOk P f = true) {args : List D} {r : D} (hN : Nat.ble args.length fn.ntmps = true)
  (h : awp T P fn.ntmps Fx0 js body (EndPure T fn.results.toList r) (argsEnv 0 (args.map .d)) [[]]) : Pure P f args r := by
 have hN := Nat.le_of_ble_eq_true hN
 refine ⟨fun H w vs hm hby hn hr => .inl ⟨hname, ?_⟩⟩
 let c : Ctx := ⟨w.heap.size, [], w, H, [[]]⟩
 have hok : Ok c [[]] w := by
  have hr : ∀ l i, c.raw l i = none := fun l i => by cases l <;> simp [Ctx.raw, c]
  have he : ∀ l i, c.ent l i = none := fun l i => by unfold Ctx.ent; rw [hr]; rfl
  refine ⟨rfl, fun l => ?_, fun l i e b h => (by rw [he] at h; cases h), fun l i e b h => (by rw [hr] at h; cases h), fun l i e l' i' e' h => (by rw [he] at h; cases h), fun l i e h => (by rw [he] at h; cases h), fun l i e h => (by rw [he] at h; cases h), hm, Kept.refl _ _, fun b hb => ?_⟩
  ·cases l <;> rfl
  ·rcases hb with hb | hb
   ·exact Nat.le_trans hby hb
   ·cases hb
 have hs := st_entry 0 (N := fn.ntmps) (xs := args.map .d) hok (Nat.le_refl _) (by simpa using hn) (by simpa using hN) fun j hj => by
  rw [List.getElem_map]; exact .d _ _ (hr j (by simpa using hj))
 refine calls_of_wp hf hb (wp_mono (awp_sound hT body h hs) ?_)
 rintro e a' w' ⟨ex, s', fr', c', h1, h2, ⟨h3, _⟩, h4⟩
 have hB' : c'.B = w.heap.size := h3.B
 have hw0 : c'.w0 = w := h3.w0
 have hfree : c.free = since w.heap.size := by funext b; simp [Ctx.free, since, c]
 have hX : H.ext c'.H (since w.heap.size) := hfree ▸ h3.X
 have fin : ∀ L r', fr' = L :: r' → ares T fr' s' fn.results.toList (fun x => Frz L x r) → a'.defers = [] ∧ ∃ v, (results fn a'.tmps).run P w' = .ok v w' ∧ ∃ v' H', Ending.returned v = .returned v' ∧ H.ext H' (since w.heap.size) ∧ Models w' H' ∧ DRel H' v' r ∧ Below w.heap.size w w' := by
  intro L r' hfr hk
  obtain ⟨v, x, k1, k2, k3⟩ := ares_spec hT h4 hk
  have hbl := h4.ok.below
  rw [show c'.free = c.free from h3.free, hfree, hw0] at hbl
  replace hbl := hbl.to_below
  refine ⟨h4.ds, v, k1, v, c'.all fr' w', rfl, ?_, all_models h4.ok.mod, frz_rel h4.ok h3.Xe hfr x v r k2 k3, hbl⟩
  exact all_ext (hX) (by rw [hB']; exact Nat.le_refl _)
 cases ex with
 | normal =>
  cases e <;> simp [exRel] at h1
  simp only [EndPure] at h2
  split at h2
  ·exact fin _ _ rfl h2
  ·exact h2.elim
 | ret =>
  cases e <;> simp [exRel] at h1
  simp only [EndPure] at h2
  split at h2
  ·exact fin _ _ rfl h2
  ·exact h2.elim
 | exit i => exact h2.elim
 | goto i => exact h2.elim
 | pan v => exact h2.elim
end
end Go.Proofs.Ytemfpemejagndaa.Fw

