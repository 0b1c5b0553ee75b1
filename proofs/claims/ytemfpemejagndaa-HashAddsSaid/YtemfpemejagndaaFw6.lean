/- Each operation does what its abstract step says: addresses, stores, new variables. -/
import Derived.Test.YtemfpemejagndaaFw5
set_option autoImplicit false
set_option linter.unusedVariables false
set_option linter.unusedSimpArgs false
namespace Go.Proofs.Ytemfpemejagndaa.Fw
open Go Go.RowKit

section
variable {P : Program} {t : TypeId} {ti : TI} {i : TypeInfo} {d : TypeDesc} {z : Value} {c : Ctx} {fr : Frs} {w : World}

theorem run_fieldAt (F : TFacts P t ti i d z) {f o n : Nat} {g : Bool} (hf : ti.fields[f]? = some (o, n, g)) (hn : n ≠ 0) (b off : Nat) :
  (Instr.fieldAt t (.pointer (some ⟨b, off, none⟩)) f).run P w = .ok (.pointer (some ⟨b, off + o, none⟩)) w := by
 obtain ⟨fs, fd, rfl, h1, h2, h3, ⟨j, h4, h5⟩, _⟩ := F.struct_field hf
 unfold Instr.fieldAt
 simp only [Sem.run_bind, F.run_underlying, Result.andThen_ok, h1, Instr.sureAddr, Sem.run_pure]
 simp [fieldPlace, sizeOf, typeInfo, h4, h5, hn, h2, addr_add]
theorem s_field (F : TFacts P t ti i d z) {v : Value} {x : AV} {f : Nat} (hx : VRel c v x) {K : AV → Prop} (h : afield ti x f K) :
  ∃ v' r, (Instr.fieldAt t v f).run P w = .ok v' w ∧ VRel c v' r ∧ K r := by
 unfold afield at h
 split at h
 ·rename_i o n g hf
  split at h
  ·exact h.elim
  ·rename_i hn
   have hn : n ≠ 0 := fun e => by subst e; simp at hn
   split at h
   ·cases hx with | ptr _ _ _ e he hg => exact ⟨_, _, run_fieldAt F hf hn _ _, .ptr _ _ _ e he hg, h⟩
   ·rename_i l j k off
    cases hx with | eptr _ _ _ _ e he hg => exact ⟨_, _, run_fieldAt F hf hn _ _, by rw [Nat.add_assoc]; exact .eptr l j k (off + o) e he hg, h⟩
   ·rename_i x
    cases hx with | d _ _ hx =>
    cases hx with | ptr _ b o' vals hv hH hl hr => exact ⟨_, _, run_fieldAt F hf hn _ _, .pel x (o + 1) b o' vals hH hl hr, h⟩
   ·rename_i x
    cases hx with | pel _ _ b o' vals hH hl hr => exact ⟨_, _, run_fieldAt F hf hn _ _, .pel x (o + 1) b o' vals hH hl hr, h⟩
   ·rename_i x off
    cases hx with | pel _ _ b o' vals hH hl hr =>
    refine ⟨_, _, run_fieldAt F hf hn _ _, ?_, h⟩
    have := VRel.pel (c := c) x (off + 1 + o) b o' vals hH hl hr
    have e : o' + (off + 1 - 1) + o = o' + (off + 1 + o - 1) := by omega
    rw [e]; exact this
   ·exact h.elim
 ·exact h.elim
theorem run_indexAt (F : TFacts P t ti i d z) {e : TypeId} (hk : ti.kind = .slice e) (b o n cap k : Nat) (kd : IntKind) (hlt : k < n) :
  (Instr.indexAt t (.slice (some ⟨b, o, none⟩) n cap) (.int kd k)).run P w = .ok (.pointer (some ⟨b, o + k * ti.esz, none⟩)) w := by
 have hd := F.slice hk
 subst hd
 obtain ⟨j, zz, h1, h2, _⟩ := F.elemInfo hk
 unfold Instr.indexAt
 simp only [Sem.run_bind, asIntOf, Sem.run_pure, Result.andThen_ok, F.run_underlying]
 simp [hlt, sizeOf, typeInfo, h1, h2, addr_add]
theorem DRel.elem {H : Imm} {v : Value} {sz : Nat} {xs : List D} (h : DRel H v (.os sz xs)) {k : Nat} {x : D} (hk : xs[k]? = some x) :
  ∃ b o cap, v = .slice (some ⟨b, o, none⟩) xs.length cap ∧ ∃ vals : Nat → Value, (∀ j, j < x.cells.length → H.cell b (o + k * sz + j) = some (vals j)) ∧ (∀ y ∈ x.cells, y.leaf = true) ∧ ∀ j (h : j < x.cells.length), DRel H (vals j) (x.cells[j]) := by
 cases h with | os a cap _ _ b o vals hcap hsz ha hH hl hr =>
 have hmem := List.mem_of_getElem? hk
 have hkl := (List.getElem?_eq_some_iff.1 hk).1
 have hne : xs ≠ [] := fun e => by subst e; simp at hk
 have hkc := hsz x hmem
 have hfl := flat_len hsz
 have hidx : ∀ q, q < x.cells.length → k * sz + q < (flat xs).length := fun q hq => by
  rw [hfl]; calc k * sz + q < k * sz + sz := by omega
   _ = (k + 1) * sz := by rw [Nat.add_mul]; omega
   _ ≤ xs.length * sz := Nat.mul_le_mul_right _ (by omega)
 refine ⟨b, o, cap, by rw [ha hne], fun j => vals (k * sz + j), fun j hj => ?_, flat_leaf hl hmem, fun j hj => ?_⟩
 ·rw [Nat.add_assoc]; exact hH _ (hidx j hj)
 ·have h1 := hr (k * sz + j) (hidx j hj)
  have h2 := flat_get hsz k j x hk (by omega)
  rw [List.getElem?_eq_getElem (hidx j hj), List.getElem?_eq_getElem hj] at h2
  injection h2 with h2
  rw [h2] at h1
  exact h1
theorem s_indexD (F : TFacts P t ti i d z) {e : TypeId} (hk : ti.kind = .slice e) {v vi : Value} {sz : Nat} {xs : List D} {x : AV} (hx : DRel c.H v (.os sz xs)) (hi : VRel c vi x) {K : AV → Prop} (h : indexD ti.esz sz xs x K) :
  ∃ v' r, (Instr.indexAt t v vi).run P w = .ok v' w ∧ VRel c v' r ∧ K r := by
 unfold indexD at h
 split at h
 ·rename_i kd n
  split at h
  ·rename_i hs
   have hs := Nat.eq_of_beq_eq_true hs
   obtain ⟨k, y, rfl, hy, h⟩ := h
   cases hi with | d _ _ hi => cases hi with | int =>
   obtain ⟨b, o, cap, rfl, vals, h1, h2, h3⟩ := hx.elem hy
   refine ⟨_, _, run_indexAt F hk b o _ cap k kd (List.getElem?_eq_some_iff.1 hy).1, ?_, h⟩
   rw [← hs]
   exact .pel y 0 b (o + k * sz) vals h1 h2 h3
  ·exact h.elim
 ·exact h.elim
theorem s_index (F : TFacts P t ti i d z) {v vi : Value} {x xi : AV} (hx : VRel c v x) (hi : VRel c vi xi) {K : AV → Prop} (h : aindex ti x xi K) :
  ∃ v' r, (Instr.indexAt t v vi).run P w = .ok v' w ∧ VRel c v' r ∧ K r := by
 unfold aindex at h
 split at h
 ·rename_i e hk
  split at h
  ·cases hx with | d _ _ hx => exact s_indexD F hk hx.toOs hi h
  ·cases hx with | d _ _ hx => exact s_indexD F hk hx hi h
  ·cases hx with | full a _ _ hx => exact s_indexD F hk hx.toOs hi h
  ·cases hx with
   | own _ _ _ _ _ _ _ hx => exact s_indexD F hk hx.toOs hi h
   | own0 a _ _ sz => exact s_indexD F hk (DRel.zero0 a _).toOs hi h
  ·rename_i l j off len sz
   split at h
   ·rename_i kd n
    split at h
    ·rename_i hs
     have hs := Nat.eq_of_beq_eq_true hs
     obtain ⟨k, rfl, hlt, h⟩ := h
     cases hi with | d _ _ hi => cases hi with | int =>
     cases hx with
     | arr0 => omega
     | arr cap _ _ _ _ _ e' he hg hes hc =>
     refine ⟨_, _, run_indexAt F hk _ _ _ cap k kd hlt, ?_, h⟩
     have := VRel.eptr (c := c) l j (off + k) 0 e' he hg
     rw [hes, Nat.add_zero, Nat.add_mul, hs] at this
     rw [hs]; exact this
    ·exact h.elim
   ·exact h.elim
  ·exact h.elim
 ·exact h.elim
/-! ### new variables -/
theorem run_newVar (v : Value) (t : TypeId) : (newVar t v).run P w = .ok ⟨w.heap.size, 0, none⟩ (w.alloc (.cells v.cells t)) := by
 rfl
theorem s_new {l : List Blk} {r : Frs} (hok : Ok c (l :: r) w) (hB : c.B ≤ w.heap.size) {v : Value} {vs : List Value} {cs : List AV} (hv : v.cells = vs.toArray) (hn : vs.length = cs.length) (hl : ∀ x ∈ cs, x.leaf = true)
  (hr : ∀ j (h : j < cs.length), VRel c (vs.getD j default) (cs[j])) (t : TypeId) :
  ∃ c', c.le c' ∧ c'.B = c.B ∧ Ok c' ((l ++ [.cells cs]) :: r) (w.alloc (.cells v.cells t)) ∧ VRel c' (.pointer (some ⟨w.heap.size, 0, none⟩)) (.ptr 0 l.length 0) := by
 obtain ⟨c', h1, h2, h3, _, h4, h5⟩ := hok.new (o := .cells v.cells t) (b := .cells cs) hB ⟨w.heap.size, false, 0, 0, 0⟩ rfl rfl fun c' hle => by
  exact .cells cs vs t ⟨rfl, rfl⟩ (by rw [hv]; exact heap_alloc_new w _) hn hl fun j hj => (hr j hj).mono hle
 exact ⟨c', h1, h3, h5, .ptr 0 l.length 0 _ h4 rfl⟩
/-- the cells of a value -/
theorem VRel.cells {v : Value} {x : AV} (h : VRel c v x) (hl : ∀ y ∈ x.cells, y.leaf = true) :
  ∃ vs : List Value, v.cells = vs.toArray ∧ vs.length = x.cells.length ∧ ∀ j (hj : j < x.cells.length), VRel c (vs.getD j default) (x.cells[j]) := by
 have one : ∀ (v : Value) (x : AV), (∀ cs, v ≠ .agg cs) → VRel c v x → v.cells = [v].toArray ∧ ∀ j (hj : j < [x].length), VRel c ([v].getD j default) ([x][j]) := by
  intro v x hv hx
  refine ⟨by cases v <;> first | rfl | exact absurd rfl (hv _), fun j hj => ?_⟩
  cases j with
  | zero => exact hx
  | succ j => simp at hj
 cases h with
 | agg vs cs hn hl hr => exact ⟨vs, rfl, hn, hr⟩
 | d v x h =>
  by_cases hx : ∃ cs, x = .agg cs
  ·obtain ⟨cs, rfl⟩ := hx
   cases h with | agg vs _ hn hl hr =>
   exact ⟨vs, rfl, by simp [AV.cells, hn], fun j hj => by simp only [AV.cells, List.getElem_map]; exact .d _ _ (hr j (by simpa [AV.cells] using hj))⟩
  ·have e : (AV.d x).cells = [.d x] := by cases x <;> first | rfl | exact absurd ⟨_, rfl⟩ hx
   have hlf : x.leaf = true := by have := hl (.d x) (by rw [e]; simp); exact this
   obtain ⟨h1, h2⟩ := one v (.d x) (h.leaf_value hlf).1 (.d _ _ h)
   exact ⟨[v], h1, by rw [e]; rfl, fun j hj => by have := h2 j (by rw [e] at hj; exact hj); simpa [e] using this⟩
 | undef v => exact absurd (hl .undef (by simp [AV.cells])) (by simp [AV.leaf])
 | tuple vs cs hn hr => exact absurd (hl (.tuple cs) (by simp [AV.cells])) (by simp [AV.leaf])
 | nil sz => obtain ⟨h1, h2⟩ := one _ _ (by simp) (VRel.nil (c := c) sz); exact ⟨_, h1, rfl, h2⟩
 | own0 a lvl i sz => obtain ⟨h1, h2⟩ := one _ _ (by simp) (VRel.own0 (c := c) a lvl i sz); exact ⟨_, h1, rfl, h2⟩
 | full a sz xs h => obtain ⟨h1, h2⟩ := one _ _ (by simp) (VRel.full a sz xs h); exact ⟨_, h1, rfl, h2⟩
 | own a cap lvl i sz xs e h he hg hs hn hc => obtain ⟨h1, h2⟩ := one _ _ (by simp) (VRel.own a cap lvl i sz xs e h he hg hs hn hc); exact ⟨_, h1, rfl, h2⟩
 | arr cap lvl i off len sz e he hg hs hc => obtain ⟨h1, h2⟩ := one _ _ (by simp) (VRel.arr cap lvl i off len sz e he hg hs hc); exact ⟨_, h1, rfl, h2⟩
 | arr0 a lvl i off sz => obtain ⟨h1, h2⟩ := one _ _ (by simp) (VRel.arr0 (c := c) a lvl i off sz); exact ⟨_, h1, rfl, h2⟩
 | garr0 a lvl i sz => obtain ⟨h1, h2⟩ := one _ _ (by simp) (VRel.garr0 (c := c) a lvl i sz); exact ⟨_, h1, rfl, h2⟩
 | garr a cap lvl i n sz e he hg hn hc => obtain ⟨h1, h2⟩ := one _ _ (by simp) (VRel.garr a cap lvl i n sz e he hg hn hc); exact ⟨_, h1, rfl, h2⟩
 | ptr lvl i off e he hg => obtain ⟨h1, h2⟩ := one _ _ (by simp) (VRel.ptr lvl i off e he hg); exact ⟨_, h1, rfl, h2⟩
 | eptr lvl i k off e he hg => obtain ⟨h1, h2⟩ := one _ _ (by simp) (VRel.eptr lvl i k off e he hg); exact ⟨_, h1, rfl, h2⟩
 | win cap lvl i off len e he hg hc => obtain ⟨h1, h2⟩ := one _ _ (by simp) (VRel.win cap lvl i off len e he hg hc); exact ⟨_, h1, rfl, h2⟩
 | pel x off b o vals hH hl' hr => obtain ⟨h1, h2⟩ := one _ _ (by simp) (VRel.pel x off b o vals hH hl' hr); exact ⟨_, h1, rfl, h2⟩
 | vp a x h => obtain ⟨h1, h2⟩ := one _ _ (by simp) (VRel.vp a x h); exact ⟨_, h1, rfl, h2⟩
 | map lvl i e he hg => obtain ⟨h1, h2⟩ := one _ _ (by simp) (VRel.map lvl i e he hg); exact ⟨_, h1, rfl, h2⟩
 | func fn us vs bs cs hm hn hq hr => obtain ⟨h1, h2⟩ := one _ _ (by simp) (VRel.func fn us vs bs cs hm hn hq hr); exact ⟨_, h1, rfl, h2⟩
 | iface t v x h => obtain ⟨h1, h2⟩ := one _ _ (by simp) (VRel.iface t v x h); exact ⟨_, h1, rfl, h2⟩
/-! ### stores -/
theorem setK_spec {α : Type} : ∀ {l : List α} {i : Nat} {b : α} {K : List α → Prop}, setK l i b K → i < l.length ∧ K (l.set i b)
 | [], i, b, K, h => by cases i <;> exact h.elim
 | x :: l, 0, b, K, h => ⟨by simp, h⟩
 | x :: l, i + 1, b, K, h => by
  obtain ⟨h1, h2⟩ := setK_spec (l := l) (i := i) h
  exact ⟨by simp; omega, h2⟩
theorem setBlkK_spec {fr : Frs} {lvl i : Nat} {b : Blk} {K : Frs → Prop} (h : setBlkK fr lvl i b K) : ∃ r, fr[lvl]? = some r ∧ i < r.length ∧ K (fr.set lvl (r.set i b)) := by
 unfold setBlkK at h
 split at h
 ·rename_i l hl
  obtain ⟨h1, h2⟩ := setK_spec h
  exact ⟨l, hl, h1, (setK_spec h2).2⟩
 ·exact h.elim
theorem fz_spec {v : AV} {K : AV → Prop} (h : fz v K) : K v := by cases v <;> exact h
theorem cellsK_spec : ∀ {l : List AV} {off : Nat} {vs : List AV} {K : List AV → Prop}, cellsK l off vs K → (vs = [] ∨ off + vs.length ≤ l.length) ∧ (∀ v ∈ vs, v.leaf = true) ∧ K (l.take off ++ vs ++ l.drop (off + vs.length))
 | l, off, [], K, h => by
  refine ⟨.inl rfl, by simp, ?_⟩
  have h : K l := by cases l <;> cases off <;> exact h
  simpa using h
 | [], off, v :: vs, K, h => by cases off <;> exact h.elim
 | x :: l, 0, v :: vs, K, h => by
  rw [cellsK_zero] at h
  split at h
  ·rename_i hv
   have h := fz_spec h
   obtain ⟨h1, h2, h3⟩ := cellsK_spec (l := l) h
   refine ⟨.inr ?_, fun y hy => ?_, by simpa [Nat.add_comm] using h3⟩
   ·rcases h1 with h1 | h1
    ·subst h1; simp
    ·simp; omega
   ·rcases List.mem_cons.1 hy with rfl | hy
    ·exact hv
    ·exact h2 y hy
  ·exact h.elim
 | x :: l, off + 1, v :: vs, K, h => by
  obtain ⟨h1, h2, h3⟩ := cellsK_spec (l := l) (off := off) (vs := v :: vs) h
  refine ⟨.inr ?_, h2, ?_⟩
  ·rcases h1 with h1 | h1
   ·cases h1
   ·simp at h1 ⊢; omega
  ·have e : off + 1 + (v :: vs).length = (off + (v :: vs).length) + 1 := by omega
   rw [e]
   simpa using h3
theorem oneCell_of {v : Value} (h : (∀ cs, v ≠ .agg cs) ∧ ∀ vs, v ≠ .tuple vs) : v.oneCell' = true := by
 cases v <;> first | rfl | exact absurd rfl (h.1 _) | exact absurd rfl (h.2 _)
theorem run_storeVar (F : TFacts P t ti i d z) {b off : Nat} {cur : List Value} {u : TypeId} {v : Value} {vs : List Value} (hg : w.heap[b]? = some (.cells cur.toArray u (0, 0))) (hv : v.cells = vs.toArray) (hl : vs.length = ti.sz) (hle : off + vs.length ≤ cur.length)
  (h1 : ∀ v ∈ vs, v.oneCell' = true) : (storeVar t ⟨b, off, none⟩ v).run P w = .ok () (w.setRow b (cur.take off ++ vs ++ cur.drop (off + vs.length)).toArray) := by
 unfold storeVar
 have hs : v.cells.size = ti.sz := by rw [hv]; simpa using hl
 have := run_storeCells_at (P := P) b off u vs 0 cur.toArray w hg (by simpa using hle) h1
 have hs' : vs.toArray.size = ti.sz := by simpa using hl
 simp only [Sem.run_bind, F.run_sizeOf, Result.andThen_ok, hv, hs', ne_eq, not_true_eq_false, if_false]
 simpa using this
theorem setRow_other (w : World) (g b : Nat) (cs : Array Value) (h : b ≠ g) : (w.setRow g cs).heap[b]? = w.heap[b]? := by
 simp only [World.setRow, Array.getElem?_modify]
 rw [if_neg (fun e => h e.symm)]
theorem fixNil_rel {v : Value} {x : AV} (h : VRel c v x) : VRel c v (fixNil ti x) := by
 unfold fixNil
 split
 ·cases h; exact .nil _
 ·exact h
theorem s_dnK {l : Nat} {v : Value} {x : AV} {K : AV → Prop} (hx : VRel c v x) (h : dnK l x K) : ∃ r, VRel (c.drop l) v r ∧ K r := by
 cases l with
 | zero => rw [Ctx.drop_zero]; exact ⟨x, hx, h⟩
 | succ n =>
  simp only [dnK] at h
  split at h
  ·rename_i y hy; exact ⟨y, hx.low y hy, h⟩
  ·exact h.elim
theorem pures_some {l : List AV} {l' : List D} (h : pures l = some l') : l'.length = l.length ∧ ∀ j (h : j < l.length) (h' : j < l'.length), pure? l[j] = some l'[j] := by
 induction l generalizing l' with
 | nil => simp [pures] at h; subst h; simp
 | cons x r ih =>
  simp only [pures] at h
  split at h
  ·rename_i y ys hy hys
   injection h with h
   subst h
   obtain ⟨h1, h2⟩ := ih hys
   refine ⟨by simp [h1], fun j hj hj' => ?_⟩
   cases j with
   | zero => exact hy
   | succ j => exact h2 j (by simpa using hj) (by simpa using hj')
  ·cases h
theorem pure_go : ∀ (l : List AV), pure?.go l = pures l
 | [] => rfl
 | x :: r => by simp only [pure?.go, pures, pure_go r]
theorem pure_leaf {x : AV} {y : D} (h : pure? x = some y) : y.leaf = x.leaf := by
 cases x <;> simp only [pure?, Option.map_eq_some_iff] at h <;> first | (cases h; done) | (injection h with h; subst h; rfl) | (obtain ⟨_, _, rfl⟩ := h; rfl) | (split at h <;> first | (injection h with h; subst h; rfl) | cases h)
theorem DRel.nil0 {H : Imm} (sz : Nat) : DRel H (.slice none 0 0) (.slice sz []) := .slice none 0 sz [] 0 0 (fun _ => default) (by simp) (by simp) (by simp) (by simp) (by simp [flat]) (by simp [flat]) (by simp [flat])
theorem VRel.pure {v : Value} {x : AV} (h : VRel c v x) : ∀ y, pure? x = some y → DRel c.H v y := by
 induction h with
 | undef v => intro y hy; cases hy
 | d v x h => intro y hy; injection hy with hy; subst hy; exact h
 | nil sz => intro y hy; injection hy with hy; subst hy; exact .nil0 sz
 | own0 a lvl i sz => intro y hy; injection hy with hy; subst hy; exact .zero0 a sz
 | full a sz xs h => intro y hy; injection hy with hy; subst hy; exact h
 | own a cap lvl i sz xs e h => intro y hy; injection hy with hy; subst hy; exact h
 | arr => intro y hy; cases hy
 | arr0 => intro y hy; cases hy
 | garr => intro y hy; cases hy
 | garr0 => intro y hy; cases hy
 | ptr => intro y hy; cases hy
 | eptr => intro y hy; cases hy
 | win => intro y hy; cases hy
 | pel => intro y hy; cases hy
 | vp => intro y hy; cases hy
 | map => intro y hy; cases hy
 | func fn us vs bs cs hm hn hq hr ihq ih =>
  intro y hy
  simp only [pure?, pure_go] at hy
  split at hy
  ·rename_i bs' cs' hbs hcs
   injection hy with hy
   subst hy
   obtain ⟨h1, h2⟩ := pures_some hcs
   obtain ⟨h3, h4⟩ := pures_some hbs
   exact .func fn us vs bs' cs' (by omega) (by omega) (fun j hj => ihq j (by omega) _ (h4 j (by omega) hj)) fun j hj => ih j (by omega) _ (h2 j (by omega) hj)
  ·cases hy
 | iface t v x h ih =>
  intro y hy
  simp only [pure?, Option.map_eq_some_iff] at hy
  obtain ⟨l, hl, rfl⟩ := hy
  exact .iface t v l (ih _ hl)
 | agg vs cs hn hl hr ih =>
  intro y hy
  simp only [pure?, pure_go, Option.map_eq_some_iff] at hy
  obtain ⟨l, hl', rfl⟩ := hy
  obtain ⟨h1, h2⟩ := pures_some hl'
  refine .agg vs l (by omega) (fun z hz => ?_) fun j hj => ih j (by omega) _ (h2 j (by omega) hj)
  obtain ⟨j, hj, rfl⟩ := List.mem_iff_getElem.1 hz
  rw [pure_leaf (h2 j (by omega) hj)]
  exact hl _ (List.getElem_mem _)
 | tuple vs cs hn hr ih =>
  intro y hy
  simp only [pure?, pure_go, Option.map_eq_some_iff] at hy
  obtain ⟨l, hl, rfl⟩ := hy
  obtain ⟨h1, h2⟩ := pures_some hl
  exact .tuple vs l (by omega) fun j hj => ih j (by omega) _ (h2 j (by omega) hj)
theorem getD_mid {vs cur : List Value} {off j : Nat} (hle : off + vs.length ≤ cur.length) : (cur.take off ++ vs ++ cur.drop (off + vs.length)).getD j default =
  if j < off then cur.getD j default else if j < off + vs.length then vs.getD (j - off) default else cur.getD j default := by
 simp only [List.getD_eq_getElem?_getD]
 congr 1
 have h0 : (cur.take off).length = off := by simp; omega
 split
 ·rename_i h
  rw [List.append_assoc, List.getElem?_append_left (by omega), List.getElem?_take, if_pos h]
 ·split
  ·rename_i h1 h2
   rw [List.append_assoc, List.getElem?_append_right (by omega), h0, List.getElem?_append_left (by omega)]
  ·rename_i h1 h2
   have h3 : (cur.take off ++ vs).length = off + vs.length := by simp; omega
   rw [List.getElem?_append_right (by omega), List.getElem?_drop, h3, show off + vs.length + (j - (off + vs.length)) = j from by omega]
theorem getElem_mid {α : Type} {vs cur : List α} {off j : Nat} (hle : off + vs.length ≤ cur.length) (hj : j < (cur.take off ++ vs ++ cur.drop (off + vs.length)).length) (hj' : j < cur.length) :
  (cur.take off ++ vs ++ cur.drop (off + vs.length))[j] = if h1 : j < off then cur[j] else if h2 : j < off + vs.length then vs[j - off]'(by omega) else cur[j] := by
 have h0 : (cur.take off).length = off := by simp; omega
 apply Option.some.inj
 rw [← List.getElem?_eq_getElem]
 split
 ·rename_i h
  rw [List.append_assoc, List.getElem?_append_left (by omega), List.getElem?_take, if_pos h, List.getElem?_eq_getElem]
 ·split
  ·rename_i h1 h2
   rw [List.append_assoc, List.getElem?_append_right (by omega), h0, List.getElem?_append_left (by omega), List.getElem?_eq_getElem]
  ·rename_i h1 h2
   have h3 : (cur.take off ++ vs).length = off + vs.length := by simp; omega
   rw [List.getElem?_append_right (by omega), List.getElem?_drop, ← List.getElem?_eq_getElem, h3, show off + vs.length + (j - (off + vs.length)) = j from by omega]
theorem mid_rel {α : Type} (R : Value → α → Prop) {vs ys : List Value} {cs zs : List α} {off : Nat} (hn : cs.length ≤ vs.length) (hm : ys.length = zs.length) (hle : off + zs.length ≤ cs.length)
  (h1 : ∀ j (h : j < cs.length), R (vs.getD j default) cs[j]) (h2 : ∀ j (h : j < zs.length), R (ys.getD j default) zs[j]) (m : Nat) (h : m < (cs.take off ++ zs ++ cs.drop (off + zs.length)).length) :
  R ((vs.take off ++ ys ++ vs.drop (off + ys.length)).getD m default) ((cs.take off ++ zs ++ cs.drop (off + zs.length))[m]) := by
 have hm' : m < cs.length := by simp at h; omega
 rw [getD_mid (by omega), hm, getElem_mid hle h hm']
 split
 ·exact h1 m hm'
 ·split
  ·exact h2 (m - off) (by omega)
  ·exact h1 m hm'
theorem flat_set {sz : Nat} : ∀ {xs : List D} {k : Nat} {y : D}, (∀ x ∈ xs, x.cells.length = sz) → y.cells.length = sz → k < xs.length → flat (xs.set k y) = (flat xs).take (k * sz) ++ y.cells ++ (flat xs).drop (k * sz + y.cells.length)
 | [], k, y, _, _, hk => by simp at hk
 | x :: xs, 0, y, h, hy, _ => by
  have hx := h x (by simp)
  simp [flat, List.drop_append, hx, hy]
 | x :: xs, k + 1, y, h, hy, hk => by
  have hx := h x (by simp)
  have ih := flat_set (fun x hx => h x (by simp [hx])) hy (show k < xs.length by simpa using hk)
  simp only [flat] at ih
  simp only [flat, List.set_cons_succ, List.flatMap_cons]
  rw [ih]
  have e1 : (k + 1) * sz = x.cells.length + k * sz := by rw [Nat.add_mul, hx]; omega
  rw [e1, List.take_length_add_append, Nat.add_assoc, List.drop_length_add_append]
  simp [List.append_assoc]
theorem flat_part {sz : Nat} : ∀ {xs : List D} {k off : Nat} {cs : List D} {y : D}, (∀ x ∈ xs, x.cells.length = sz) → xs[k]? = some (.agg cs) → off < sz → flat (xs.set k (.agg (cs.set off y))) = (flat xs).take (k * sz + off) ++ [y] ++ (flat xs).drop (k * sz + off + 1)
 | [], k, off, cs, y, _, hk, _ => by simp at hk
 | x :: xs, 0, off, cs, y, h, hk, ho => by
  have hx := h x (by simp)
  simp at hk; subst hk
  simp only [D.cells] at hx
  simp only [flat, List.set_cons_zero, List.flatMap_cons, D.cells, Nat.zero_mul, Nat.zero_add]
  rw [List.take_append_of_le_length (by omega), List.drop_append_of_le_length (by omega), List.set_eq_take_append_cons_drop, if_pos (by omega)]
  simp
 | x :: xs, k + 1, off, cs, y, h, hk, ho => by
  have hx := h x (by simp)
  have ih := flat_part (y := y) (fun x hx => h x (by simp [hx])) (show xs[k]? = some (.agg cs) by simpa using hk) ho
  simp only [flat] at ih
  simp only [flat, List.set_cons_succ, List.flatMap_cons]
  rw [ih]
  have e1 : (k + 1) * sz + off = x.cells.length + (k * sz + off) := by rw [Nat.add_mul, hx]; omega
  rw [e1, List.take_length_add_append, Nat.add_assoc x.cells.length, List.drop_length_add_append]
  simp [List.append_assoc]
theorem s_store (F : TFacts P t ti i d z) (hok : Ok c fr w) {v vx : Value} {x y : AV} (hx : VRel c vx x) (hy : VRel c v y) {K : Frs → Prop} (h : astore ti fr x y K) :
  ∃ w' fr', (Instr.storeAt t vx v).run P w = .ok () w' ∧ Ok c fr' w' ∧ K fr' ∧ w.heap.size = w'.heap.size := by
 unfold astore at h
 split at h
 ·rename_i l j off
  split at h
  ·rename_i cs hb
   rw [blk_bind] at hb
   obtain ⟨e, he, hbr⟩ := hok.ent hb
   cases hx with | ptr _ _ _ e' he' hg' =>
   rw [he] at he'; injection he' with he'; subst he'
   cases hbr with | cells _ vs u hg hw hn hl hr =>
   obtain ⟨y', hy', h⟩ := s_dnK (fixNil_rel (ti := ti) hy) h
   split at h
   ·rename_i hsz
    have hsz := Nat.eq_of_beq_eq_true hsz
    obtain ⟨h1, h2, h3⟩ := cellsK_spec h
    obtain ⟨r, h4, h5, h6⟩ := setBlkK_spec h3
    obtain ⟨ys, k1, k2, k3⟩ := hy'.cells h2
    by_cases hne : y'.cells = []
    ·-- nothing is stored
     have hys : ys = [] := List.eq_nil_of_length_eq_zero (by rw [k2, hne]; rfl)
     subst hys
     have hz : ti.sz = 0 := by rw [← hsz, hne]; rfl
     refine ⟨w, _, ?_, ?_, h6, rfl⟩
     ·have hcz : v.cells.size = 0 := by rw [k1]; rfl
      simp only [Instr.storeAt, Instr.sureAddr, Sem.run_bind, Sem.run_pure, Result.andThen_ok, storeVar, F.run_sizeOf, hz, hcz, ne_eq, not_true_eq_false, if_false, k1]
      rfl
     ·have e1 : cs.take off ++ y'.cells ++ cs.drop (off + y'.cells.length) = cs := by rw [hne]; simp
      rw [e1]
      have e2 : fr.set l (r.set j (.cells cs)) = fr := by
       obtain ⟨r', hr', hj'⟩ := Option.bind_eq_some_iff.1 hb
       rw [h4] at hr'; injection hr' with hr'; subst hr'
       obtain ⟨q1, q2⟩ := List.getElem?_eq_some_iff.1 hj'
       obtain ⟨q3, q4⟩ := List.getElem?_eq_some_iff.1 h4
       rw [← q2, List.set_getElem_self, ← q4, List.set_getElem_self]
      rw [e2]; exact hok
    ·have hle : off + y'.cells.length ≤ cs.length := h1.resolve_left hne
     have hrun := run_storeVar (P := P) F (off := off) hw k1 (by omega) (by omega) (fun q hq => by
      obtain ⟨m, hm, rfl⟩ := List.mem_iff_getElem.1 hq
      have := (k3 m (by omega)).leaf_value (h2 _ (List.getElem_mem _))
      rw [List.getD_eq_getElem?_getD, List.getElem?_eq_getElem hm] at this
      exact oneCell_of this)
     refine ⟨w.setRow e.b (vs.take off ++ ys ++ vs.drop (off + ys.length)).toArray, _, by simp only [Instr.storeAt, Instr.sureAddr, Sem.run_bind, Sem.run_pure, Result.andThen_ok, hrun], ?_, h6, by simp [World.setRow]⟩
     refine hok.upd (hok.ge _ _ _ he) he hg (fun b hb => setRow_other w _ b _ hb) (by simp [World.setRow]) rfl rfl rfl ?_ h4 h5
     refine .cells _ _ u hg (setRow_heap w _ _ _ u _ hw) (by simp; omega) (fun q hq => ?_) fun m hm => ?_
     ·simp only [List.append_assoc, List.mem_append] at hq
      rcases hq with hq | hq | hq
      ·exact hl _ (List.mem_of_mem_take hq)
      ·exact h2 _ hq
      ·exact hl _ (List.mem_of_mem_drop hq)
     ·exact mid_rel (VRel (c.drop l)) (Nat.le_of_eq hn.symm) k2 hle hr k3 m hm
   ·exact h.elim
  ·exact h.elim
 ·rename_i l j k off
  split at h
  ·rename_i sz xs yd hb hyd
   rw [blk_bind] at hb
   cases hx with | eptr _ _ _ _ e he hg' =>
   have hbr := hok.blk _ _ _ _ he hb
   cases hbr with | arr _ _ vs u hg hes hw hn hsz hl hr =>
   rcases h with ⟨rfl, hk, hfit, hs, h⟩ | ⟨cs, hxk, hyl, hts, hof, h⟩
   ·obtain ⟨r, h4, h5, h6⟩ := setBlkK_spec h
    have hyr := (fixNil_rel (ti := ti) hy).pure _ hyd
    have hnt : ∀ q, yd ≠ .tuple q := fun q e => by
     subst e
     have := hfit.2.2 (.tuple q) (by simp [D.cells])
     simp [D.leaf] at this
    obtain ⟨ys, k1, k2, k3, k4⟩ := hyr.cells hnt
    subst hs
    have hidx : k * ti.sz + ys.length ≤ vs.length := by
     refine Nat.le_trans ?_ hn
     rw [flat_len hsz, k2, hfit.2.1]
     calc k * ti.sz + ti.sz = (k + 1) * ti.sz := by rw [Nat.add_mul]; omega
      _ ≤ xs.length * ti.sz := Nat.mul_le_mul_right _ (by omega)
    have hrun := run_storeVar (P := P) F (off := k * ti.sz) hw k1 (by rw [k2, hfit.2.1]) hidx (fun q hq => by
     obtain ⟨m, hm, rfl⟩ := List.mem_iff_getElem.1 hq
     have := (k4 m (by omega)).leaf_value (k3 _ (List.getElem_mem _))
     rw [List.getD_eq_getElem?_getD, List.getElem?_eq_getElem hm] at this
     exact oneCell_of this)
    refine ⟨w.setRow e.b (vs.take (k * ti.sz) ++ ys ++ vs.drop (k * ti.sz + ys.length)).toArray, _, by simp only [Instr.storeAt, Instr.sureAddr, Sem.run_bind, Sem.run_pure, Result.andThen_ok, Nat.add_zero, hes, hrun], ?_, h6, by simp [World.setRow]⟩
    refine hok.upd (hok.ge _ _ _ he) he hg (fun b hb => setRow_other w _ b _ hb) (by simp [World.setRow]) rfl rfl rfl ?_ h4 h5
    have hfs := flat_set hsz hfit.2.1 hk
    rw [show yd.cells.length = ys.length from k2.symm] at hfs
    refine .arr _ _ _ u hg hes (setRow_heap w _ _ _ u _ hw) ?_ (fun q hq => ?_) (fun q hq => ?_) fun m hm => ?_
    ·rw [hfs]; simp; have := flat_len hsz; omega
    ·rcases List.mem_or_eq_of_mem_set hq with hq | hq
     ·exact hsz _ hq
     ·subst hq; exact hfit.2.1
    ·rw [hfs] at hq
     simp only [List.append_assoc, List.mem_append] at hq
     rcases hq with hq | hq | hq
     ·exact hl _ (List.mem_of_mem_take hq)
     ·exact k3 _ hq
     ·exact hl _ (List.mem_of_mem_drop hq)
    ·have hle2 : k * ti.sz + yd.cells.length ≤ (flat xs).length := by
      rw [flat_len hsz, hfit.2.1]
      calc k * ti.sz + ti.sz = (k + 1) * ti.sz := by rw [Nat.add_mul]; omega
       _ ≤ xs.length * ti.sz := Nat.mul_le_mul_right _ (by omega)
     have h7 := mid_rel (DRel c.H) (off := k * ti.sz) hn k2 hle2 hr k4 m (by rw [← k2, ← hfs]; exact hm)
     have e1 : (flat (xs.set k yd))[m] = ((flat xs).take (k * ti.sz) ++ yd.cells ++ (flat xs).drop (k * ti.sz + yd.cells.length))[m]'(by rw [← k2, ← hfs]; exact hm) := by
      apply Option.some.inj; rw [← List.getElem?_eq_getElem, ← List.getElem?_eq_getElem, hfs, k2]
     rw [e1]
     exact h7
   ·obtain ⟨r, h4, h5, h6⟩ := setBlkK_spec h
    have hyr := (fixNil_rel (ti := ti) hy).pure _ hyd
    have hone := oneCell_of (hyr.leaf_value hyl)
    have hvc : v.cells = [v].toArray := by
     have := (hyr.leaf_value hyl).1
     cases v <;> first | rfl | exact absurd rfl (this _)
    have hxm := List.mem_of_getElem? hxk
    have hcl := hsz _ hxm
    simp only [D.cells] at hcl
    have hkl := (List.getElem?_eq_some_iff.1 hxk).1
    subst hes
    have hfx := flat_len hsz
    have hpos : k * e.sz + off + 1 ≤ (flat xs).length := by
     rw [hfx]
     calc k * e.sz + off + 1 ≤ k * e.sz + e.sz := by omega
      _ = (k + 1) * e.sz := by rw [Nat.add_mul]; omega
      _ ≤ xs.length * e.sz := Nat.mul_le_mul_right _ (by omega)
    have hrun := run_storeVar (P := P) F (off := k * e.sz + off) hw hvc (by rw [hts]; rfl) (by simp; omega) (fun q hq => by
     simp at hq; subst hq; exact hone)
    refine ⟨w.setRow e.b (vs.take (k * e.sz + off) ++ [v] ++ vs.drop (k * e.sz + off + 1)).toArray, _, by simp only [Instr.storeAt, Instr.sureAddr, Sem.run_bind, Sem.run_pure, Result.andThen_ok]; exact hrun, ?_, h6, by simp [World.setRow]⟩
    refine hok.upd (hok.ge _ _ _ he) he hg (fun b hb => setRow_other w _ b _ hb) (by simp [World.setRow]) rfl rfl rfl ?_ h4 h5
    have hfs := flat_part (y := yd) hsz hxk (by omega : off < e.sz)
    refine .arr _ _ _ u hg rfl (setRow_heap w _ _ _ u _ hw) ?_ (fun q hq => ?_) (fun q hq => ?_) fun m hm => ?_
    ·rw [hfs]; simp; omega
    ·rcases List.mem_or_eq_of_mem_set hq with hq | hq
     ·exact hsz _ hq
     ·subst hq; simpa [D.cells] using hcl
    ·rw [hfs] at hq
     simp only [List.append_assoc, List.mem_append, List.mem_singleton] at hq
     rcases hq with hq | hq | hq
     ·exact hl _ (List.mem_of_mem_take hq)
     ·subst hq; exact hyl
     ·exact hl _ (List.mem_of_mem_drop hq)
    ·have h7 := mid_rel (DRel c.H) (off := k * e.sz + off) (zs := [yd]) (ys := [v]) hn rfl hpos hr (fun j hj => by
      cases j with
      | zero => exact hyr
      | succ j => simp at hj) m (by rw [hfs] at hm; exact hm)
     have e1 : (flat (xs.set k (.agg (cs.set off yd))))[m] = ((flat xs).take (k * e.sz + off) ++ [yd] ++ (flat xs).drop (k * e.sz + off + 1))[m]'(by rw [← hfs]; exact hm) := by
      apply Option.some.inj; rw [← List.getElem?_eq_getElem, ← List.getElem?_eq_getElem, hfs]
     rw [e1]
     exact h7
  ·exact h.elim
 ·exact h.elim
end
end Go.Proofs.Ytemfpemejagndaa.Fw

