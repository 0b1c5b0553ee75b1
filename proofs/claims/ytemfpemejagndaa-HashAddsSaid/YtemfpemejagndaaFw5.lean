/- Each operation does what its abstract step says: reading and writing. -/
import Derived.Test.YtemfpemejagndaaFw4
set_option autoImplicit false
set_option linter.unusedVariables false
namespace Go.Proofs.Ytemfpemejagndaa.Fw
open Go Go.RowKit

section
variable {P : Program} {t : TypeId} {ti : TI} {i : TypeInfo} {d : TypeDesc} {z : Value} {c : Ctx} {fr : Frs} {w : World}

theorem run_loadVar_agg (F : TFacts P t ti i d z) (ha : ti.agg = true) (a : Addr) (cs : List Value) (hl : cs.length = ti.sz) (h : ∀ j v, cs[j]? = some v → w.cell? (a.add j) = some v) :
  (loadVar t a).run P w = .ok (.agg cs.toArray) w := by
 simp only [loadVar, Sem.run_bind, F.run_isAgg, Result.andThen_ok, ha, if_true, F.run_sizeOf, ← hl, run_loadCells_list w a cs h, Sem.run_pure]
theorem run_loadVar_leaf (F : TFacts P t ti i d z) (ha : ti.agg = false) (a : Addr) (v : Value) (h : w.cell? a = some v) :
  (loadVar t a).run P w = .ok v w := by
 simp only [loadVar, Sem.run_bind, F.run_isAgg, Result.andThen_ok, ha]
 simp [load, Sem.run, h]
theorem cell_of_heap {b : Nat} {vs : List Value} {u : TypeId} (h : w.heap[b]? = some (.cells vs.toArray u (0, 0))) (j : Nat) : w.cell? ⟨b, j, none⟩ = vs[j]? := by
 simp [World.cell?, h]
theorem getD_some {α : Type} [Inhabited α] {l : List α} {j : Nat} (h : j < l.length) : l[j]? = some (l.getD j default) := by
 rw [List.getD_eq_getElem?_getD, List.getElem?_eq_getElem h]; rfl
/-- what partA reads -/
theorem s_partA (F : TFacts P t ti i d z) {vs : List Value} {cs : List AV} {cc : Ctx} (hn : vs.length = cs.length) (hl : ∀ x ∈ cs, x.leaf = true) (hr : ∀ j (h : j < cs.length), VRel cc (vs.getD j default) (cs[j]))
  {b off : Nat} (hc : ∀ j, w.cell? ⟨b, j, none⟩ = vs[j]?) {K : AV → Prop} (h : partA ti cs off K) : ∃ v r, (loadVar t ⟨b, off, none⟩).run P w = .ok v w ∧ VRel cc v r ∧ K r := by
 unfold partA at h
 split at h
 ·rename_i ha
  split at h
  ·rename_i hle
   have hle := Nat.le_of_ble_eq_true hle
   have hlen : ((vs.drop off).take ti.sz).length = ti.sz := by simp; omega
   refine ⟨.agg ((vs.drop off).take ti.sz).toArray, _, run_loadVar_agg F ha _ _ hlen fun j v hj => ?_, .agg _ _ (by simp [hn]) (fun x hx => hl x (List.mem_of_mem_drop (List.mem_of_mem_take hx))) (fun j hj => ?_), h⟩
   ·rw [addr_add, hc]
    have hj' : j < ti.sz := by have := (List.getElem?_eq_some_iff.1 hj).1; omega
    rw [List.getElem?_take, if_pos hj', List.getElem?_drop] at hj
    exact hj
   ·have hj' : j < ti.sz ∧ off + j < cs.length := by simp at hj; omega
    have h1 := hr (off + j) hj'.2
    have e1 : ((vs.drop off).take ti.sz).getD j default = vs.getD (off + j) default := by
     simp only [List.getD_eq_getElem?_getD, List.getElem?_take, if_pos hj'.1, List.getElem?_drop]
    rw [e1]
    simpa [List.getElem_take, List.getElem_drop] using h1
  ·exact h.elim
 ·rename_i ha
  split at h
  ·rename_i x hx
   obtain ⟨hlt, hx⟩ := List.getElem?_eq_some_iff.1 hx
   subst hx
   exact ⟨_, _, run_loadVar_leaf F ha _ _ ((hc off).trans (getD_some (by omega))), hr off hlt, h⟩
  ·exact h.elim
/-- what partD reads -/
theorem s_partD (F : TFacts P t ti i d z) {H : Imm} {vals : Nat → Value} {cs : List D} (hl : ∀ x ∈ cs, x.leaf = true) (hr : ∀ j (h : j < cs.length), DRel H (vals j) (cs[j]))
  {b o off : Nat} (hc : ∀ j, j < cs.length → w.cell? ⟨b, o + j, none⟩ = some (vals j)) {K : AV → Prop} (h : partD ti cs off K) : ∃ v r, (loadVar t ⟨b, o + off, none⟩).run P w = .ok v w ∧ (∃ x, r = .d x ∧ DRel H v x) ∧ K r := by
 unfold partD at h
 split at h
 ·rename_i ha
  split at h
  ·rename_i hle
   have hle := Nat.le_of_ble_eq_true hle
   refine ⟨.agg ((List.range ti.sz).map fun j => vals (off + j)).toArray, _, run_loadVar_agg F ha _ _ (by simp) fun j v hj => ?_, ⟨_, rfl, .agg _ _ (by simp; omega) (fun x hx => hl x (List.mem_of_mem_drop (List.mem_of_mem_take hx))) (fun j hj => ?_)⟩, h⟩
   ·have hj' : j < ti.sz := by have := (List.getElem?_eq_some_iff.1 hj).1; simpa using this
    rw [addr_add, Nat.add_assoc, hc _ (by omega)]
    simpa [List.getElem?_map, List.getElem?_range hj'] using hj
   ·have hj' : j < ti.sz ∧ off + j < cs.length := by simp at hj; omega
    have h1 := hr (off + j) hj'.2
    have e1 : ((List.range ti.sz).map fun j => vals (off + j)).getD j default = vals (off + j) := by
     simp [List.getD_eq_getElem?_getD, List.getElem?_range hj'.1]
    rw [e1]
    simpa [List.getElem_take, List.getElem_drop] using h1
  ·exact h.elim
 ·rename_i ha
  split at h
  ·rename_i x hx
   obtain ⟨hlt, hx⟩ := List.getElem?_eq_some_iff.1 hx
   subst hx
   exact ⟨_, _, run_loadVar_leaf F ha _ _ (hc off hlt), ⟨_, rfl, hr off hlt⟩, h⟩
  ·exact h.elim
/-- the whole of a variable -/
theorem s_fit (F : TFacts P t ti i d z) {H : Imm} {vals : Nat → Value} {x : D} (hf : Fit ti x) (hl : ∀ y ∈ x.cells, y.leaf = true) (hr : ∀ j (h : j < x.cells.length), DRel H (vals j) (x.cells[j]))
  {b o : Nat} (hc : ∀ j, j < x.cells.length → w.cell? ⟨b, o + j, none⟩ = some (vals j)) : ∃ v, (loadVar t ⟨b, o, none⟩).run P w = .ok v w ∧ DRel H v x := by
 obtain ⟨h1, h2, _⟩ := hf
 cases hagg : ti.agg with
 | true =>
  rw [hagg] at h1
  obtain ⟨cs, rfl⟩ : ∃ cs, x = .agg cs := by cases x <;> simp [D.isAgg] at h1; exact ⟨_, rfl⟩
  simp only [D.cells] at h2 hl hr hc
  refine ⟨.agg ((List.range ti.sz).map fun j => vals j).toArray, run_loadVar_agg F hagg _ _ (by simp) fun j v hj => ?_, .agg _ _ (by simp [h2]) hl fun j hj => ?_⟩
  ·have hj' : j < ti.sz := by have := (List.getElem?_eq_some_iff.1 hj).1; simpa using this
   rw [addr_add, hc _ (by omega)]
   simpa [List.getElem?_map, List.getElem?_range hj'] using hj
  ·have e1 : ((List.range ti.sz).map fun j => vals j).getD j default = vals j := by
    simp [List.getD_eq_getElem?_getD, List.getElem?_range (show j < ti.sz by omega)]
   rw [e1]
   exact hr j hj
 | false =>
  rw [hagg] at h1
  have hx : x.cells = [x] := by cases x <;> simp [D.isAgg] at h1 <;> rfl
  have h3 := hc 0 (by rw [hx]; simp)
  refine ⟨vals 0, run_loadVar_leaf F hagg _ _ (by simpa using h3), ?_⟩
  have h4 := hr 0 (by rw [hx]; simp)
  simpa [hx] using h4
theorem s_upK {l : Nat} {v : Value} {x : AV} {K : AV → Prop} (hx : VRel (c.drop l) v x) (h : upK l x K) : ∃ r, VRel c v r ∧ K r := by
 cases l with
 | zero => rw [Ctx.drop_zero] at hx; exact ⟨x, hx, h⟩
 | succ n => exact ⟨_, hx.lift, h⟩
theorem flat_get {sz : Nat} : ∀ {xs : List D}, (∀ x ∈ xs, x.cells.length = sz) → ∀ (k j : Nat) (x : D), xs[k]? = some x → j < sz → (flat xs)[k * sz + j]? = x.cells[j]?
 | [], _, k, j, x, hx, hj => by simp at hx
 | y :: xs, h, k, j, x, hx, hj => by
  have hy := h y (by simp)
  cases k with
  | zero =>
   simp at hx; subst hx
   simp only [flat, List.flatMap_cons, Nat.zero_mul, Nat.zero_add]
   rw [List.getElem?_append_left (by omega)]
  | succ k =>
   simp at hx
   have ih := flat_get (fun x hx => h x (by simp [hx])) k j x hx hj
   simp only [flat, List.flatMap_cons] at ih ⊢
   rw [List.getElem?_append_right (by rw [hy, Nat.add_mul]; omega)]
   rw [← ih]
   congr 1
   rw [hy, Nat.add_mul]; omega
theorem flat_len {sz : Nat} : ∀ {xs : List D}, (∀ x ∈ xs, x.cells.length = sz) → (flat xs).length = xs.length * sz
 | [], _ => by simp [flat]
 | y :: xs, h => by
  have ih := flat_len (fun x hx => h x (by simp [hx]) : ∀ x ∈ xs, x.cells.length = sz)
  simp only [flat] at ih
  simp only [flat, List.flatMap_cons, List.length_append, h y (by simp), ih, List.length_cons, Nat.add_mul]
  omega
theorem flat_leaf {xs : List D} (h : ∀ y ∈ flat xs, y.leaf = true) {x : D} (hx : x ∈ xs) : ∀ y ∈ x.cells, y.leaf = true := fun y hy => h y (List.mem_flatMap.2 ⟨x, hx, hy⟩)
theorem s_load (F : TFacts P t ti i d z) (hok : Ok c fr w) {v : Value} {x : AV} (hx : VRel c v x) {K : AV → Prop} (h : aload ti fr x K) :
  ∃ v' r, (Instr.loadAt t v).run P w = .ok v' w ∧ VRel c v' r ∧ K r := by
 unfold aload at h
 split at h
 ·rename_i l j off
  split at h
  ·rename_i cs hb
   rw [blk_bind] at hb
   obtain ⟨e, he, hbr⟩ := hok.ent hb
   cases hx with | ptr _ _ _ e' he' hg' =>
   rw [he] at he'; injection he' with he'; subst he'
   cases hbr with | cells _ vs u hg hw hn hl hr =>
   obtain ⟨v', r, h1, h2, h3⟩ := s_partA (P := P) (w := w) F hn hl hr (b := e.b) (cell_of_heap hw) h
   obtain ⟨r', h4, h5⟩ := s_upK h2 h3
   exact ⟨v', r', by simp [Instr.loadAt, Instr.sureAddr, h1], h4, h5⟩
  ·rename_i xd hb
   rw [blk_bind] at hb
   cases hx with | ptr _ _ _ e he hg' =>
   have hbr := hok.blk _ _ _ _ he hb
   cases hbr with | frz _ vs u hg hw hv hn hl hH hr =>
   obtain ⟨v', r, h1, ⟨y, rfl, h2⟩, h3⟩ := s_partD F (vals := fun j => vs.getD j default) (b := e.b) (o := 0) hl hr (fun j hj => by rw [cell_of_heap hw, Nat.zero_add]; exact getD_some (by omega)) h
   exact ⟨v', _, by simpa [Instr.loadAt, Instr.sureAddr] using h1, .d _ _ h2, h3⟩
  ·exact h.elim
 ·rename_i l j k off
  split at h
  ·rename_i sz xs hb
   rw [blk_bind] at hb
   obtain ⟨x, hxk, h⟩ := h
   cases hx with | eptr _ _ _ _ e he hg' =>
   have hbr := hok.blk _ _ _ _ he hb
   cases hbr with | arr _ _ vs u hg hs hw hn hsz hl hr =>
   have hmem := List.mem_of_getElem? hxk
   have hk := hsz x hmem
   have hkl := (List.getElem?_eq_some_iff.1 hxk).1
   have hfl := flat_len hsz
   have hidx : ∀ q, q < x.cells.length → k * sz + q < (flat xs).length := fun q hq => by
    rw [hfl]; calc k * sz + q < k * sz + sz := by omega
     _ = (k + 1) * sz := by rw [Nat.add_mul]; omega
     _ ≤ xs.length * sz := Nat.mul_le_mul_right _ (by omega)
   have hcells : ∀ q, q < x.cells.length → w.cell? ⟨e.b, k * sz + q, none⟩ = some (vs.getD (k * sz + q) default) := fun q hq => by
    rw [cell_of_heap hw]; exact getD_some (Nat.lt_of_lt_of_le (hidx q hq) hn)
   have hrel : ∀ q (hq : q < x.cells.length), DRel c.H (vs.getD (k * sz + q) default) (x.cells[q]) := fun q hq => by
    have h1 := hr (k * sz + q) (hidx q hq)
    have h2 := flat_get hsz k q x hxk (by omega)
    rw [List.getElem?_eq_getElem (hidx q hq), List.getElem?_eq_getElem hq] at h2
    injection h2 with h2
    rw [h2] at h1
    exact h1
   subst hs
   split at h
   ·obtain ⟨v', h1, h2⟩ := s_fit F h.1 (flat_leaf hl hmem) hrel hcells
    exact ⟨v', _, by simp [Instr.loadAt, Instr.sureAddr, h1], .d _ _ h2, h.2⟩
   ·obtain ⟨v', r, h1, ⟨y, rfl, h2⟩, h3⟩ := s_partD F (flat_leaf hl hmem) hrel hcells h
    exact ⟨v', _, by simp [Instr.loadAt, Instr.sureAddr, h1], .d _ _ h2, h3⟩
  ·exact h.elim
 ·rename_i x
  cases hx with | pel _ _ b o vals hH hl hr =>
  obtain ⟨v', h1, h2⟩ := s_fit F h.1 hl hr (fun j hj => hok.mod.1 _ _ _ (hH j hj))
  exact ⟨v', _, by simp [Instr.loadAt, Instr.sureAddr, h1], .d _ _ h2, h.2⟩
 ·rename_i x off
  cases hx with | pel _ _ b o vals hH hl hr =>
  obtain ⟨v', r, h1, ⟨y, rfl, h2⟩, h3⟩ := s_partD F hl hr (fun j hj => hok.mod.1 _ _ _ (hH j hj)) h
  exact ⟨v', _, by simpa [Instr.loadAt, Instr.sureAddr] using h1, .d _ _ h2, h3⟩
 ·rename_i x
  cases hx with | d _ _ hx =>
  cases hx with | ptr _ b o vals hv hH hl hr =>
  obtain ⟨v', h1, h2⟩ := s_fit F h.1 hl hr (fun j hj => hok.mod.1 _ _ _ (hH j hj))
  exact ⟨v', _, by simp [Instr.loadAt, Instr.sureAddr, h1], .d _ _ h2, h.2⟩
 ·rename_i x
  cases hx with | vp _ _ hx =>
  cases hx with | ptr _ b o vals hv hH hl hr =>
  obtain ⟨v', h1, h2⟩ := s_fit F h.1 hl hr (fun j hj => hok.mod.1 _ _ _ (hH j hj))
  exact ⟨v', _, by simp [Instr.loadAt, Instr.sureAddr, h1], .d _ _ h2, h.2⟩
 ·exact h.elim
end
end Go.Proofs.Ytemfpemejagndaa.Fw

