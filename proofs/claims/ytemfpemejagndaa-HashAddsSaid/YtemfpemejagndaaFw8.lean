/- Each operation does what its abstract step says: slices that grow. -/
import Derived.Test.YtemfpemejagndaaFw7
set_option autoImplicit false
set_option linter.unusedVariables false
set_option linter.unusedSimpArgs false
namespace Go.Proofs.Ytemfpemejagndaa.Fw
open Go Go.RowKit Go.WideShapes

section
variable {P : Program} {t : TypeId} {ti : TI} {i : TypeInfo} {d : TypeDesc} {z : Value} {c : Ctx} {fr : Frs} {w : World}

theorem elems_rel {v : Value} {x : AV} (h : VRel c v x) {sz : Nat} {xs : List D} (he : elems x = some (sz, xs)) : ∃ a cap, v = .slice a xs.length cap ∧ DRel c.H v (.slice sz xs) := by
 cases h with
 | d v x h =>
  cases x <;> simp [elems] at he
  obtain ⟨rfl, rfl⟩ := he
  have h' := h
  cases h with | slice a cap _ _ b o vals => exact ⟨a, cap, rfl, h'⟩
 | nil s => simp [elems] at he; obtain ⟨rfl, rfl⟩ := he; exact ⟨none, 0, rfl, .nil0 _⟩
 | full a s xs h => simp [elems] at he; obtain ⟨rfl, rfl⟩ := he; exact ⟨a, _, rfl, h⟩
 | own a cap l i s xs e h => simp [elems] at he; obtain ⟨rfl, rfl⟩ := he; exact ⟨a, cap, rfl, h⟩
 | own0 a l i s => simp [elems] at he; obtain ⟨rfl, rfl⟩ := he; exact ⟨a, 0, rfl, .zero0 a _⟩
 | _ => simp [elems] at he
theorem elemsO_rel {v : Value} {x : AV} (h : VRel c v x) {sz : Nat} {xs : List D} (he : elemsO x = some (sz, xs)) : ∃ a cap, v = .slice a xs.length cap ∧ DRel c.H v (.os sz xs) := by
 unfold elemsO at he
 split at he
 ·cases h with | d _ _ h =>
  injection he with he
  injection he with e1 e2
  subst e1; subst e2
  have h' := h
  cases h with | os a cap _ _ b o vals => exact ⟨a, cap, rfl, h'⟩
 ·obtain ⟨a, cap, h1, h2⟩ := elems_rel h he
  exact ⟨a, cap, h1, h2.toOs⟩
/-- the cells of a slice that is read -/
theorem DRel.row {H : Imm} {a : Option Addr} {n cap sz : Nat} {xs : List D} (h : DRel H (.slice a n cap) (.os sz xs)) : n = xs.length ∧ n ≤ cap ∧ (∀ x ∈ xs, x.cells.length = sz) ∧ (∀ y ∈ flat xs, y.leaf = true) ∧
  ∃ (b o : Nat) (vs : List Value), (xs ≠ [] → a = some ⟨b, o, none⟩) ∧ vs.length = (flat xs).length ∧ (∀ j, j < vs.length → H.cell b (o + j) = some (vs.getD j default)) ∧ ∀ j (hj : j < (flat xs).length), DRel H (vs.getD j default) ((flat xs)[j]) := by
 cases h with | os _ _ _ _ b o vals hcap hsz ha hH hl hr =>
 refine ⟨rfl, hcap.1, hsz, hl, b, o, (List.range (flat xs).length).map vals, ha, by simp, fun j hj => ?_, fun j hj => ?_⟩
 ·have hj' : j < (flat xs).length := by simpa using hj
  rw [hH j hj']
  simp [List.getD_eq_getElem?_getD, List.getElem?_range hj']
 ·have := hr j hj
  simpa [List.getD_eq_getElem?_getD, List.getElem?_range hj] using this
theorem DRel.len_le {H : Imm} {a : Option Addr} {n cap sz : Nat} {xs : List D} (h : DRel H (.slice a n cap) (.os sz xs)) : xs.length ≤ 9223372036854775807 := by
 cases h with | os _ _ _ _ b o vals hcap hsz ha hH hl hr => exact hcap.2
theorem row_rel {H : Imm} {b o cap sz : Nat} {xs : List D} {vs : List Value} (hcap : xs.length ≤ cap ∧ xs.length ≤ 9223372036854775807) (hsz : ∀ x ∈ xs, x.cells.length = sz) (hl : ∀ y ∈ flat xs, y.leaf = true) (hn : vs.length = (flat xs).length) (hy : H.yg b)
  (hH : ∀ j, j < vs.length → H.cell b (o + j) = some (vs.getD j default)) (hr : ∀ j (hj : j < (flat xs).length), DRel H (vs.getD j default) ((flat xs)[j])) : DRel H (.slice (some ⟨b, o, none⟩) xs.length cap) (.slice sz xs) :=
 .slice _ cap sz xs b o (fun j => vs.getD j default) hcap hsz (fun _ => rfl) (fun _ => hy) (fun j hj => hH j (by omega)) hl hr
theorem run_firstCells {a : Option Addr} {n cap sz : Nat} {xs : List D} (hm : Models w c.H) (h : DRel c.H (.slice a n cap) (.os sz xs)) :
  ∃ vs : List Value, (Builtin.firstCells sz n (.slice a n cap)).run P w = .ok vs.toArray w ∧ vs.length = (flat xs).length ∧ ∀ j (hj : j < (flat xs).length), DRel c.H (vs.getD j default) ((flat xs)[j]) := by
 obtain ⟨rfl, hcap, hsz, hl, b, o, vs, ha, hn, hH, hr⟩ := h.row
 refine ⟨vs, ?_, hn, hr⟩
 have hlen : vs.length = xs.length * sz := by rw [hn, flat_len hsz]
 by_cases hne : xs = []
 ·subst hne
  have : vs = [] := List.eq_nil_of_length_eq_zero (by simpa using hlen)
  subst this
  cases a with
  | none => simp [Builtin.firstCells]
  | some a => simp [Builtin.firstCells, loadCells, loadCellsFrom]
 ·rw [ha hne]
  simp only [Builtin.firstCells]
  rw [← hlen]
  refine run_loadCells_list w _ vs fun j v hj => ?_
  rw [addr_add]
  have hj' := (List.getElem?_eq_some_iff.1 hj).1
  have := hm.1 _ _ _ (hH j hj')
  rw [this, ← getD_some hj', hj]
/-- cells that are known from now on -/
def Imm.row (H : Imm) (b lo : Nat) (vs : List Value) : Imm :=
 { H with cell := fun b' j => if b' = b ∧ lo ≤ j ∧ j < lo + vs.length then some (vs.getD (j - lo) default) else H.cell b' j, wr := fun b' => decide (b' = b) || H.wr b' }
theorem Imm.row_le {H : Imm} {b lo : Nat} {vs : List Value} (h : ∀ j v, lo ≤ j → H.cell b j ≠ some v) : H.le (H.row b lo vs) := by
 refine ⟨fun b' j v hc => ?_, fun _ _ h => h, fun _ h => h, rfl, fun _ h => by simp [Imm.row, h]⟩
 simp only [Imm.row]
 rw [if_neg]
 ·exact hc
 ·rintro ⟨rfl, h1, _⟩; exact h j v h1 hc
theorem Imm.row_yg {H : Imm} {b lo : Nat} {vs : List Value} (h : H.base ≤ b) : (H.row b lo vs).yg b := ⟨h, fun _ => .inl (by simp [Imm.row])⟩
theorem Imm.row_at {H : Imm} {b lo : Nat} {vs : List Value} {j : Nat} (hj : j < vs.length) : (H.row b lo vs).cell b (lo + j) = some (vs.getD j default) := by
 simp only [Imm.row]
 rw [if_pos ⟨trivial, by omega, by omega⟩, Nat.add_sub_cancel_left]
theorem Imm.row_cell {H : Imm} {b lo : Nat} {vs : List Value} {b' j : Nat} {v : Value} (h : (H.row b lo vs).cell b' j = some v) : H.cell b' j = some v ∨ (b' = b ∧ lo ≤ j ∧ j < lo + vs.length) := by
 simp only [Imm.row] at h
 split at h
 ·rename_i hh; exact .inr hh
 ·exact .inl h
theorem models_row {H : Imm} {b lo : Nat} {vs cur : List Value} {u : TypeId} (hm : Models w H) (hw : w.heap[b]? = some (.cells cur.toArray u (0, 0))) (h : ∀ j, j < vs.length → cur[lo + j]? = some (vs.getD j default)) : Models w (H.row b lo vs) := by
 refine ⟨fun b' j v hc => ?_, hm.2.1, hm.2.2.1, fun b' hv => ?_⟩
 simp only [Imm.row] at hc
 split at hc
 ·rename_i hh
  obtain ⟨rfl, h1, h2⟩ := hh
  rw [cell_of_heap hw]
  have := h (j - lo) (by omega)
  rw [show lo + (j - lo) = j by omega] at this
  rw [this, ← hc]
 ·exact hm.1 _ _ _ hc
 simp only [Imm.row, Bool.or_eq_true, decide_eq_true_eq] at hv
 rcases hv with rfl | hv
 ·refine ⟨(Array.getElem?_eq_some_iff.1 hw).1, fun c t f hc => ?_⟩
  rw [hw] at hc; injection hc with hc; injection hc with _ _ hc; exact hc.symm
 ·exact hm.2.2.2 _ hv
theorem flat_append (xs ys : List D) : flat (xs ++ ys) = flat xs ++ flat ys := by simp [flat]
theorem rel_append {H : Imm} {vs us : List Value} {ds bs : List D} (hn : vs.length = ds.length) (hm : us.length = bs.length) (h1 : ∀ j (h : j < ds.length), DRel H (vs.getD j default) ds[j]) (h2 : ∀ j (h : j < bs.length), DRel H (us.getD j default) bs[j]) :
  ∀ j (h : j < (ds ++ bs).length), DRel H ((vs ++ us).getD j default) ((ds ++ bs)[j]) := by
 intro j h
 rw [List.getElem_append, List.getD_eq_getElem?_getD]
 split
 ·rename_i hj; rw [List.getElem?_append_left (by omega), ← List.getD_eq_getElem?_getD]; exact h1 j hj
 ·rename_i hj; rw [List.getElem?_append_right (by omega), ← List.getD_eq_getElem?_getD, hn]; exact h2 _ (by simp at h; omega)
theorem Ok.young {c : Ctx} {fr : Frs} (h : Ok c fr w) (hB : c.B ≤ w.heap.size) : c.H.base ≤ w.heap.size := h.yng _ (.inl hB)
/-- a new block whose first cells are known -/
theorem s_grown {l : List Blk} {r : Frs} (hok : Ok c (l :: r) w) (hB : c.B ≤ w.heap.size) {sz cap : Nat} {zs : List D} {vs rest : List Value} (u : TypeId) (hcap : zs.length ≤ cap ∧ zs.length ≤ 9223372036854775807) (hsz : ∀ x ∈ zs, x.cells.length = sz) (hl : ∀ y ∈ flat zs, y.leaf = true) (hn : vs.length = (flat zs).length)
  (hr : ∀ j (hj : j < (flat zs).length), DRel c.H (vs.getD j default) ((flat zs)[j])) (hrest : (vs ++ rest).length = cap * sz) (hc0 : 0 < cap) :
  ∃ c', c.le c' ∧ c'.B = c.B ∧ Ok c' ((l ++ [.grow sz zs.length]) :: r) (w.alloc (.cells (vs ++ rest).toArray u)) ∧ VRel c' (.slice (some ⟨w.heap.size, 0, none⟩) zs.length cap) (.own 0 l.length sz zs) := by
 have hb := alloc_below w (.cells (vs ++ rest).toArray u)
 have hfree : ∀ j v, c.H.cell w.heap.size j ≠ some v := fun j v hc => by have := hok.mod.cell_lt hc; omega
 have hle : c.H.le (c.H.row w.heap.size 0 vs) := Imm.row_le fun j v _ => hfree j v
 have hext : c.H.ext (c.H.row w.heap.size 0 vs) (since w.heap.size) := ⟨hle, fun b j v hc => by
  rcases Imm.row_cell hc with hc | hc
  ·exact .inl hc
  ·exact .inr (Nat.le_of_eq hc.1.symm), fun _ _ h => .inl h, fun _ h => .inl h⟩
 have hmod : Models (w.alloc (.cells (vs ++ rest).toArray u)) (c.H.row w.heap.size 0 vs) := by
  refine models_row (cur := vs ++ rest) (hok.mod.below hb) (heap_alloc_new w _) fun j hj => ?_
  rw [Nat.zero_add, List.getElem?_append_left hj]; exact getD_some hj
 have h1 := hok.calls hb hB hext hmod
 have hfl : (flat zs).length = zs.length * sz := flat_len hsz
 obtain ⟨c', k1, k2, k3, _, k4, k5⟩ := h1.push (e := ⟨w.heap.size, true, sz, zs.length, cap⟩) (b := .grow sz zs.length) (Ent.gh_cap hc0) (.inl hB)
  (fun lvl i e' he => by have := hok.lt (l := lvl) (i := i) he; show e'.b ≠ w.heap.size; omega)
  (fun _ => ⟨fun j v hc => ⟨rfl, by
   rcases Imm.row_cell hc with hc | hc
   ·exact absurd hc (hfree j v)
   ·show j < zs.length * sz; omega⟩, by
    cases hc : c.H.obj w.heap.size with
    | none => exact hc
    | some v => have := (Array.getElem?_eq_some_iff.1 (hok.mod.2.1 _ _ hc).1).1; omega, by
    cases hc : c.H.var w.heap.size with
    | false => exact hc
    | true => obtain ⟨cc, t, h2⟩ := hok.mod.2.2.1 _ hc; have := (Array.getElem?_eq_some_iff.1 h2).1; omega⟩)
  fun c' _ => .grow sz zs.length (vs ++ rest) u rfl rfl rfl (heap_alloc_new w _) hrest hcap.1
 refine ⟨c', (Ctx.le_H (hext.weak (Ctx.free_new hB))).trans k1, k3, k5, ?_⟩
 refine .own _ cap 0 l.length sz zs _ ?_ k4 rfl rfl (Nat.le_refl _) fun _ => ⟨rfl, rfl⟩
 rw [k2]
 exact row_rel hcap hsz hl hn (Imm.row_yg (hok.young hB)) (fun j hj => Imm.row_at hj) fun j hj => (hr j hj).mono hle
theorem slicecap_le (n c : Nat) (h : ¬ n ≤ c) : Builtin.nextslicecap n c ≤ 4 * n + 2000 := by
 have grow : ∀ (r c' : Nat), c' ≤ 3 * n → Builtin.growBy n r c' ≤ 4 * n + 2000 := by
  intro r
  induction r with
  | zero => intro c' h; simp only [Builtin.growBy]; omega
  | succ r ih =>
   intro c' h
   simp only [Builtin.growBy]
   split
   ·omega
   ·by_cases h3 : c' + (c' + 768) / 4 ≤ 3 * n
    ·exact ih _ h3
    ·-- beyond n already: it stops
     have hgt : n ≤ c' + (c' + 768) / 4 := by omega
     cases r with
     | zero => simp only [Builtin.growBy]; omega
     | succ r => simp only [Builtin.growBy]; rw [if_pos (by omega)]; omega
 unfold Builtin.nextslicecap
 split
 ·omega
 ·split
  ·omega
  ·exact grow 4 c (by omega)
theorem run_append_grow {e : TypeId} (F : TFacts P t ti i (.slice e) z) (j : TypeInfo) (zz : Value) (h1 : P.info? e = some j) (h2 : j.size = ti.esz) (h7 : j.zero = some zz) {a ya : Option Addr} {cap ycap n m : Nat}
  (hno : ¬ n + m ≤ cap) (hb1 : Builtin.nextslicecap (n + m) cap * j.bytes ≤ 281474976710656) (hby : 0 < j.bytes) (xv yv : List Value)
  (x1 : (Builtin.firstCells ti.esz n (.slice a n cap)).run P w.drew = .ok xv.toArray w.drew) (y1 : (Builtin.firstCells ti.esz m (.slice ya m ycap)).run P w.drew = .ok yv.toArray w.drew) (ty : TypeId) :
  ∃ newCap, n + m ≤ newCap ∧ (Builtin.append_ #[t, t] ty #[.slice a n cap, .slice ya m ycap]).run P w =
   .ok (.slice (some ⟨w.heap.size, 0, none⟩) (n + m) newCap) (w.drew.alloc (.cells (xv.toArray ++ (yv.toArray ++ Builtin.zeroCells zz.cells (newCap - (n + m)))) e)) := by
 have hN : n + m ≤ (Question.appendCap (n + m) cap e).cut (w.tape w.drawn (.appendCap (n + m) cap e)) := by simp [Question.cut]
 have hc : ∀ q : Question, q.forced = false → (Sem.choose q Sem.pure).run P w = .ok (q.cut (w.tape w.drawn q)) w.drew := by
  intro q hq
  simp [Sem.run, hq]
 have hc := hc (.appendCap (n + m) cap e) rfl
 revert hN hc
 generalize (Question.appendCap (n + m) cap e).cut (w.tape w.drawn (.appendCap (n + m) cap e)) = N
 intro hN hc
 refine ⟨N, hN, ?_⟩
 simp only [Builtin.append_, List.getElem?_toArray, List.getElem?_cons_zero, List.getElem?_cons_succ, Sem.run_bind, F.run_underlying, Result.andThen_ok]
 simp [sizeOf, typeInfo, h1, h2, Builtin.lenOf, hno, F.run_underlying, Nat.not_lt.2 hb1, choose, askRoom]
 have hne : ¬ (9223372036854775807 < (n : Int) + m ∧ j.bytes = 0) := by omega
 rw [if_neg hne, hc]
 simp only [Result.andThen_ok, x1, y1]
 have hz : (zeroValue e).run P w.drew = .ok zz w.drew := by simp [zeroValue, typeInfo, h1, h7]
 rw [hz]
 rfl
/-- append to a row that has no room, or none at all -/
theorem run_append_new (F : TFacts P t ti i d z) {e : TypeId} (hk : ti.kind = .slice e) {a ya : Option Addr} {cap ycap : Nat} {xs ys : List D} (hm : Models w c.H) (hx : DRel c.H (.slice a xs.length cap) (.os ti.esz xs)) (hy : DRel c.H (.slice ya ys.length ycap) (.os ti.esz ys))
  (hno : ¬ xs.length + ys.length ≤ cap) (hbd : xs.length + ys.length < 4294967296) (ty : TypeId) :
  ∃ (newCap : Nat) (vs rest : List Value), xs.length + ys.length ≤ newCap ∧ vs.length = (flat (xs ++ ys)).length ∧ (∀ j (hj : j < (flat (xs ++ ys)).length), DRel c.H (vs.getD j default) ((flat (xs ++ ys))[j])) ∧ (vs ++ rest).length = newCap * ti.esz ∧
   (Builtin.append_ #[t, t] ty #[.slice a xs.length cap, .slice ya ys.length ycap]).run P w = .ok (.slice (some ⟨w.heap.size, 0, none⟩) (xs.length + ys.length) newCap) (w.drew.alloc (.cells (vs ++ rest).toArray e)) := by
 have hd := F.slice hk
 subst hd
 obtain ⟨j, zz, h1, h2, h3, h4, h5, h6, h7, h8⟩ := F.elemInfo hk
 obtain ⟨xv, x1, x2, x3⟩ := run_firstCells (P := P) (w := w.drew) hm hx
 obtain ⟨yv, y1, y2, y3⟩ := run_firstCells (P := P) (w := w.drew) hm hy
 obtain ⟨_, _, xsz, _⟩ := hx.row
 obtain ⟨_, _, ysz, _⟩ := hy.row
 have hc := slicecap_le _ _ hno
 have hb1 : Builtin.nextslicecap (xs.length + ys.length) cap * j.bytes ≤ 281474976710656 := by
  calc _ ≤ (4 * (xs.length + ys.length) + 2000) * 4096 := Nat.mul_le_mul hc h5
   _ ≤ 281474976710656 := by omega
 obtain ⟨newCap, hle, hrun⟩ := run_append_grow F j zz h1 h2 h7 hno hb1 h6 xv yv x1 y1 ty
 have hzs : (Builtin.zeroCells zz.cells (newCap - (xs.length + ys.length))).toList.length = (newCap - (xs.length + ys.length)) * ti.esz := by
  simp [Builtin.zeroCells, h8, h2]
 refine ⟨newCap, xv ++ yv, (Builtin.zeroCells zz.cells (newCap - (xs.length + ys.length))).toList, hle, ?_, ?_, ?_, ?_⟩
 ·rw [flat_append]; simp [x2, y2]
 ·rw [flat_append]; exact rel_append x2 y2 x3 y3
 ·rw [List.length_append, List.length_append, hzs, x2, y2, flat_len xsz, flat_len ysz, ← Nat.add_mul, ← Nat.add_mul]
  congr 1; omega
 ·rw [hrun]
  congr 3
  apply Array.ext'
  simp
/-- append where there is room: what stands there is written -/
theorem run_append_room (F : TFacts P t ti i d z) {e : TypeId} (hk : ti.kind = .slice e) {a ya : Option Addr} {cap ycap n m : Nat} (hroom : n + m ≤ cap) (yv : List Value)
  (y1 : (Builtin.firstCells ti.esz m (.slice ya m ycap)).run P w = .ok yv.toArray w) (ty : TypeId) {w' : World}
  (hst : match a with | some ad => (storeCells (ad.add (n * ti.esz)) yv).run P w = .ok () w' | none => w' = w) :
  (Builtin.append_ #[t, t] ty #[.slice a n cap, .slice ya m ycap]).run P w = .ok (.slice a (n + m) cap) w' := by
 have hd := F.slice hk
 subst hd
 obtain ⟨j, zz, h1, h2, h3, h4, h5, h6, h7, h8⟩ := F.elemInfo hk
 simp only [Builtin.append_, List.getElem?_toArray, List.getElem?_cons_zero, List.getElem?_cons_succ, Sem.run_bind, F.run_underlying, Result.andThen_ok]
 simp [sizeOf, typeInfo, h1, h2, Builtin.lenOf, hroom, F.run_underlying, y1]
 cases a with
 | none => simp at hst; subst hst; rfl
 | some ad => simp at hst; simp [hst]
end
end Go.Proofs.Ytemfpemejagndaa.Fw

