/- literals, structs, and the small operations. -/
import Derived.Test.YtemfpemejagndaaFwA
set_option autoImplicit false
set_option linter.unusedVariables false
set_option linter.unusedSimpArgs false
namespace Go.Proofs.Ytemfpemejagndaa.Fw
open Go Go.RowKit Go.WideShapes

section
variable {P : Program} {t : TypeId} {ti : TI} {i : TypeInfo} {d : TypeDesc} {z : Value} {c : Ctx} {fr : Frs} {w : World}

theorem splice_set : ∀ (ys : List Value) (k off : Nat) (cs : Array Value), off + k + ys.length ≤ cs.size →
  ((ys.zipIdx k).foldl (fun cs (c, j) => cs.setIfInBounds (off + j) c) cs).toList = cs.toList.take (off + k) ++ ys ++ cs.toList.drop (off + k + ys.length)
 | [], k, off, cs, h => by simp
 | y :: ys, k, off, cs, h => by
  simp only [List.zipIdx_cons, List.foldl_cons]
  rw [splice_set ys (k + 1) off (cs.setIfInBounds (off + k) y) (by simp at h ⊢; omega)]
  have e := list_seg_step cs.toList (off + k) y ys (by simp at h ⊢; omega)
  simp only [Array.toList_setIfInBounds]
  simpa [Nat.add_assoc, Nat.add_comm 1] using e
theorem fill_step {place : Nat → Option (Nat × Nat)} {cells : Array Value} {k off size : Nat} {v : Value} {rest : List (Nat × Value)} {ys : List Value} (hp : place k = some (off, size)) (hv : v.cells = ys.toArray) (hs : ys.length = size) (hle : off + ys.length ≤ cells.size) :
  Instr.fill place cells ((k, v) :: rest) = Instr.fill place (cells.toList.take off ++ ys ++ cells.toList.drop (off + ys.length)).toArray rest := by
 simp only [Instr.fill, hp, hv]
 have h1 : ¬ ((decide (ys.toArray.size ≠ size) || decide (off + ys.toArray.size > cells.size)) = true) := by simp [hs]; omega
 rw [if_neg h1]
 congr 1
 apply Array.ext'
 have := splice_set ys 0 off cells (by omega)
 simp only [Nat.add_zero] at this
 rw [← this]
 simp
/-- literals -/
theorem alit_spec : ∀ {l : List AV} {acc : List D} {K : List D → Prop}, alit l acc K → ∃ ys, pures l = some ys ∧ K (acc ++ ys)
 | [], acc, K, h => ⟨[], rfl, by simpa [alit_nil] using h⟩
 | x :: r, acc, K, h => by
  simp only [alit_cons] at h
  split at h
  ·rename_i y hy
   obtain ⟨ys, h1, h3⟩ := alit_spec h
   exact ⟨y :: ys, by simp [pures, hy, h1], by simpa using h3⟩
  ·exact h.elim
theorem drop_mid {α : Type} (A B C : List α) (m : Nat) : (A ++ B ++ C).drop (A.length + B.length + m) = C.drop m := by
 rw [show A.length + B.length + m = (A ++ B).length + m by simp, List.drop_length_add_append]
theorem take_mid {α : Type} (A B C : List α) : (A ++ B ++ C).take (A.length + B.length) = A ++ B := by
 rw [show A.length + B.length = (A ++ B).length by simp, List.take_left]
theorem fill_row {esz : Nat} : ∀ (vs : List Value) (ys : List D) (k : Nat) (cells : Array Value), vs.length = ys.length → (∀ j (h : j < ys.length), DRel c.H (vs.getD j default) (ys[j])) → (∀ y ∈ ys, y.cells.length = esz) → (∀ y ∈ ys, noTuple y = true) → (k + ys.length) * esz ≤ cells.size →
  ∃ us : List Value, us.length = (flat ys).length ∧ (∀ q ∈ flat ys, q.leaf = true) ∧ (∀ j (h : j < (flat ys).length), DRel c.H (us.getD j default) ((flat ys)[j])) ∧
   Instr.fill (fun i => some (i * esz, esz)) cells ((vs.zipIdx k).map fun p => (p.2, p.1)) = some (cells.toList.take (k * esz) ++ us ++ cells.toList.drop ((k + ys.length) * esz)).toArray
 | [], [], k, cells, _, _, _, _, _ => ⟨[], rfl, by simp [flat], by simp [flat], by simp [Instr.fill]⟩
 | v :: vs, y :: ys, k, cells, hn, hr, hs, ht, hle => by
  have hv := hr 0 (by simp)
  simp only [List.getD_cons_zero, List.getElem_cons_zero] at hv
  obtain ⟨us0, u1, u2, u3, u4⟩ := hv.cells (fun q e => by have := ht y (by simp); rw [e] at this; simp [noTuple] at this)
  have hy := hs y (by simp)
  have hle' : k * esz + us0.length ≤ cells.size := by
   rw [u2, hy]; calc k * esz + esz = (k + 1) * esz := by rw [Nat.add_mul]; omega
    _ ≤ (k + (y :: ys).length) * esz := Nat.mul_le_mul_right _ (by simp only [List.length_cons]; omega)
    _ ≤ cells.size := hle
  have hn0 : us0.length = esz := by rw [u2, hy]
  obtain ⟨us, w1, w2, w3, w4⟩ := fill_row vs ys (k + 1) (cells.toList.take (k * esz) ++ us0 ++ cells.toList.drop (k * esz + us0.length)).toArray (by simpa using hn)
   (fun j h => by have := hr (j + 1) (by simpa using h); simpa using this) (fun q hq => hs q (by simp [hq])) (fun q hq => ht q (by simp [hq])) (by
    have : (cells.toList.take (k * esz) ++ us0 ++ cells.toList.drop (k * esz + us0.length)).toArray.size = cells.size := by simp <;> omega
    rw [this]; simp at hle ⊢; rw [show k + 1 + ys.length = k + (ys.length + 1) by omega]; exact hle)
  refine ⟨us0 ++ us, by simp [flat] at w1 ⊢; omega, fun q hq => ?_, fun j h => ?_, ?_⟩
  ·simp only [flat, List.flatMap_cons, List.mem_append] at hq
   rcases hq with hq | hq
   ·exact u3 q hq
   ·exact w2 q hq
  ·have := rel_append (H := c.H) (vs := us0) (us := us) (ds := y.cells) (bs := flat ys) u2 w1 u4 w3 j (by simpa [flat] using h)
   simpa [flat] using this
  ·simp only [List.zipIdx_cons, List.map_cons]
   rw [fill_step rfl u1 hn0 hle', w4]
   congr 2
   have e0 : (k + 1) * esz = k * esz + us0.length := by rw [hn0, Nat.add_mul]; omega
   have e1 : (cells.toList.take (k * esz)).length = k * esz := by simp; omega
   have e2 : (k + 1 + ys.length) * esz = (cells.toList.take (k * esz)).length + us0.length + ys.length * esz := by rw [e1, hn0, Nat.add_mul, Nat.add_mul]; omega
   have e3 : (k + (y :: ys).length) * esz = k * esz + us0.length + ys.length * esz := by rw [hn0, List.length_cons, Nat.add_mul, Nat.add_mul]; omega
   have e4 : (k + 1) * esz = (cells.toList.take (k * esz)).length + us0.length := by rw [e1]; exact e0
   rw [e2, e3, e4, drop_mid, take_mid, List.drop_drop, List.append_assoc, List.append_assoc, List.append_assoc, List.append_assoc]
 | [], _ :: _, _, _, hn, _, _, _, _ => by simp at hn
 | _ :: _, [], _, _, hn, _, _, _, _ => by simp at hn
/-- parts of a literal, in order -/
def inOrder : Nat → List (Nat × Operand) → Bool
 | _, [] => true
 | k, (j, _) :: r => match Nat.beq j k with | true => inOrder (k + 1) r | false => false
theorem inOrder_spec : ∀ {k : Nat} {l : List (Nat × Operand)}, inOrder k l = true → ∀ (f : Operand → Value), l.map (fun p => (p.1, f p.2)) = ((l.map fun p => f p.2).zipIdx k).map fun p => (p.2, p.1)
 | k, [], _, f => rfl
 | k, (j, o) :: r, h, f => by
  simp only [inOrder] at h
  split at h
  ·rename_i hj
   have := Nat.eq_of_beq_eq_true hj
   subst this
   simp [inOrder_spec h f]
  ·cases h
def aslit (ti : TI) (fr : Frs) (len : Nat) (vs : List AV) (K : AV → Frs → Prop) : Prop := match ti.kind with
 | .slice _ => match Nat.beq len vs.length, Nat.ble (len * ti.esz) 16777216 with
  | true, true => alit vs [] fun ys => LitsOk ti.esz ys ∧ K (.full ti.esz ys) fr
  | _, _ => False
 | _ => False
theorem s_lit (F : TFacts P t ti i d z) (hok : Ok c fr w) (hB : c.B ≤ w.heap.size) {len : Nat} {vs : List Value} {xs : List AV} (hn : vs.length = xs.length) (hr : ∀ j (h : j < xs.length), VRel c (vs.getD j default) (xs[j])) {K : AV → Frs → Prop} (h : aslit ti fr len xs K) :
  Does P c w (Instr.buildSlice t len ((vs.zipIdx 0).map fun p => (p.2, p.1)).toArray) K := by
 unfold aslit at h
 split at h
 ·rename_i e hk
  split at h
  ·rename_i hlen hbig
   have hlen := Nat.eq_of_beq_eq_true hlen
   have hbig := Nat.le_of_ble_eq_true hbig
   obtain ⟨ys, h1, hlit, h3⟩ := alit_spec h
   simp only [List.nil_append] at h3 hlit
   have h2 : ∀ y ∈ ys, y.cells.length = ti.esz := fun y hy => (hlit.all y hy).1
   have hnt : ys.all noTuple = true := List.all_eq_true.2 fun y hy => (hlit.all y hy).2
   ·have hd := F.slice hk
    subst hd
    obtain ⟨j, zz, q1, q2, q3, q4, q5, q6, q7, q8⟩ := F.elemInfo hk
    obtain ⟨p1, p2⟩ := pures_some h1
    have hrel : ∀ j (h : j < ys.length), DRel c.H (vs.getD j default) (ys[j]) := fun j hj => (hr j (by omega)).pure _ (p2 j (by omega) hj)
    have hs : (sizeOf e).run P w = .ok ti.esz w := by simp [sizeOf, typeInfo, q1, q2]
    have hz : (zeroValue e).run P w = .ok zz w := by simp [zeroValue, typeInfo, q1, q7]
    obtain ⟨us, w1, w2, w3, w4⟩ := fill_row (c := c) (esz := ti.esz) vs ys 0 ((Array.range (len * ti.esz)).map ((if len * ti.esz = 0 then #[] else zz.cells)[· % (if len * ti.esz = 0 then #[] else zz.cells).size]!)) (by omega) hrel h2
     (fun q hq => by have := List.all_eq_true.1 hnt q hq; exact this) (by simp; rw [← p1] at hlen; rw [hlen]; exact Nat.le_refl _)
    have hulen : us.length = len * ti.esz := by rw [w1, flat_len h2, hlen, ← p1]
    have e0 : (((Array.range (len * ti.esz)).map ((if len * ti.esz = 0 then #[] else zz.cells)[· % (if len * ti.esz = 0 then #[] else zz.cells).size]!)).toList.take (0 * ti.esz) ++ us ++ ((Array.range (len * ti.esz)).map ((if len * ti.esz = 0 then #[] else zz.cells)[· % (if len * ti.esz = 0 then #[] else zz.cells).size]!)).toList.drop ((0 + ys.length) * ti.esz)) = us := by
     rw [List.drop_of_length_le (by simp; rw [hlen, ← p1]; exact Nat.le_refl _)]
     simp
    rw [e0] at w4
    have hrun : (Instr.buildSlice t len ((vs.zipIdx 0).map fun p => (p.2, p.1)).toArray).run P w = .ok (.slice (some ⟨w.heap.size, 0, none⟩) len len) (w.alloc (.cells us.toArray e)) := by
     unfold Instr.buildSlice
     simp only [Sem.run_bind, F.run_underlying, Result.andThen_ok, hs]
     rw [if_neg (by omega)]
     by_cases h0 : len * ti.esz = 0
     ·simp only [h0, if_true, Sem.run_bind, Sem.run_pure, Result.andThen_ok] at w4 ⊢
      rw [w4]; rfl
     ·simp only [h0, if_false, Sem.run_bind, Sem.run_pure, hz, Result.andThen_ok] at w4 ⊢
      rw [w4]; rfl
    have hb := alloc_below w (.cells us.toArray e)
    have hfree : ∀ j v, c.H.cell w.heap.size j ≠ some v := fun j v hc => by have := hok.mod.cell_lt hc; omega
    have hle : c.H.le (c.H.row w.heap.size 0 us) := Imm.row_le fun j v _ => hfree j v
    have hext : c.H.ext (c.H.row w.heap.size 0 us) (since w.heap.size) := ⟨hle, fun b j v hc => by
     rcases Imm.row_cell hc with hc | hc
     ·exact .inl hc
     ·exact .inr (Nat.le_of_eq hc.1.symm), fun _ _ h => .inl h, fun _ h => .inl h⟩
    have hmod : Models (w.alloc (.cells us.toArray e)) (c.H.row w.heap.size 0 us) :=
     models_row (cur := us) (hok.mod.below hb) (heap_alloc_new w _) fun j hj => by rw [Nat.zero_add]; exact getD_some hj
    have hyl : len = ys.length := by omega
    subst hyl
    refine ⟨_, _, _, fr, _, hrun, by simp, Ctx.le_H (hext.weak (Ctx.free_new hB)), hok.calls hb hB hext hmod, .full _ ti.esz ys ?_, h3⟩
    exact row_rel ⟨Nat.le_refl _, by have : ys.length * 1 ≤ ys.length * ti.esz := Nat.mul_le_mul_left _ (by omega); omega⟩ h2 w2 w1 (Imm.row_yg (hok.young hB)) (fun j hj => Imm.row_at hj) fun j hj => (w3 j hj).mono hle
  ·exact h.elim
 ·exact h.elim
/-! ### structs -/
theorem s_build_go : ∀ {parts : List (Nat × AV)} {vs : List Value} {cs : List AV} {cells : Array Value} {K : List AV → Prop} {place : Nat → Option (Nat × Nat)},
  (∀ k o n g, ti.fields[k]? = some (o, n, g) → place k = some (o, n)) → vs.length = parts.length → (∀ j (h : j < parts.length), VRel c (vs.getD j default) (parts[j]).2) → cells.size = cs.length → (∀ q ∈ cs, q.leaf = true) → (∀ j (h : j < cs.length), VRel c (cells.toList.getD j default) cs[j]) →
  abuild ti parts cs K → ∃ (out : List Value) (cs' : List AV), Instr.fill place cells ((parts.zip vs).map fun p => (p.1.1, p.2)) = some out.toArray ∧ out.length = cs'.length ∧ (∀ q ∈ cs', q.leaf = true) ∧ (∀ j (h : j < cs'.length), VRel c (out.getD j default) cs'[j]) ∧ K cs'
 | [], vs, cs, cells, K, place, hp, hn, hr, hsz, hl, hrel, h => ⟨cells.toList, cs, by simp [Instr.fill], by simpa using hsz, hl, hrel, h⟩
 | (k, x) :: parts, [], cs, cells, K, place, hp, hn, hr, hsz, hl, hrel, h => by simp at hn
 | (k, x) :: parts, v :: vs, cs, cells, K, place, hp, hn, hr, hsz, hl, hrel, h => by
  simp only [abuild_cons] at h
  split at h
  ·rename_i o n g hf
   split at h
   ·rename_i hxl hn0
    have hxl := Nat.eq_of_beq_eq_true hxl
    obtain ⟨h1, h2, h3⟩ := cellsK_spec h
    have hv := hr 0 (by simp)
    simp only [List.getD_cons_zero, List.getElem_cons_zero] at hv
    obtain ⟨ys, y1, y2, y3⟩ := hv.cells h2
    have hne : x.cells ≠ [] := fun e => by rw [e] at hxl; subst hxl; simp at hn0
    exact by
     have hle : o + x.cells.length ≤ cs.length := h1.resolve_left hne
     have hszn : (cells.toList.take o ++ ys ++ cells.toList.drop (o + ys.length)).toArray.size = (cs.take o ++ x.cells ++ cs.drop (o + x.cells.length)).length := by
      simp; omega
     obtain ⟨out, cs', k1, k2, k3, k4, k5⟩ := s_build_go (cells := (cells.toList.take o ++ ys ++ cells.toList.drop (o + ys.length)).toArray) hp (by simpa using hn) (fun j h => by have := hr (j + 1) (by simpa using h); simpa using this) hszn
      (fun q hq => by
       simp only [List.append_assoc, List.mem_append] at hq
       rcases hq with hq | hq | hq
       ·exact hl _ (List.mem_of_mem_take hq)
       ·exact h2 _ hq
       ·exact hl _ (List.mem_of_mem_drop hq))
      (fun j hj => mid_rel (VRel c) (by simp; omega) y2 hle hrel y3 j hj) h3
     refine ⟨out, cs', ?_, k2, k3, k4, k5⟩
     simp only [List.zip_cons_cons, List.map_cons]
     rw [fill_step (hp _ _ _ _ hf) y1 (by rw [y2, hxl]) (by omega)]
     exact k1
   ·exact h.elim
  ·exact h.elim
def abuildT (ti : TI) (ks : List Nat) (vs : List AV) (K : AV → Prop) : Prop := match ti.kind with
 | .struct => abuild ti (ks.zip vs) ti.zero fun cs => K (.agg cs)
 | _ => False
end
end Go.Proofs.Ytemfpemejagndaa.Fw

