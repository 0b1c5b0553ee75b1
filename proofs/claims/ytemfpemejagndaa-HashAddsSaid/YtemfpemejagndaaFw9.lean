/- append, make, literals, parts. -/
import Derived.Test.YtemfpemejagndaaFw8
set_option autoImplicit false
set_option linter.unusedVariables false
set_option linter.unusedSimpArgs false
namespace Go.Proofs.Ytemfpemejagndaa.Fw
open Go Go.RowKit Go.WideShapes

section
variable {P : Program} {t : TypeId} {ti : TI} {i : TypeInfo} {d : TypeDesc} {z : Value} {c : Ctx} {fr : Frs} {w : World}

theorem Ok.drew (h : Ok c fr w) : Ok c fr w.drew :=
 ⟨h.len, h.lens, fun l i e b he hb => (h.blk l i e b he hb).keep rfl, h.gho, h.inj, h.ge, h.far, h.mod, ⟨h.below.os, h.below.tape, h.below.output, h.below.size, h.below.block⟩, h.yng⟩
/-- an operation that may make or write memory -/
def Does (P : Program) (c : Ctx) (w : World) (x : Sem Value) (K : AV → Frs → Prop) : Prop :=
 ∃ v w' c' fr' r, x.run P w = .ok v w' ∧ w.heap.size ≤ w'.heap.size ∧ c.le c' ∧ Ok c' fr' w' ∧ VRel c' v r ∧ K r fr'
theorem s_append_new (F : TFacts P t ti i d z) {e : TypeId} (hk : ti.kind = .slice e) (hok : Ok c fr w) (hB : c.B ≤ w.heap.size) {a ya : Option Addr} {cap ycap : Nat} {xs ys : List D} (hx : DRel c.H (.slice a xs.length cap) (.slice ti.esz xs)) (hy : DRel c.H (.slice ya ys.length ycap) (.os ti.esz ys))
  (hno : ¬ xs.length + ys.length ≤ cap) (hbd : xs.length + ys.length < 4294967296) (ty : TypeId) {K : AV → Frs → Prop} (h : newK fr (.grow ti.esz (xs.length + ys.length)) fun i fr => K (.own 0 i ti.esz (xs ++ ys)) fr) :
  Does P c w (Builtin.append_ #[t, t] ty #[.slice a xs.length cap, .slice ya ys.length ycap]) K := by
 obtain ⟨newCap, vs, rest, h1, h2, h3, h4, h5⟩ := run_append_new F hk hok.mod hx.toOs hy hno hbd ty
 obtain ⟨_, _, xsz, xl, _⟩ := hx.toOs.row
 obtain ⟨_, _, ysz, yl, _⟩ := hy.row
 cases fr with
 | nil => exact h.elim
 | cons l r =>
  simp only [newK] at h
  obtain ⟨c', k1, k2, k3, k4⟩ := s_grown hok.drew hB (zs := xs ++ ys) e ⟨by simpa using h1, by simp; omega⟩ (fun q hq => (List.mem_append.1 hq).elim (xsz q) (ysz q)) (fun q hq => by rw [flat_append] at hq; exact (List.mem_append.1 hq).elim (xl q) (yl q)) h2 h3 h4 (by omega)
  have hnl : (xs ++ ys).length = xs.length + ys.length := by simp
  rw [hnl] at k3
  exact ⟨_, _, c', _, .own 0 l.length ti.esz (xs ++ ys), h5, by simp, k1, k3, by rw [← hnl]; exact k4, h⟩
theorem Ok.same_blk (hok : Ok c fr w) {l i : Nat} {b : Blk} {r : List Blk} (hr : fr[l]? = some r) (hb : (fr[l]?).bind (fun r => r[i]?) = some b) : fr.set l (r.set i b) = fr := by
 rw [hr] at hb
 obtain ⟨q1, q2⟩ := List.getElem?_eq_some_iff.1 (show r[i]? = some b from hb)
 obtain ⟨q3, q4⟩ := List.getElem?_eq_some_iff.1 hr
 rw [← q2, List.set_getElem_self, ← q4, List.set_getElem_self]
/-- what is owned grows into a new block -/
theorem s_append_off (F : TFacts P t ti i d z) {e : TypeId} (hk : ti.kind = .slice e) (hok : Ok c fr w) (hB : c.B ≤ w.heap.size) {a ya : Option Addr} {cap ycap : Nat} {xs ys : List D} (hxd : DRel c.H (.slice a xs.length cap) (.slice ti.esz xs)) (hyd : DRel c.H (.slice ya ys.length ycap) (.os ti.esz ys))
  (hroom : ¬ xs.length + ys.length ≤ cap) (h1 : xs.length + ys.length < 4294967296) (hne : ys ≠ []) (ty : TypeId) {l j : Nat} {e1 : Ent} (he : c.raw l j = some e1) (hg : e1.g = true) (hen : e1.n = xs.length) (hs' : e1.sz = ti.esz) {r : List Blk} (hr : fr[l]? = some r) (hi : j < r.length)
  {K : AV → Frs → Prop} (hK : K (.own l j ti.esz (xs ++ ys)) (fr.set l (r.set j (.grow ti.esz (xs.length + ys.length))))) :
  Does P c w (Builtin.append_ #[t, t] ty #[.slice a xs.length cap, .slice ya ys.length ycap]) K := by
 have hl : 0 < ys.length := List.length_pos_iff.2 hne
 obtain ⟨_, _, xsz, xl, xb, xo, xv, xa, xn, xH, xr⟩ := hxd.toOs.row
 obtain ⟨_, _, ysz, yl, _⟩ := hyd.row
 have hsz : ∀ q ∈ xs ++ ys, q.cells.length = ti.esz := fun q hq => (List.mem_append.1 hq).elim (xsz q) (ysz q)
 have hlf : ∀ q ∈ flat (xs ++ ys), q.leaf = true := fun q hq => by rw [flat_append] at hq; exact (List.mem_append.1 hq).elim (xl q) (yl q)
 have hfx : (flat xs).length = xs.length * ti.esz := flat_len xsz
 have hfy : (flat ys).length = ys.length * ti.esz := flat_len ysz
 have hes : e1.sz = ti.esz := hs'
 have hesz : ti.esz = ti.esz := rfl
 obtain ⟨newCap, nv, rest, q1, q2, q3, q4, q5⟩ := run_append_new F hk hok.mod hxd.toOs hyd hroom h1 ty
 have hHfree : ∀ q v, c.H.cell w.heap.size q ≠ some v := fun q v hc => by have := hok.mod.cell_lt hc; omega
 have hbel : Below w.heap.size w (w.drew.alloc (.cells (nv ++ rest).toArray e)) := by
  have := alloc_below w.drew (.cells (nv ++ rest).toArray e)
  exact ⟨this.os, this.tape, this.output, this.size, this.block⟩
 have hmod : Models (w.drew.alloc (.cells (nv ++ rest).toArray e)) (c.H.row w.heap.size 0 nv) := by
  refine models_row (cur := nv ++ rest) (hok.mod.below hbel) (heap_alloc_new w.drew _) fun q hq => ?_
  rw [Nat.zero_add, List.getElem?_append_left hq]; exact getD_some hq
 obtain ⟨c', k1, k2, k3, k4, k5⟩ := hok.regrow (e' := ⟨w.heap.size, true, e1.sz, xs.length + ys.length, newCap⟩) (sz := ti.esz) hB he hg (Ent.gh_cap (by show 0 < newCap; omega)) rfl rfl (by show e1.n < xs.length + ys.length; omega) (.inr (Nat.le_refl _))
  (fun b hb hb2 => hbel.block b hb2) hbel.size hbel.os hbel.tape hbel.output
  (Imm.row_le fun q v _ => hHfree q v) (fun b q v hc => by
   rcases Imm.row_cell hc with hc | ⟨rfl, hc1, hc2⟩
   ·exact .inl hc
   ·refine .inr ⟨rfl, ?_⟩
    show q < (xs.length + ys.length) * e1.sz
    rw [hs', Nat.add_mul]
    have : nv.length = xs.length * ti.esz + ys.length * ti.esz := by rw [q2, flat_append]; simp [hfx, hfy]
    omega) rfl rfl hmod
  (fun c' _ => .grow ti.esz _ (nv ++ rest) e rfl hes rfl (heap_alloc_new w.drew _) (by rw [q4, hesz]) q1) hr hi
 refine ⟨_, _, c', _, _, q5, hbel.size, k1, k5, ?_, hK⟩
 have hnl : (xs ++ ys).length = xs.length + ys.length := by simp
 rw [← hnl]
 refine .own _ _ l j _ (xs ++ ys) _ ?_ k4 rfl hs' (by simp) fun _ => ⟨rfl, rfl⟩
 rw [k2]
 exact row_rel ⟨by simpa using q1, by simp; omega⟩ hsz hlf q2 (Imm.row_yg (hok.young hB)) (fun q hq => Imm.row_at hq) fun q hq => (q3 q hq).mono (Imm.row_le fun q v _ => hHfree q v)
/-- what is owned, and there, grows -/
theorem s_append_own (F : TFacts P t ti i d z) {e : TypeId} (hk : ti.kind = .slice e) (hok : Ok c fr w) (hB : c.B ≤ w.heap.size) {a ya : Option Addr} {cap ycap : Nat} {xs ys : List D} (hxd : DRel c.H (.slice a xs.length cap) (.slice ti.esz xs)) (hyd : DRel c.H (.slice ya ys.length ycap) (.os ti.esz ys))
  (h1 : xs.length + ys.length < 4294967296) (ty : TypeId) {l j sz' : Nat} {e1 : Ent} (he : c.ent l j = some e1) (hbk : (fr[l]?).bind (fun r => r[j]?) = some (.grow sz' xs.length)) (hg' : e1.g = true) (hs' : e1.sz = ti.esz) (hn' : xs.length ≤ e1.n) (hc' : xs.length = e1.n → a = some ⟨e1.b, 0, none⟩ ∧ cap = e1.cap)
  {r : List Blk} (hr : fr[l]? = some r) (hi : j < r.length) {K : AV → Frs → Prop} (hK : K (.own l j ti.esz (xs ++ ys)) (fr.set l (r.set j (.grow sz' (xs.length + ys.length))))) :
  Does P c w (Builtin.append_ #[t, t] ty #[.slice a xs.length cap, .slice ya ys.length ycap]) K := by
 have hbr := hok.blk _ _ _ _ he hbk
 cases hbr with | grow _ _ vs u hg hes hen hw hv hcap =>
 obtain ⟨ha, hcp⟩ := hc' hen.symm
 subst ha; subst hcp
 by_cases hne : ys = []
 ·subst hne
  obtain ⟨yv, y1, y2, _⟩ := run_firstCells (P := P) hok.mod hyd
  have hyv : yv = [] := List.eq_nil_of_length_eq_zero (by simpa [flat] using y2)
  subst hyv
  refine ⟨_, w, c, fr, .own l j ti.esz xs, run_append_room F hk (n := xs.length) (m := 0) (by omega) [] y1 ty (by simp [storeCells]), Nat.le_refl _, Ctx.le.refl c, hok, ?_, ?_⟩
  ·exact .own _ _ l j _ xs e1 hxd he hg' hs' hn' hc'
  ·have e2 := hok.same_blk hr hbk
   simp only [List.length_nil, Nat.add_zero, List.append_nil] at hK
   rw [e2] at hK; exact hK
 ·have hl : 0 < ys.length := List.length_pos_iff.2 hne
  obtain ⟨_, _, xsz, xl, xb, xo, xv, xa, xn, xH, xr⟩ := hxd.toOs.row
  obtain ⟨_, _, ysz, yl, _⟩ := hyd.row
  have hsz : ∀ q ∈ xs ++ ys, q.cells.length = ti.esz := fun q hq => (List.mem_append.1 hq).elim (xsz q) (ysz q)
  have hlf : ∀ q ∈ flat (xs ++ ys), q.leaf = true := fun q hq => by rw [flat_append] at hq; exact (List.mem_append.1 hq).elim (xl q) (yl q)
  have hesz : sz' = ti.esz := hes.symm.trans hs'
  have hfx : (flat xs).length = xs.length * ti.esz := flat_len xsz
  have hfy : (flat ys).length = ys.length * ti.esz := flat_len ysz
  have hle1 : c.free e1.b := hok.ge _ _ _ he
  have hlt1 := hok.lt he
  have hfar := hok.far _ _ _ he fun hq => by rw [hg] at hq; cases hq
  by_cases hroom : xs.length + ys.length ≤ e1.cap
  ·-- in its place
   obtain ⟨yv, y1, y2, y3⟩ := run_firstCells (P := P) hok.mod hyd
   have hyvl : xs.length * ti.esz + yv.length ≤ vs.length := by
    rw [y2, hfy, hv, ← Nat.add_mul, hesz]; exact Nat.mul_le_mul_right _ hroom
   have hone : ∀ q ∈ yv, q.oneCell' = true := fun q hq => by
    obtain ⟨m, hm, rfl⟩ := List.mem_iff_getElem.1 hq
    have := (y3 m (by omega)).leaf_value (yl _ (List.getElem_mem _))
    rw [List.getD_eq_getElem?_getD, List.getElem?_eq_getElem hm] at this
    exact oneCell_of this
   have hst := run_storeCells_at (P := P) e1.b (xs.length * ti.esz) u yv 0 vs.toArray w hw (by simpa using hyvl) hone
   simp only [Nat.add_zero] at hst
   have hmid : ∀ q, q < yv.length → (vs.take (xs.length * ti.esz) ++ yv ++ vs.drop (xs.length * ti.esz + yv.length))[xs.length * ti.esz + q]? = some (yv.getD q default) := fun q hq => by
    rw [List.append_assoc, List.getElem?_append_right (by simp; omega), List.getElem?_append_left (by simp; omega)]
    have : xs.length * ti.esz + q - (vs.take (xs.length * ti.esz)).length = q := by simp; omega
    rw [this]; exact getD_some hq
   have hHfree : ∀ q v, xs.length * ti.esz ≤ q → c.H.cell e1.b q ≠ some v := fun q v hq hc => by
    have := (hfar.1 _ _ hc).2
    rw [hen, hs'] at this; omega
   have hmod0 : Models (w.setRow e1.b (vs.take (xs.length * ti.esz) ++ yv ++ vs.drop (xs.length * ti.esz + yv.length)).toArray) c.H := by
    refine ⟨fun b q v hc => ?_, fun b o ho => ?_, fun b hvv => ?_, fun b hvv => ?_⟩
    ·by_cases hb : b = e1.b
     ·subst hb
      have hq := (hfar.1 _ _ hc).2
      rw [hen, hs'] at hq
      have h0 := hok.mod.1 _ _ _ hc
      rw [cell_of_heap hw] at h0
      rw [cell_of_heap (setRow_heap w _ _ _ u _ hw), List.append_assoc, List.getElem?_append_left (by simp; omega), List.getElem?_take, if_pos hq]
      exact h0
     ·have h0 := hok.mod.1 _ _ _ hc
      unfold World.cell? at h0 ⊢
      rw [setRow_other w _ b _ hb]; exact h0
    ·have hb : b ≠ e1.b := fun hb => by subst hb; rw [hfar.2.1] at ho; cases ho
     rw [setRow_other w _ b _ hb]; exact hok.mod.2.1 _ _ ho
    ·have hb : b ≠ e1.b := fun hb => by subst hb; rw [hfar.2.2] at hvv; cases hvv
     rw [setRow_other w _ b _ hb]; exact hok.mod.2.2.1 _ hvv
    ·obtain ⟨p1, p2⟩ := hok.mod.2.2.2 _ hvv
     refine ⟨by simpa [World.setRow] using p1, fun cc tt ff hc => ?_⟩
     by_cases hb : b = e1.b
     ·subst hb
      rw [setRow_heap w _ _ _ u _ hw] at hc; injection hc with hc; injection hc with _ _ hc; exact hc.symm
     ·rw [setRow_other w _ b _ hb] at hc; exact p2 _ _ _ hc
   have hmod : Models (w.setRow e1.b (vs.take (xs.length * ti.esz) ++ yv ++ vs.drop (xs.length * ti.esz + yv.length)).toArray) (c.H.row e1.b (xs.length * ti.esz) yv) :=
    models_row hmod0 (setRow_heap w _ _ _ u _ hw) hmid
   obtain ⟨c', k1, k2, k3, k4, k5⟩ := hok.regrow (e' := { e1 with n := xs.length + ys.length }) (sz := sz') hB (Ctx.ent_iff.1 he).1 hg (Ctx.ent_iff.1 he).2 hg rfl (by show e1.n < xs.length + ys.length; omega) (.inl ⟨rfl, (Ctx.ent_iff.1 he).2⟩)
    (fun b hb _ => setRow_other w _ b _ (hb (Ctx.ent_iff.1 he).2)) (by simp [World.setRow]) rfl rfl rfl
    (Imm.row_le hHfree) (fun b q v hc => by
     rcases Imm.row_cell hc with hc | ⟨rfl, hc1, hc2⟩
     ·exact .inl hc
     ·refine .inr ⟨rfl, ?_⟩
      show q < (xs.length + ys.length) * e1.sz
      rw [hs', Nat.add_mul]; omega) rfl rfl hmod
    (fun c' _ => .grow sz' _ (vs.take (xs.length * ti.esz) ++ yv ++ vs.drop (xs.length * ti.esz + yv.length)) u hg hes rfl (setRow_heap w _ _ _ u _ hw) (by simp; omega) hroom) hr hi
   refine ⟨_, _, c', _, _, run_append_room F hk hroom yv y1 ty (by show (storeCells ((⟨e1.b, 0, none⟩ : Addr).add (xs.length * ti.esz)) yv).run P w = _; rw [addr_add, Nat.zero_add]; exact hst), by simp [World.setRow], k1, k5, ?_, hK⟩
   have hnl : (xs ++ ys).length = xs.length + ys.length := by simp
   rw [← hnl]
   refine .own _ _ l j _ (xs ++ ys) _ ?_ k4 hg hs' (by simp) fun _ => ⟨rfl, rfl⟩
   rw [k2]
   have hyg : (c.H.row e1.b (xs.length * ti.esz) yv).yg e1.b := Imm.row_yg (hok.yng _ (hok.ge _ _ _ he))
   by_cases hxe : xs = []
   ·subst hxe
    refine row_rel ⟨by simpa using hroom, by simp; omega⟩ hsz hlf (vs := yv) (by simpa using y2) hyg (fun q hq => ?_) fun q hq => ?_
    ·have := Imm.row_at (H := c.H) (b := e1.b) (lo := ([] : List D).length * ti.esz) hq
     simpa using this
    ·have := (y3 q (by simpa using hq)).mono (Imm.row_le (vs := yv) hHfree)
     simpa using this
   ·have hxa := xa hxe
    injection hxa with hxa
    obtain ⟨rfl, rfl⟩ : xb = e1.b ∧ xo = 0 := by injection hxa with p1 p2; exact ⟨p1.symm, p2.symm⟩
    refine row_rel ⟨by simpa using hroom, by simp; omega⟩ hsz hlf (vs := xv ++ yv) (by rw [flat_append]; simp [xn, y2]) hyg (fun q hq => ?_) fun q hq => ?_
    ·rw [List.getD_eq_getElem?_getD]
     by_cases hq1 : q < xv.length
     ·rw [List.getElem?_append_left hq1, ← List.getD_eq_getElem?_getD]
      exact (Imm.row_le hHfree).1 _ _ _ (xH q hq1)
     ·rw [List.getElem?_append_right (by omega), ← List.getD_eq_getElem?_getD]
      have := Imm.row_at (H := c.H) (b := e1.b) (lo := xs.length * ti.esz) (vs := yv) (j := q - xv.length) (by simp at hq; omega)
      rw [show xs.length * ti.esz + (q - xv.length) = 0 + q by omega] at this
      exact this
    ·have h7 := rel_append xn y2 xr y3 q (by rw [← flat_append]; exact hq)
     have h8 : (flat (xs ++ ys))[q] = (flat xs ++ flat ys)[q]'(by rw [← flat_append]; exact hq) := by
      apply Option.some.inj; rw [← List.getElem?_eq_getElem, ← List.getElem?_eq_getElem, flat_append]
     rw [h8]
     exact h7.mono (Imm.row_le hHfree)
  ·-- elsewhere
   subst hesz
   exact s_append_off F hk hok hB hxd hyd hroom h1 hne ty (Ctx.ent_iff.1 he).1 hg hen hs' hr hi hK
/-! ### what is not read before it is handed out -/
theorem run_append_newV (F : TFacts P t ti i d z) {e : TypeId} (hk : ti.kind = .slice e) {a ya : Option Addr} {cap ycap n m : Nat} (xv yv : List Value)
  (x1 : (Builtin.firstCells ti.esz n (.slice a n cap)).run P w.drew = .ok xv.toArray w.drew) (y1 : (Builtin.firstCells ti.esz m (.slice ya m ycap)).run P w.drew = .ok yv.toArray w.drew) (x2 : xv.length = n * ti.esz) (y2 : yv.length = m * ti.esz)
  (hno : ¬ n + m ≤ cap) (hbd : n + m < 4294967296) (ty : TypeId) :
  ∃ (newCap : Nat) (rest : List Value), n + m ≤ newCap ∧ (xv ++ yv ++ rest).length = newCap * ti.esz ∧
   (Builtin.append_ #[t, t] ty #[.slice a n cap, .slice ya m ycap]).run P w = .ok (.slice (some ⟨w.heap.size, 0, none⟩) (n + m) newCap) (w.drew.alloc (.cells (xv ++ yv ++ rest).toArray e)) := by
 have hd := F.slice hk
 subst hd
 obtain ⟨j, zz, h1, h2, h3, h4, h5, h6, h7, h8⟩ := F.elemInfo hk
 have hc := slicecap_le _ _ hno
 have hb1 : Builtin.nextslicecap (n + m) cap * j.bytes ≤ 281474976710656 := by
  calc _ ≤ (4 * (n + m) + 2000) * 4096 := Nat.mul_le_mul hc h5
   _ ≤ 281474976710656 := by omega
 obtain ⟨newCap, hle, hrun⟩ := run_append_grow F j zz h1 h2 h7 hno hb1 h6 xv yv x1 y1 ty
 have hzs : (Builtin.zeroCells zz.cells (newCap - (n + m))).toList.length = (newCap - (n + m)) * ti.esz := by
  simp [Builtin.zeroCells, h8, h2]
 refine ⟨newCap, (Builtin.zeroCells zz.cells (newCap - (n + m))).toList, hle, ?_, ?_⟩
 ·rw [List.length_append, List.length_append, hzs, x2, y2, ← Nat.add_mul, ← Nat.add_mul]
  congr 1; omega
 ·rw [hrun]
  congr 3
  apply Array.ext'
  simp
theorem Ok.unknown (hok : Ok c fr w) {b : Nat} (hb : w.heap.size ≤ b) : (∀ j v, c.H.cell b j ≠ some v) ∧ c.H.obj b = none ∧ c.H.var b = false := by
 refine ⟨fun j v hc => by have := hok.mod.cell_lt hc; omega, ?_, ?_⟩
 ·cases hc : c.H.obj b with
  | none => rfl
  | some v => have := (Array.getElem?_eq_some_iff.1 (hok.mod.2.1 _ _ hc).1).1; omega
 ·cases hc : c.H.var b with
  | false => rfl
  | true => obtain ⟨cc, t, h2⟩ := hok.mod.2.2.1 _ hc; have := (Array.getElem?_eq_some_iff.1 h2).1; omega
/-- a new block of it -/
theorem s_gpush {l : List Blk} {r : Frs} (hok : Ok c (l :: r) w) (hB : c.B ≤ w.heap.size) {sz cap : Nat} {zs : List D} {vs rest : List Value} (u : TypeId) (hcap : zs.length ≤ cap ∧ zs.length ≤ 9223372036854775807) (hsz : ∀ x ∈ zs, x.cells.length = sz) (hl : ∀ y ∈ flat zs, y.leaf = true) (hn : vs.length = (flat zs).length)
  (hr : ∀ j (hj : j < (flat zs).length), DRel c.H (vs.getD j default) ((flat zs)[j])) (hrest : (vs ++ rest).length = cap * sz) (hc0 : 0 < cap) :
  ∃ c', c.le c' ∧ c'.B = c.B ∧ Ok c' ((l ++ [.garr sz zs]) :: r) (w.alloc (.cells (vs ++ rest).toArray u)) ∧ VRel c' (.slice (some ⟨w.heap.size, 0, none⟩) zs.length cap) (.garr 0 l.length zs.length sz) := by
 have hb := alloc_below w (.cells (vs ++ rest).toArray u)
 have h1 := hok.calls hb hB (Imm.ext.refl _ _) (hok.mod.below hb)
 obtain ⟨f1, f2, f3⟩ := hok.unknown (Nat.le_refl _)
 obtain ⟨c', k1, k2, k3, _, k4, k5⟩ := h1.push (e := ⟨w.heap.size, true, 0, zs.length, cap⟩) (b := .garr sz zs) (Ent.gh_cap hc0) (.inl hB)
  (fun lvl i e' he => by have := hok.lt (l := lvl) (i := i) he; show e'.b ≠ w.heap.size; omega)
  (fun _ => ⟨fun j v hc => absurd hc (f1 j v), f2, f3⟩)
  fun c' hle => .garr sz zs (vs ++ rest) u ⟨rfl, rfl⟩ rfl (heap_alloc_new w _) hrest hcap hsz hl fun j hj => by
   rw [List.getD_eq_getElem?_getD, List.getElem?_append_left (by omega), ← List.getD_eq_getElem?_getD]
   exact (hr j hj).mono hle.H
 exact ⟨c', k1, k3, k5, .garr _ cap 0 l.length zs.length sz _ k4 ⟨rfl, rfl⟩ (Nat.le_refl _) fun _ => ⟨rfl, rfl⟩⟩
theorem s_appendF (F : TFacts P t ti i d z) {e : TypeId} (hk : ti.kind = .slice e) (hok : Ok c fr w) (hB : c.B ≤ w.heap.size) {vx vy : Value} {x y : AV} (hx : VRel c vx x) (hy : VRel c vy y) (ty : TypeId) {K : AV → Frs → Prop} (h : aappendF ti fr x y K) :
  Does P c w (Builtin.append_ #[t, t] ty #[vx, vy]) K := by
 unfold aappendF at h
 split at h
 case h_2 => exact h.elim
 rename_i sy ys hys
 obtain ⟨ya, ycap, rfl, hyd⟩ := elemsO_rel hy hys
 have hx' := fixNil_rel (ti := ti) hx
 revert h hx'
 generalize fixNil ti x = x'
 intro h hx'
 -- the first elements
 have first : ∀ (a : Option Addr), vx = .slice a 0 0 → ys.length < 4294967296 → sy = ti.esz → newK fr (.garr ti.esz ys) (fun i fr => K (.garr 0 i ys.length ti.esz) fr) → Does P c w (Builtin.append_ #[t, t] ty #[vx, .slice ya ys.length ycap]) K := by
  rintro a rfl h1 rfl h3
  cases fr with
  | nil => exact h3.elim
  | cons l r =>
   simp only [newK] at h3
   by_cases hne : ys = []
   ·subst hne
    obtain ⟨yv, y1, y2, _⟩ := run_firstCells (P := P) hok.mod hyd
    have hyv : yv = [] := List.eq_nil_of_length_eq_zero (by simpa [flat] using y2)
    subst hyv
    obtain ⟨c', k1, k2, k3, _, k5⟩ := hok.holdX 0 (.garr ti.esz []) (.inr (.inl ⟨_, rfl, rfl⟩))
    exact ⟨_, w, c', _, .garr 0 l.length 0 ti.esz, run_append_room F hk (n := 0) (m := 0) (by simp) [] y1 ty (by cases a <;> simp [storeCells]), Nat.le_refl _, k1, k5, .garr0 a 0 l.length ti.esz, h3⟩
   ·have hl : 0 < ys.length := List.length_pos_iff.2 hne
    obtain ⟨_, _, ysz, yl, _⟩ := hyd.row
    obtain ⟨yv, y1, y2, y3⟩ := run_firstCells (P := P) (w := w.drew) hok.mod hyd
    obtain ⟨newCap, rest, q1, q2, q3⟩ := run_append_newV F hk (a := a) (cap := 0) (n := 0) [] yv (by cases a <;> simp [Builtin.firstCells, loadCells, loadCellsFrom]) y1 (by simp) (by rw [y2, flat_len ysz]) (by omega) (by omega) ty
    simp only [List.nil_append] at q2 q3
    obtain ⟨c', k1, k2, k3, k4⟩ := s_gpush hok.drew hB (zs := ys) e ⟨by omega, by omega⟩ ysz yl y2 y3 q2 (by omega)
    exact ⟨_, _, c', _, .garr 0 l.length ys.length ti.esz, q3, by simp, k1, k3, by rw [Nat.zero_add]; exact k4, h3⟩
 split at h
 ·rename_i sz
  split at h
  case h_2 => exact h.elim
  rename_i hs
  have hs := Nat.eq_of_beq_eq_true hs
  obtain ⟨h1, h2, h3⟩ := h
  subst hs
  cases hx'
  exact first none rfl h1 h2 h3
 ·rename_i sz xs
  split at h
  case h_2 => exact h.elim
  rename_i hs
  have hs := Nat.eq_of_beq_eq_true hs
  obtain ⟨rfl, h1, h2, h3⟩ := h
  subst hs
  cases hx' with | full a _ _ hxd => exact first a rfl h1 h2 h3
 ·rename_i l j n sz
  split at h
  case h_2 => exact h.elim
  rename_i sz' xs hs hbk
  have hs := Nat.eq_of_beq_eq_true hs
  subst hs
  split at h
  case h_2 => exact h.elim
  rename_i hss
  have hss := Nat.eq_of_beq_eq_true hss
  subst hss
  obtain ⟨h1, rfl, rfl, h⟩ := h
  rw [blk_bind] at hbk
  obtain ⟨r, hr, hi, hK⟩ := setBlkK_spec h
  obtain ⟨_, _, ysz, yl, _⟩ := hyd.row
  have hfy : (flat ys).length = ys.length * ti.esz := flat_len ysz
  obtain ⟨yv, y1, y2, y3⟩ := run_firstCells (P := P) hok.mod hyd
  obtain ⟨yv', y1', y2', y3'⟩ := run_firstCells (P := P) (w := w.drew) hok.mod hyd
  -- into a new block
  have off : ∀ (a : Option Addr) (cap : Nat) (e1 : Ent) (xv : List Value), vx = .slice a xs.length cap → c.raw l j = some e1 → e1.g = true → e1.sz = 0 → e1.n = xs.length → ys ≠ [] → ¬ xs.length + ys.length ≤ cap →
    (Builtin.firstCells ti.esz xs.length (.slice a xs.length cap)).run P w.drew = .ok xv.toArray w.drew → xv.length = (flat xs).length → (∀ x ∈ xs, x.cells.length = ti.esz) → (∀ c ∈ flat xs, c.leaf = true) →
    (∀ j (hj : j < (flat xs).length), DRel c.H (xv.getD j default) ((flat xs)[j])) → Does P c w (Builtin.append_ #[t, t] ty #[vx, .slice ya ys.length ycap]) K := by
   rintro a cap e1 xv rfl he hg hsz0 hen hne hroom x1 x2 xsz xl x3
   have hl0 : 0 < ys.length := List.length_pos_iff.2 hne
   have hfx : (flat xs).length = xs.length * ti.esz := flat_len xsz
   obtain ⟨newCap, rest, q1, q2, q3⟩ := run_append_newV F hk xv yv' x1 y1' (by omega) (by omega) hroom h1 ty
   have hbel : Below w.heap.size w (w.drew.alloc (.cells (xv ++ yv' ++ rest).toArray e)) := by
    have := alloc_below w.drew (.cells (xv ++ yv' ++ rest).toArray e)
    exact ⟨this.os, this.tape, this.output, this.size, this.block⟩
   have hnl : (xs ++ ys).length = xs.length + ys.length := by simp
   obtain ⟨c', k1, k2, k3, k4, k5⟩ := hok.regrow (e' := ⟨w.heap.size, true, 0, xs.length + ys.length, newCap⟩) (sz := ti.esz) (H' := c.H) hB he hg (Ent.gh_cap (show 0 < newCap from by omega)) rfl hsz0.symm (show e1.n < xs.length + ys.length from by omega) (.inr (Nat.le_refl _))
    (fun b hb hb2 => hbel.block b hb2) hbel.size hbel.os hbel.tape hbel.output
    (Imm.le.refl _) (fun b q v hc => .inl hc) rfl rfl (hok.mod.below hbel) (nb := .garr ti.esz (xs ++ ys))
    (fun c' hcH => .garr ti.esz _ (xv ++ yv' ++ rest) e ⟨rfl, rfl⟩ hnl.symm (heap_alloc_new w.drew _) q2 ⟨show (xs ++ ys).length ≤ newCap from by omega, by omega⟩ (fun q hq => (List.mem_append.1 hq).elim (xsz q) (ysz q)) (fun q hq => by rw [flat_append] at hq; exact (List.mem_append.1 hq).elim (xl q) (yl q)) fun m hm => by
     rw [hcH, List.getD_eq_getElem?_getD, List.getElem?_append_left (by rw [flat_append] at hm; simp at hm ⊢; omega), ← List.getD_eq_getElem?_getD]
     have h7 := rel_append x2 y2' x3 y3' m (by rw [← flat_append]; exact hm)
     have h8 : (flat (xs ++ ys))[m] = (flat xs ++ flat ys)[m]'(by rw [← flat_append]; exact hm) := by
      apply Option.some.inj; rw [← List.getElem?_eq_getElem, ← List.getElem?_eq_getElem, flat_append]
     rw [h8]
     exact h7) hr hi
   exact ⟨_, _, c', _, _, q3, hbel.size, k1, k5, .garr _ newCap l j _ _ _ k4 ⟨rfl, rfl⟩ (Nat.le_refl _) fun _ => ⟨rfl, rfl⟩, hK⟩
  have same : ys = [] → K (.garr l j xs.length ti.esz) fr := fun hne => by
   subst hne
   have e2 := hok.same_blk hr hbk
   simp only [List.length_nil, Nat.add_zero, List.append_nil] at hK
   rw [e2] at hK; exact hK
  rcases hok.ent' hbk with ⟨e1, he, hbr⟩ | ⟨e1, he, hgh, hb0, hn0⟩
  ·cases hbr with | garr _ _ vs u hg hen hw hv hcap xsz xl xr =>
   have hraw := (Ctx.ent_iff.1 he).1
   have hfx : (flat xs).length = xs.length * ti.esz := flat_len xsz
   have hvl : xs.length * ti.esz ≤ vs.length := by rw [hv]; exact Nat.mul_le_mul_right _ hcap.1
   have xr' : ∀ j (hj : j < (flat xs).length), DRel c.H ((vs.take (xs.length * ti.esz)).getD j default) ((flat xs)[j]) := fun j hj => by
    have := xr j hj
    rw [List.getD_eq_getElem?_getD, List.getElem?_take, if_pos (by omega), ← List.getD_eq_getElem?_getD]; exact this
   have hx2 : ∃ nn, nn = xs.length ∧ VRel c vx (.garr l j nn ti.esz) := ⟨_, rfl, hx'⟩
   obtain ⟨nn, hnn, hx2⟩ := hx2
   cases hx2 with
   | garr0 a =>
    have hx0 : xs = [] := List.eq_nil_of_length_eq_zero hnn.symm
    subst hx0
    by_cases hne : ys = []
    ·subst hne
     have hyv : yv = [] := List.eq_nil_of_length_eq_zero (by simpa [flat] using y2)
     subst hyv
     exact ⟨_, w, c, fr, _, run_append_room F hk (n := 0) (m := 0) (by simp) [] y1 ty (by cases a <;> simp [storeCells]), Nat.le_refl _, Ctx.le.refl c, hok, .garr0 a l j _, same rfl⟩
    ·exact off a 0 e1 [] rfl hraw hg.1 hg.2 hen hne (by have := List.length_pos_iff.2 hne; simp; exact hne) (by cases a <;> simp [Builtin.firstCells, loadCells, loadCellsFrom]) (by simp [flat]) xsz xl (by simp [flat])
   | garr a cap _ _ _ _ e2 he2 hg2 hn2 hc2 =>
    rw [he] at he2; injection he2 with he2; subst he2
    subst hnn
    obtain ⟨rfl, rfl⟩ := hc2 hen.symm
    by_cases hne : ys = []
    ·subst hne
     have hyv : yv = [] := List.eq_nil_of_length_eq_zero (by simpa [flat] using y2)
     subst hyv
     exact ⟨_, w, c, fr, _, run_append_room F hk (n := xs.length) (m := 0) (by omega) [] y1 ty (by simp [storeCells]), Nat.le_refl _, Ctx.le.refl c, hok, .garr _ _ l j _ _ e1 he hg2 hn2 hc2, same rfl⟩
    ·have hl0 : 0 < ys.length := List.length_pos_iff.2 hne
     have hload : ∀ w2 : World, w2.heap = w.heap → (Builtin.firstCells ti.esz xs.length (.slice (some ⟨e1.b, 0, none⟩) xs.length e1.cap)).run P w2 = .ok (vs.take (xs.length * ti.esz)).toArray w2 := fun w2 hw2 => by
      simp only [Builtin.firstCells]
      have hlen : (vs.take (xs.length * ti.esz)).length = xs.length * ti.esz := by simp; omega
      have := run_loadCells_list (P := P) w2 (⟨e1.b, 0, none⟩ : Addr) (vs.take (xs.length * ti.esz)) fun j v hj => by
       rw [addr_add, Nat.zero_add]
       have hlt := (List.getElem?_eq_some_iff.1 hj).1
       rw [List.getElem?_take, if_pos (by omega)] at hj
       have h0 := cell_of_heap hw j
       unfold World.cell? at h0 ⊢
       rw [hw2, h0, hj]
      rw [hlen] at this
      exact this
     by_cases hroom : xs.length + ys.length ≤ e1.cap
     ·have hyvl : xs.length * ti.esz + yv.length ≤ vs.length := by
       rw [y2, hfy, hv, ← Nat.add_mul]; exact Nat.mul_le_mul_right _ hroom
      have hone : ∀ q ∈ yv, q.oneCell' = true := fun q hq => by
       obtain ⟨m, hm, rfl⟩ := List.mem_iff_getElem.1 hq
       have := (y3 m (by omega)).leaf_value (yl _ (List.getElem_mem _))
       rw [List.getD_eq_getElem?_getD, List.getElem?_eq_getElem hm] at this
       exact oneCell_of this
      have hst := run_storeCells_at (P := P) e1.b (xs.length * ti.esz) u yv 0 vs.toArray w hw (by simpa using hyvl) hone
      simp only [Nat.add_zero] at hst
      obtain ⟨f1, f2, f3⟩ := hok.far _ _ _ he fun hq => by rw [hg.1] at hq; cases hq
      have hnone : ∀ j, c.H.cell e1.b j = none := fun j => by
       cases hc : c.H.cell e1.b j with
       | none => rfl
       | some v => have := (f1 _ _ hc).2; rw [hg.2] at this; omega
      have hmod : Models (w.setRow e1.b (vs.take (xs.length * ti.esz) ++ yv ++ vs.drop (xs.length * ti.esz + yv.length)).toArray) c.H := hok.mod.off e1.b hnone f2 f3 (fun b hb => .inl (setRow_other w _ b _ hb).symm) (by simp [World.setRow]) fun cc tt ff hc => by rw [setRow_heap w _ _ _ u _ hw] at hc; injection hc with hc; injection hc with _ _ hc; exact hc.symm
      have hnl : (xs ++ ys).length = xs.length + ys.length := by simp
      obtain ⟨c', k1, k2, k3, k4, k5⟩ := hok.regrow (e' := { e1 with n := xs.length + ys.length }) (sz := ti.esz) (H' := c.H) hB hraw hg.1 (Ctx.ent_iff.1 he).2 hg.1 rfl (by show e1.n < xs.length + ys.length; omega) (.inl ⟨rfl, (Ctx.ent_iff.1 he).2⟩)
       (fun b hb _ => setRow_other w _ b _ (hb (Ctx.ent_iff.1 he).2)) (by simp [World.setRow]) rfl rfl rfl
       (Imm.le.refl _) (fun b q v hc => .inl hc) rfl rfl hmod (nb := .garr ti.esz (xs ++ ys))
       (fun c' hcH => .garr ti.esz _ (vs.take (xs.length * ti.esz) ++ yv ++ vs.drop (xs.length * ti.esz + yv.length)) u hg hnl.symm (setRow_heap w _ _ _ u _ hw) (by simp; omega) ⟨by simpa using hroom, by simp; omega⟩ (fun q hq => (List.mem_append.1 hq).elim (xsz q) (ysz q)) (fun q hq => by rw [flat_append] at hq; exact (List.mem_append.1 hq).elim (xl q) (yl q)) fun m hm => by
        have hm' : m < xs.length * ti.esz + yv.length := by rw [flat_append] at hm; simp at hm; omega
        rw [hcH, List.getD_eq_getElem?_getD, List.getElem?_append_left (by simp; omega), ← List.getD_eq_getElem?_getD]
        have h7 := rel_append (vs := vs.take (xs.length * ti.esz)) (by simp; omega) y2 xr' y3 m (by rw [← flat_append]; exact hm)
        have h8 : (flat (xs ++ ys))[m] = (flat xs ++ flat ys)[m]'(by rw [← flat_append]; exact hm) := by
         apply Option.some.inj; rw [← List.getElem?_eq_getElem, ← List.getElem?_eq_getElem, flat_append]
        rw [h8]
        exact h7) hr hi
      exact ⟨_, _, c', _, _, run_append_room F hk hroom yv y1 ty (by show (storeCells ((⟨e1.b, 0, none⟩ : Addr).add (xs.length * ti.esz)) yv).run P w = _; rw [addr_add, Nat.zero_add]; exact hst), by simp [World.setRow], k1, k5, .garr _ _ l j _ _ _ k4 hg2 (Nat.le_refl _) fun _ => ⟨rfl, rfl⟩, hK⟩
     ·exact off _ _ e1 (vs.take (xs.length * ti.esz)) rfl hraw hg.1 hg.2 hen hne hroom (hload w.drew rfl) (by simp; omega) xsz xl xr'
  ·have hb0 : xs = [] ∧ e1.sz = 0 := by
    rcases hb0 with hb0 | ⟨q, hq, hb0⟩ | ⟨q, hb0⟩ | hb0
    ·cases hb0
    ·injection hb0 with _ hb0; exact ⟨hb0, hq⟩
    ·cases hb0
    ·cases hb0
   obtain ⟨rfl, hs0⟩ := hb0
   have hg1 : e1.g = true := by
    cases hg : e1.g with
    | true => rfl
    | false => rw [Ent.gh_var hg] at hgh; cases hgh
   have hv0 : ∃ a, vx = .slice a 0 0 := by
    have hx2 : ∃ nn, nn = ([] : List D).length ∧ VRel c vx (.garr l j nn ti.esz) := ⟨_, rfl, hx'⟩
    obtain ⟨nn, hnn, hx2⟩ := hx2
    cases hx2 with
    | garr0 a => exact ⟨a, rfl⟩
    | garr a cap _ _ _ _ e2 he2 => have := (Ctx.ent_iff.1 he2); rw [he] at this; injection this.1 with h; subst h; rw [hgh] at this; cases this.2
   obtain ⟨a, rfl⟩ := hv0
   by_cases hne : ys = []
   ·subst hne
    have hyv : yv = [] := List.eq_nil_of_length_eq_zero (by simpa [flat] using y2)
    subst hyv
    exact ⟨_, w, c, fr, _, run_append_room F hk (n := 0) (m := 0) (by simp) [] y1 ty (by cases a <;> simp [storeCells]), Nat.le_refl _, Ctx.le.refl c, hok, .garr0 a l j _, same rfl⟩
   ·exact off a 0 e1 [] rfl he hg1 hs0 hn0 hne (by simpa using hne) (by cases a <;> simp [Builtin.firstCells, loadCells, loadCellsFrom]) (by simp [flat]) (by simp) (by simp [flat]) (by simp [flat])
 ·exact h.elim
theorem s_append (F : TFacts P t ti i d z) (hok : Ok c fr w) (hB : c.B ≤ w.heap.size) {vx vy : Value} {x y : AV} (hx : VRel c vx x) (hy : VRel c vy y) (ty : TypeId) {K : AV → Frs → Prop} (h : aappend ti fr x y K) :
  Does P c w (Builtin.append_ #[t, t] ty #[vx, vy]) K := by
 unfold aappend at h
 split at h
 ·rename_i e hk
  split at h
  ·exact s_appendF F hk hok hB hx hy ty h
  split at h
  ·rename_i sy ys hys
   obtain ⟨ya, ycap, rfl, hyd⟩ := elemsO_rel hy hys
   have hx' := fixNil_rel (ti := ti) hx
   revert h hx'
   generalize fixNil ti x = x'
   intro h hx'
   split at h
   ·-- nil
    rename_i sz
    split at h
    ·rename_i hs
     have hs := Nat.eq_of_beq_eq_true hs
     obtain ⟨h1, rfl, h2, h3⟩ := h
     subst hs
     cases hx'
     by_cases hne : ys = []
     ·subst hne
      obtain ⟨yv, y1, y2, _⟩ := run_firstCells (P := P) hok.mod hyd
      exact ⟨_, w, c, fr, _, run_append_room F hk (n := 0) (m := 0) (by simp) yv y1 ty rfl, Nat.le_refl _, Ctx.le.refl c, hok, .nil ti.esz, h2 rfl⟩
     ·have hl : 0 < ys.length := List.length_pos_iff.2 hne
      exact s_append_new F hk hok hB (xs := []) (.nil0 _) hyd (by simp; omega) (by simpa using h1) ty (by simpa using h3 hne)
    ·exact h.elim
   ·-- full
    rename_i sz xs
    split at h
    ·rename_i hs
     have hs := Nat.eq_of_beq_eq_true hs
     obtain ⟨h1, rfl, h2, h3⟩ := h
     subst hs
     cases hx' with | full a _ _ hxd =>
     by_cases hne : ys = []
     ·subst hne
      obtain ⟨yv, y1, y2, _⟩ := run_firstCells (P := P) hok.mod hyd
      have hyv : yv = [] := List.eq_nil_of_length_eq_zero (by simpa [flat] using y2)
      subst hyv
      refine ⟨_, w, c, fr, _, run_append_room F hk (n := xs.length) (m := 0) (by simp) [] y1 ty ?_, Nat.le_refl _, Ctx.le.refl c, hok, by simpa using VRel.full a ti.esz xs hxd, h2 rfl⟩
      cases a <;> simp [storeCells]
     ·have hl : 0 < ys.length := List.length_pos_iff.2 hne
      exact s_append_new F hk hok hB hxd hyd (by omega) h1 ty (h3 hne)
    ·exact h.elim
   ·-- owned
    rename_i l j sz xs
    split at h
    ·rename_i sz' n hs hbk
     have hs := Nat.eq_of_beq_eq_true hs
     subst hs
     split at h
     case h_2 => exact h.elim
     rename_i hss
     have hss := Nat.eq_of_beq_eq_true hss
     subst hss
     obtain ⟨h1, rfl, rfl, h⟩ := h
     rw [blk_bind] at hbk
     obtain ⟨r, hr, hi, hK⟩ := setBlkK_spec h
     cases hx' with
     | own a cap _ _ _ _ e1 hxd he hg' hs' hn' hc' => exact s_append_own F hk hok hB hxd hyd h1 ty he hbk hg' hs' hn' hc' hr hi hK
     | own0 a _ _ _ =>
      by_cases hne : ys = []
      ·subst hne
       obtain ⟨yv, y1, y2, _⟩ := run_firstCells (P := P) hok.mod hyd
       have hyv : yv = [] := List.eq_nil_of_length_eq_zero (by simpa [flat] using y2)
       subst hyv
       refine ⟨_, w, c, fr, .own l j ti.esz [], run_append_room F hk (n := 0) (m := 0) (by simp) [] y1 ty (by cases a <;> simp [storeCells]), Nat.le_refl _, Ctx.le.refl c, hok, .own0 a l j _, ?_⟩
       have e2 := hok.same_blk hr hbk
       have e3 : K (AV.own l j ti.esz []) (List.set fr l (r.set j (.grow ti.esz ([] : List D).length))) := by simpa using hK
       rw [e2] at e3; exact e3
      ·have hl : 0 < ys.length := List.length_pos_iff.2 hne
       obtain ⟨e1, he, hg1, hs1, hn1⟩ : ∃ e1, c.raw l j = some e1 ∧ e1.g = true ∧ e1.sz = ti.esz ∧ e1.n = 0 := by
        rcases hok.ent' hbk with ⟨e1, he, hbr⟩ | ⟨e1, he, hgh, hb0, hn0⟩
        ·cases hbr with | grow _ _ vs u hg hes hen hw hv hcap => exact ⟨e1, (Ctx.ent_iff.1 he).1, hg, hes, hen⟩
        ·replace hb0 : Blk.grow ti.esz ([] : List D).length = .grow e1.sz 0 := by
          rcases hb0 with hb0 | ⟨q, _, hb0⟩ | ⟨q, hb0⟩ | hb0
          ·exact hb0
          ·cases hb0
          ·cases hb0
          ·cases hb0
         injection hb0 with hb0 _
         refine ⟨e1, he, ?_, hb0.symm, hn0⟩
         cases hg : e1.g with
         | true => rfl
         | false => rw [Ent.gh_var hg] at hgh; cases hgh
       exact s_append_off F hk hok hB (xs := []) (.zero0 a _) hyd (by simp; omega) h1 hne ty he hg1 hn1 hs1 hr hi (by simpa using hK)
    ·exact h.elim
   ·exact h.elim
  ·exact h.elim
 ·exact h.elim
end
end Go.Proofs.Ytemfpemejagndaa.Fw

