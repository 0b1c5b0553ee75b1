/- Operations run one by one, temporaries known exactly; memory of which only headers stay known. -/
import Derived.Test.YtemfpemejagndaaFwNe
set_option autoImplicit false
set_option linter.unusedVariables false
set_option linter.unusedSimpArgs false
namespace Go.Proofs.Ytemfpemejagndaa.Fw
open Go Go.RowKit

def aget (t : Nat) : List (Nat × Value) → Option Value
 | [] => none
 | p :: r => match Nat.beq t p.1 with | true => some p.2 | false => aget t r
structure Has (N : Nat) (ts : List (Nat × Value)) (a : Act) : Prop where
 n : a.tmps.size = N
 ds : a.defers = []
 rel : ∀ t v, aget t ts = some v → a.tmps.getD t undef = v
def SubTs (ts : List (Nat × Value)) : List (Nat × Value) → Prop
 | [] => True
 | p :: r => aget p.1 ts = some p.2 ∧ SubTs ts r
section
variable {T : TT} {P : Program} {N : Nat} {ts : List (Nat × Value)} {a : Act} {w : World} {ti : TI} {t : TypeId}
theorem Has.sub {ts' : List (Nat × Value)} (h : Has N ts a) (hs : SubTs ts ts') : Has N ts' a := by
 refine ⟨h.n, h.ds, fun t v hv => ?_⟩
 induction ts' with
 | nil => cases hv
 | cons p r ih =>
  simp only [aget] at hv
  split at hv
  ·rename_i he
   have := Nat.eq_of_beq_eq_true he
   subst this
   injection hv with hv
   subst hv
   exact h.rel _ _ hs.1
  ·exact ih hs.2 hv
theorem Has.tmp {x : Nat} {v : Value} (h : Has N ts a) (hx : aget x ts = some v) : a.eval (.tmp x) = v := h.rel x v hx
theorem Has.put {d : Nat} {v : Value} (h : Has N ts a) (hd : d < N) : Has N ((d, v) :: ts) (a.put (some d) v) := by
 refine ⟨by simpa [Act.put] using h.n, h.ds, fun u x hu => ?_⟩
 simp only [aget] at hu
 split at hu
 ·rename_i he
  have := Nat.eq_of_beq_eq_true he
  subst this
  injection hu with hu
  subst hu
  simp [Act.put, Array.getElem?_setIfInBounds, h.n, hd, Array.getD_eq_getD_getElem?]
 ·rename_i he
  have hne : d ≠ u := fun e => by subst e; simp at he
  have := h.rel _ _ hu
  rw [← this]
  simp [Act.put, Array.getElem?_setIfInBounds, hne, Array.getD_eq_getD_getElem?]
variable {ops : Array Oper} {Q : Exit → Act → World → Prop} {rest : List Oper}
theorem x_op {o : Oper} {d : Nat} {v : Value} (hd : o.dst = some d) (hg : o.guard = none) (hlt : Nat.blt d N = true) (ha : Has N ts a) (hr : (execOp a.eval o).run P w = .ok (.value v) w)
  (h : ∀ a', Has N ((d, v) :: ts) a' → wpList P ops Q rest a' w) : wpList P ops Q (o :: rest) a w := by
 refine wpList_plain hg fun K hK => ?_
 unfold Oper.wp
 rw [hr, Oper.upon_value, hd]
 exact hK _ _ (h _ (ha.put (by simpa [Nat.blt_eq] using hlt)))
theorem x_end {o : Oper} {w' : World} (hd : o.dst = none) (hg : o.guard = none) (hr : (execOp a.eval o).run P w = .ok .skip w') (h : wpList P ops Q rest a w') : wpList P ops Q (o :: rest) a w := by
 refine wpList_plain hg fun K hK => ?_
 unfold Oper.wp
 rw [hr, Oper.upon_skip, hd]
 exact hK _ _ h
variable {dst : Option Tmp} {ty : TypeId} {pos : String} {aft : Array Edge} {g : Option (Nat × Bool)}
theorem TT.facts (hT : T.okB P = true) (h : TT.get t T = some ti) : ∃ i d z, TFacts P t ti i d z := TI.facts (TT.get_ok hT h)
theorem x_move {x : Operand} {v : Value} (he : a.eval x = v) : (execOp a.eval ⟨dst, .move x, ty, pos, aft, g⟩).run P w = .ok (.value v) w := by subst he; rfl
theorem x_assign {x : Operand} {v : Value} (he : a.eval x = v) : (execOp a.eval ⟨dst, .assign x, ty, pos, aft, g⟩).run P w = .ok (.value v) w := by subst he; rfl
theorem x_field (hT : T.okB P = true) (ht : TT.get t T = some ti) {f o n b off : Nat} {q : Bool} (hf : ti.fields[f]? = some (o, n, q)) (hn : n ≠ 0) {x : Operand} (he : a.eval x = .pointer (some ⟨b, off, none⟩)) :
  (execOp a.eval ⟨dst, .fieldAddr t x f, ty, pos, aft, g⟩).run P w = .ok (.value (.pointer (some ⟨b, off + o, none⟩))) w := by
 obtain ⟨i, d, z, F⟩ := TT.facts hT ht
 simp [execOp, he, run_fieldAt F hf hn]
theorem x_load (hT : T.okB P = true) (ht : TT.get t T = some ti) (hag : ti.agg = false) {q : Addr} {v : Value} {x : Operand} (he : a.eval x = .pointer (some q)) (hc : w.cell? q = some v) :
  (execOp a.eval ⟨dst, .load t x, ty, pos, aft, g⟩).run P w = .ok (.value v) w := by
 obtain ⟨i, d, z, F⟩ := TT.facts hT ht
 simp [execOp, he, Instr.loadAt, Instr.sureAddr, run_loadVar_leaf F hag q v hc]
theorem x_index (hT : T.okB P = true) (ht : TT.get t T = some ti) {e : TypeId} (hk : ti.kind = .slice e) {b o n cap k : Nat} {x y : Operand} (he : a.eval x = .slice (some ⟨b, o, none⟩) n cap) (hy : a.eval y = .int .i64 k) (hlt : k < n) :
  (execOp a.eval ⟨dst, .indexAddr t x y, ty, pos, aft, g⟩).run P w = .ok (.value (.pointer (some ⟨b, o + k * ti.esz, none⟩))) w := by
 obtain ⟨i, d, z, F⟩ := TT.facts hT ht
 simp [execOp, he, hy, run_indexAt F hk b o n cap k .i64 hlt]
theorem x_len (hT : T.okB P = true) (ht : TT.get t T = some ti) {e : TypeId} (hk : ti.kind = .slice e) {q : Option Addr} {n cap : Nat} {x : Operand} (he : a.eval x = .slice q n cap) :
  (execOp a.eval ⟨dst, .call { callee := .builtin .len, args := #[x], argTypes := #[t] }, ty, pos, aft, g⟩).run P w = .ok (.value (.int .i64 n)) w := by
 obtain ⟨i, d, z, F⟩ := TT.facts hT ht
 have hd := F.slice hk
 subst hd
 simp [execOp, resolve, invoke, builtin, he, Builtin.len_, F.run_underlying, goInt]
theorem x_lss {x y : Operand} {m n : Int} {tx ty' : TypeId} (hx : a.eval x = .int .i64 m) (hy : a.eval y = .int .i64 n) : (execOp a.eval ⟨dst, .binOp .lss tx x y ty', ty, pos, aft, g⟩).run P w = .ok (.value (.bool (decide (m < n)))) w := by
 simp [execOp, hx, hy, eqGuard, Go.binOp, Op.intCmp]
theorem x_succ {x y : Operand} {m : Nat} {tx ty' : TypeId} (hx : a.eval x = .int .i64 (m : Int)) (hy : a.eval y = .int .i64 1) (hm : m < 9223372036854775807) : (execOp a.eval ⟨dst, .binOp .add tx x y ty', ty, pos, aft, g⟩).run P w = .ok (.value (.int .i64 ((m + 1 : Nat) : Int))) w := by
 have e : IntKind.i64.wrap ((m : Int) + 1) = ((m + 1 : Nat) : Int) := by rw [IntKind.wrap_i64]; omega
 simp [execOp, hx, hy, eqGuard, Go.binOp, Op.intArith, e]
/-- a world of which the box be and the headers at k * sz + off of the row at (b, o) are still known; W: what is written -/
structure Scr (w0 : World) (be : Nat) (v1 : Value) (b o sz off len : Nat) (hv : Nat → Value) (W : Nat → Nat → Prop) (w : World) : Prop where
 below : Below w0.heap.size w0 w
 box : w.cell? ⟨be, 1, none⟩ = some v1
 hdr : ∀ k, k < len → w.cell? ⟨b, o + k * sz + off, none⟩ = some (hv k)
 wr : ∀ bl j, W bl j → ∃ (cs : List Value) (t : TypeId), w.heap[bl]? = some (.cells cs.toArray t (0, 0)) ∧ j < cs.length
theorem Scr.write {w0 : World} {be : Nat} {v1 : Value} {b o sz off len : Nat} {hv : Nat → Value} {W : Nat → Nat → Prop} (h : Scr w0 be v1 b o sz off len hv W w) {bl j : Nat} {cs : List Value} {t : TypeId} (hw : w.heap[bl]? = some (.cells cs.toArray t (0, 0))) (hn : w0.heap.size ≤ bl)
  (h1 : bl ≠ be) (h2 : ∀ k, k < len → bl = b → j ≠ o + k * sz + off) (v : Value) (hj : j < cs.length) : Scr w0 be v1 b o sz off len hv W (w.setRow bl (cs.take j ++ [v] ++ cs.drop (j + 1)).toArray) := by
 have hr := setRow_heap w bl _ (cs.take j ++ [v] ++ cs.drop (j + 1)).toArray t (0, 0) hw
 have hget : ∀ i, i ≠ j → (cs.take j ++ [v] ++ cs.drop (j + 1))[i]? = cs[i]? := fun i hi => by
  rcases Nat.lt_or_ge i j with hlt | hge
  ·rw [List.append_assoc, List.getElem?_append_left (by simp; omega), List.getElem?_take, if_pos hlt]
  ·rw [List.getElem?_append_right (by simp; omega), List.getElem?_drop]
   congr 1; simp; omega
 have hlen : (cs.take j ++ [v] ++ cs.drop (j + 1)).length = cs.length := by simp; omega
 refine ⟨?_, ?_, fun k hk => ?_, fun bl' j' hW => ?_⟩
 ·exact ⟨h.below.os, h.below.tape, h.below.output, by simpa [World.setRow] using h.below.size, fun k hk => by rw [setRow_other w _ k _ (by omega)]; exact h.below.block k hk⟩
 ·have h0 := h.box
  unfold World.cell? at h0 ⊢
  rw [setRow_other w _ be _ (Ne.symm h1)]; exact h0
 ·have h0 := h.hdr k hk
  by_cases hb : b = bl
  ·subst hb
   rw [cell_of_heap hw] at h0
   rw [cell_of_heap hr, hget _ (Ne.symm (h2 k hk rfl))]; exact h0
  ·unfold World.cell? at h0 ⊢
   rw [setRow_other w _ b _ hb]; exact h0
 ·obtain ⟨cs', t', q1, q2⟩ := h.wr bl' j' hW
  by_cases hb : bl' = bl
  ·subst hb
   rw [hw] at q1
   injection q1 with q1; injection q1 with q1 _ _
   have q1 : cs = cs' := by simpa using q1
   subst q1
   exact ⟨_, t, hr, by rw [hlen]; exact q2⟩
  ·exact ⟨cs', t', by rw [setRow_other w _ bl' _ hb]; exact q1, q2⟩
theorem x_store (hT : T.okB P = true) (ht : TT.get t T = some ti) (hsz : ti.sz = 1) {x y : Operand} {v : Value} {bl j : Nat} (he : a.eval x = .pointer (some ⟨bl, j, none⟩)) (hy : a.eval y = v) (hv : (∀ cs, v ≠ .agg cs) ∧ ∀ vs, v ≠ .tuple vs)
  {w0 : World} {be : Nat} {v1 : Value} {b o sz off len : Nat} {hv' : Nat → Value} {W : Nat → Nat → Prop} (h : Scr w0 be v1 b o sz off len hv' W w) (hW : W bl j) (hn : w0.heap.size ≤ bl) (h1 : bl ≠ be) (h2 : ∀ k, k < len → bl = b → j ≠ o + k * sz + off) :
  ∃ w', (execOp a.eval ⟨dst, .store t x y, ty, pos, aft, g⟩).run P w = .ok .skip w' ∧ Scr w0 be v1 b o sz off len hv' W w' := by
 obtain ⟨i, d, z, F⟩ := TT.facts hT ht
 obtain ⟨cs, u, hw, hj⟩ := h.wr bl j hW
 have hc : v.cells = [v].toArray := by cases v <;> first | rfl | exact absurd rfl (hv.1 _) | exact absurd rfl (hv.2 _)
 refine ⟨_, ?_, h.write hw hn h1 h2 v hj⟩
 have := run_storeVar F (off := j) hw hc (by simpa using hsz.symm) (by simpa using Nat.succ_le_of_lt hj) (by simpa using oneCell_of hv)
 simp [execOp, he, hy, Instr.storeAt, Instr.sureAddr, this]
/-- what stays so while it is written -/
structure ScrF (w0 : World) (be : Nat) (b o sz off noff len : Nat) (hv : Nat → Value) (W : Nat → Nat → Prop) : Prop where
 ne : ∀ bl j, W bl j → w0.heap.size ≤ bl ∧ bl ≠ be ∧ ∀ k, k < len → bl = b → j ≠ o + k * sz + off
 nam : ∀ k, k < len → W b (o + k * sz + noff)
 sub : ∀ k, k < len → ∃ s n cap, hv k = .slice s n cap ∧ n ≤ 9223372036854775807 ∧ ∀ i, i < n → ∃ sb so, s = some ⟨sb, so, none⟩ ∧ W sb (so + i)
theorem scr_start {c : Ctx} {fr : Frs} {w0 : World} {H0 : Imm} (hb : Bs w0 H0 c) (hok : Ok c fr w) (hpos : 0 < w0.heap.size) (hbase : H0.base = w0.heap.size) {i : Nat} {e : Ent} (he : c.ent 0 i = some e) (hg : e.g = false ∧ e.n = 0) {v1 : Value} (hv1 : w.cell? ⟨e.b, 1, none⟩ = some v1)
  {sz : Nat} {xs : List D} (hd : DRel c.H v1 (.slice sz xs)) (off noff : Nat) (hx : ∀ (k : Nat) (x : D), xs[k]? = some x → (∃ z, x.cells[noff]? = some (D.str z)) ∧ ∃ ys : List D, x.cells[off]? = some (D.slice 1 ys) ∧ ∀ y ∈ flat ys, ∃ kd m, y = D.int kd m) :
  ∃ q cap b o hv W, v1 = .slice q xs.length cap ∧ xs.length ≤ 9223372036854775807 ∧ (xs ≠ [] → q = some ⟨b, o, none⟩) ∧ Scr w0 e.b v1 b o sz off xs.length hv W w ∧ ScrF w0 e.b b o sz off noff xs.length hv W := by
 have hcb : c.H.base = w0.heap.size := hb.H.le.2.2.2.1.trans hbase
 have hbel : Below w0.heap.size w0 w := by
  have := hok.below
  rw [hb.free, hb.w] at this
  exact this.to_below
 have hfar := hok.far _ _ _ he fun _ => hg.2
 have hnone : ∀ j v, c.H.cell e.b j ≠ some v := fun j v hc => by have := (hfar.1 _ _ hc).1; rw [hg.1] at this; cases this
 let W : Nat → Nat → Prop := fun bl j => w0.heap.size ≤ bl ∧ (c.H.wr bl = true ∨ c.H.var bl = true) ∧ ∃ u, c.H.cell bl j = some u ∧ ∀ s n cp, u ≠ .slice s n cp
 cases hd with | slice q cap _ _ b o vals hcap hsz ha hy hH hl hr =>
 have hidx : ∀ k x j, xs[k]? = some x → j < x.cells.length → k * sz + j < (flat xs).length := fun k x j hk hj => by
  have hkl := (List.getElem?_eq_some_iff.1 hk).1
  rw [hsz x (List.mem_of_getElem? hk)] at hj
  rw [flat_len hsz]
  calc k * sz + j < k * sz + sz := by omega
   _ = (k + 1) * sz := by rw [Nat.add_mul]; omega
   _ ≤ xs.length * sz := Nat.mul_le_mul_right _ (by omega)
 have hat : ∀ k x j z, xs[k]? = some x → x.cells[j]? = some z → c.H.cell b (o + k * sz + j) = some (vals (k * sz + j)) ∧ DRel c.H (vals (k * sz + j)) z := fun k x j z hk hj => by
  have hjl := (List.getElem?_eq_some_iff.1 hj).1
  have h1 := hidx k x j hk hjl
  refine ⟨by rw [Nat.add_assoc]; exact hH _ h1, ?_⟩
  have h2 := hr _ h1
  have h3 := flat_get hsz k j x hk (by rw [← hsz x (List.mem_of_getElem? hk)]; exact hjl)
  rw [List.getElem?_eq_getElem h1, hj] at h3
  injection h3 with h3
  rw [h3] at h2; exact h2
 have hwr : ∀ b', c.H.yg b' → w0.heap.size ≤ b' ∧ (c.H.wr b' = true ∨ c.H.var b' = true) := fun b' h => ⟨hcb ▸ h.1, h.2 (by rw [hcb]; exact hpos)⟩
 refine ⟨q, cap, b, o, fun k => vals (k * sz + off), W, rfl, hcap.2, ha, ⟨hbel, hv1, fun k hk => ?_, fun bl j hW => ?_⟩, ⟨fun bl j hW => ?_, fun k hk => ?_, fun k hk => ?_⟩⟩
 ·obtain ⟨_, ys, h1, _⟩ := hx k _ (List.getElem?_eq_getElem hk)
  exact hok.mod.1 _ _ _ (hat k _ off _ (List.getElem?_eq_getElem hk) h1).1
 ·obtain ⟨_, h2, u, h3, _⟩ := hW
  have h4 := hok.mod.1 _ _ _ h3
  have h5 : ∃ cs t f, w.heap[bl]? = some (.cells cs t f) ∧ cs[j]? = some u := by
   unfold World.cell? at h4
   simp only at h4
   split at h4
   ·rename_i cs t f hh; exact ⟨cs, t, f, hh, by simpa using h4⟩
   ·cases h4
  obtain ⟨cs, t, f, h5, h6⟩ := h5
  have hf : f = (0, 0) := by
   rcases h2 with h2 | h2
   ·exact (hok.mod.2.2.2 _ h2).2 _ _ _ h5
   ·obtain ⟨cc, tt, h7⟩ := hok.mod.2.2.1 _ h2
    rw [h7] at h5; injection h5 with h5; injection h5 with _ _ h5; exact h5.symm
  subst hf
  exact ⟨cs.toList, t, by simpa using h5, by simpa using (Array.getElem?_eq_some_iff.1 h6).1⟩
 ·obtain ⟨h1, h2, u, h3, h4⟩ := hW
  refine ⟨h1, fun hbe => hnone j u (hbe ▸ h3), fun k hk hbb hj => ?_⟩
  obtain ⟨_, ys, k1, _⟩ := hx k _ (List.getElem?_eq_getElem hk)
  obtain ⟨k2, k3⟩ := hat k _ off _ (List.getElem?_eq_getElem hk) k1
  rw [← hbb, ← hj, h3] at k2
  injection k2 with k2
  rw [← k2] at k3
  cases k3 with | slice => exact h4 _ _ _ rfl
 ·obtain ⟨⟨z, k1⟩, _⟩ := hx k _ (List.getElem?_eq_getElem hk)
  obtain ⟨k2, k3⟩ := hat k _ noff _ (List.getElem?_eq_getElem hk) k1
  obtain ⟨k4, k5⟩ := hwr b (hy (by intro hh; subst hh; simp at hk))
  refine ⟨k4, k5, _, k2, fun s n cp hh => ?_⟩
  rw [hh] at k3; cases k3
 ·obtain ⟨_, ys, k1, k0⟩ := hx k _ (List.getElem?_eq_getElem hk)
  obtain ⟨k2, k3⟩ := hat k _ off _ (List.getElem?_eq_getElem hk) k1
  show ∃ s n cap, vals (k * sz + off) = .slice s n cap ∧ _
  generalize vals (k * sz + off) = v at k3
  cases k3 with | slice s cp _ _ sb so vals' hcap' hsz' ha' hy' hH' hl' hr' =>
  refine ⟨s, ys.length, cp, rfl, hcap'.2, fun i hi => ?_⟩
  have hne : ys ≠ [] := by intro hh; subst hh; simp at hi
  have hfl : i < (flat ys).length := by rw [flat_len hsz']; omega
  obtain ⟨k4, k5⟩ := hwr sb (hy' hne)
  refine ⟨sb, so, ha' hne, k4, k5, _, hH' i hfl, fun s n cp hh => ?_⟩
  have h7 := hr' i hfl
  obtain ⟨kd, m, h8⟩ := k0 _ (List.getElem_mem hfl)
  rw [h8, hh] at h7; cases h7
theorem x_st (hT : T.okB P = true) (ht : TT.get t T = some ti) (hsz : ti.sz = 1) {x y : Operand} {v : Value} {bl j : Nat} (he : a.eval x = .pointer (some ⟨bl, j, none⟩)) (hy : a.eval y = v) (hv : (∀ cs, v ≠ .agg cs) ∧ ∀ vs, v ≠ .tuple vs)
  {w0 : World} {be : Nat} {v1 : Value} {b o sz off noff len : Nat} {hv' : Nat → Value} {W : Nat → Nat → Prop} (hS : Scr w0 be v1 b o sz off len hv' W w) (hF : ScrF w0 be b o sz off noff len hv' W) (hW : W bl j)
  (h : ∀ w', Scr w0 be v1 b o sz off len hv' W w' → wpList P ops Q rest a w') : wpList P ops Q (⟨none, .store t x y, ty, pos, aft, none⟩ :: rest) a w := by
 obtain ⟨h1, h2, h3⟩ := hF.ne _ _ hW
 obtain ⟨w', k1, k2⟩ := x_store (dst := none) (ty := ty) (pos := pos) (aft := aft) (g := none) hT ht hsz he hy hv hS hW h1 h2 h3
 exact x_end rfl rfl k1 (h w' k2)
end
end Go.Proofs.Ytemfpemejagndaa.Fw

