/- The abstract values, what they mean in a world, and that this meaning survives. -/
import Derived.WalkKit
import Derived.Below
set_option autoImplicit false
set_option linter.unusedVariables false
namespace Go.Proofs.Ytemfpemejagndaa.Fw
open Go Go.RowKit

/-! ### 1. Pure data and abstract values -/
inductive D where
 | bool (b : Bool)
 | int (k : IntKind) (n : Int)
 | str (s : ByteArray)
 | slice (sz : Nat) (xs : List D)
 | os (sz : Nat) (xs : List D)
 | agg (cs : List D)
 | tuple (vs : List D)
 | ptr (x : D)
 | nilptr
 | func (fn : Fn) (first caps : List D)
 | nilfunc
 | iface (t : TypeId) (x : D)
 | nilIface
 | nilmap
 | map (es : List (D × D))
 deriving Inhabited
def D.cells : D → List D
 | .agg cs => cs
 | x => [x]
def D.isAgg : D → Bool
 | .agg _ => true
 | _ => false
/-- may lie in one cell -/
def D.leaf : D → Bool
 | .agg _ => false
 | .tuple _ => false
 | _ => true
def flat (xs : List D) : List D := xs.flatMap D.cells
inductive AV where
 | undef
 | d (x : D)
 | nil (sz : Nat)
 | full (sz : Nat) (xs : List D)
 | own (lvl i sz : Nat) (xs : List D)
 | arr (lvl i off len sz : Nat)
 | garr (lvl i n sz : Nat)
 | ptr (lvl i off : Nat)
 | eptr (lvl i k off : Nat)
 | win (lvl i off len : Nat)
 | pel (x : D) (off : Nat)
 | vp (a : Addr) (x : D)
 | map (lvl i : Nat)
 | func (fn : Fn) (first caps : List AV)
 | iface (t : TypeId) (x : AV)
 | agg (cs : List AV)
 | tuple (vs : List AV)
 deriving Inhabited
def AV.cells : AV → List AV
 | .agg cs => cs
 | .d (.agg cs) => cs.map .d
 | x => [x]
def AV.leaf : AV → Bool
 | .agg _ => false
 | .tuple _ => false
 | .d x => x.leaf
 | .undef => false
 | _ => true
inductive Blk where
 | frz (x : D)
 | cells (cs : List AV)
 | arr (sz : Nat) (xs : List D)
 | grow (sz n : Nat)
 | garr (sz : Nat) (xs : List D)
 | map (es : List (D × D))
abbrev Env := List (Nat × AV)
abbrev Frs := List (List Blk)
/-! ### 2. What cannot change -/
structure Imm where
 cell : Nat → Nat → Option Value
 obj : Nat → Option Obj
 var : Nat → Bool
 /-- from this block on memory counts as young -/
 base : Nat
 /-- these blocks, if they hold cells, may be written -/
 wr : Nat → Bool
/-- counts as young -/
def Imm.yg (H : Imm) (b : Nat) : Prop := H.base ≤ b ∧ (0 < H.base → H.wr b = true ∨ H.var b = true)
def Imm.le (H H' : Imm) : Prop := (∀ b j v, H.cell b j = some v → H'.cell b j = some v) ∧ (∀ b o, H.obj b = some o → H'.obj b = some o) ∧ (∀ b, H.var b = true → H'.var b = true) ∧ H'.base = H.base ∧ ∀ b, H.wr b = true → H'.wr b = true
theorem Imm.le.refl (H : Imm) : H.le H := ⟨fun _ _ _ h => h, fun _ _ h => h, fun _ h => h, rfl, fun _ h => h⟩
theorem Imm.le.trans {H H' H'' : Imm} (h : H.le H') (k : H'.le H'') : H.le H'' := ⟨fun _ _ _ e => k.1 _ _ _ (h.1 _ _ _ e), fun _ _ e => k.2.1 _ _ (h.2.1 _ _ e), fun _ e => k.2.2.1 _ (h.2.2.1 _ e), k.2.2.2.1.trans h.2.2.2.1, fun _ e => k.2.2.2.2 _ (h.2.2.2.2 _ e)⟩
theorem Imm.le.yg {H H' : Imm} (h : H.le H') {b : Nat} (hy : H.yg b) : H'.yg b := ⟨by rw [h.2.2.2.1]; exact hy.1, fun h0 => (hy.2 (by rw [← h.2.2.2.1]; exact h0)).imp (h.2.2.2.2 _) (h.2.2.1 _)⟩
structure Imm.ext (H H' : Imm) (F : Nat → Prop) : Prop where
 le : H.le H'
 cell : ∀ b j v, H'.cell b j = some v → H.cell b j = some v ∨ F b
 obj : ∀ b o, H'.obj b = some o → H.obj b = some o ∨ F b
 var : ∀ b, H'.var b = true → H.var b = true ∨ F b
theorem Imm.ext.refl (H : Imm) (F : Nat → Prop) : H.ext H F := ⟨Imm.le.refl H, fun _ _ _ h => .inl h, fun _ _ h => .inl h, fun _ h => .inl h⟩
theorem Imm.ext.trans {H H' H'' : Imm} {F : Nat → Prop} (h : H.ext H' F) (k : H'.ext H'' F) : H.ext H'' F := by
 refine ⟨h.le.trans k.le, fun b j v e => ?_, fun b o e => ?_, fun b e => ?_⟩
 ·rcases k.cell _ _ _ e with e | e
  ·exact h.cell _ _ _ e
  ·exact .inr e
 ·rcases k.obj _ _ e with e | e
  ·exact h.obj _ _ e
  ·exact .inr e
 ·rcases k.var _ e with e | e
  ·exact h.var _ e
  ·exact .inr e
theorem Imm.ext.weak {H H' : Imm} {F G : Nat → Prop} (h : H.ext H' F) (hm : ∀ b, F b → G b) : H.ext H' G :=
 ⟨h.le, fun b j v e => (h.cell b j v e).imp id (hm b), fun b o e => (h.obj b o e).imp id (hm b), fun b e => (h.var b e).imp id (hm b)⟩
/-- from number n on -/
abbrev since (n : Nat) : Nat → Prop := fun b => n ≤ b
def Models (w : World) (H : Imm) : Prop := (∀ b j v, H.cell b j = some v → w.cell? ⟨b, j, none⟩ = some v) ∧ (∀ b o, H.obj b = some o → w.heap[b]? = some o ∧ ∀ c t f, o ≠ .cells c t f) ∧ (∀ b, H.var b = true → ∃ c t, w.heap[b]? = some (.cells c t (0, 0))) ∧ ∀ b, H.wr b = true → b < w.heap.size ∧ ∀ c t f, w.heap[b]? = some (.cells c t f) → f = (0, 0)
/-- A value reads as a datum, through cells that do not change. -/
inductive DRel (H : Imm) : Value → D → Prop
 | bool (b : Bool) : DRel H (.bool b) (.bool b)
 | int (k : IntKind) (n : Int) : DRel H (.int k n) (.int k n)
 | str (s : ByteArray) : DRel H (.string s) (.str s)
 | slice (a : Option Addr) (cap sz : Nat) (xs : List D) (b o : Nat) (vals : Nat → Value) (hcap : xs.length ≤ cap ∧ xs.length ≤ 9223372036854775807) (hsz : ∀ x ∈ xs, x.cells.length = sz)
   (ha : xs ≠ [] → a = some ⟨b, o, none⟩) (hy : xs ≠ [] → H.yg b) (hH : ∀ j, j < (flat xs).length → H.cell b (o + j) = some (vals j)) (hl : ∀ c ∈ flat xs, c.leaf = true)
   (hr : ∀ j (h : j < (flat xs).length), DRel H (vals j) ((flat xs)[j])) : DRel H (.slice a xs.length cap) (.slice sz xs)
 /-- of whatever age -/
 | os (a : Option Addr) (cap sz : Nat) (xs : List D) (b o : Nat) (vals : Nat → Value) (hcap : xs.length ≤ cap ∧ xs.length ≤ 9223372036854775807) (hsz : ∀ x ∈ xs, x.cells.length = sz)
   (ha : xs ≠ [] → a = some ⟨b, o, none⟩) (hH : ∀ j, j < (flat xs).length → H.cell b (o + j) = some (vals j)) (hl : ∀ c ∈ flat xs, c.leaf = true)
   (hr : ∀ j (h : j < (flat xs).length), DRel H (vals j) ((flat xs)[j])) : DRel H (.slice a xs.length cap) (.os sz xs)
 | agg (vs : List Value) (cs : List D) (hn : vs.length = cs.length) (hl : ∀ c ∈ cs, c.leaf = true) (hr : ∀ j (h : j < cs.length), DRel H (vs.getD j default) (cs[j])) : DRel H (.agg vs.toArray) (.agg cs)
 | tuple (vs : List Value) (cs : List D) (hn : vs.length = cs.length) (hr : ∀ j (h : j < cs.length), DRel H (vs.getD j default) (cs[j])) : DRel H (.tuple vs.toArray) (.tuple cs)
 | ptr (x : D) (b o : Nat) (vals : Nat → Value) (hv : H.var b = true) (hH : ∀ j, j < x.cells.length → H.cell b (o + j) = some (vals j)) (hl : ∀ c ∈ x.cells, c.leaf = true)
   (hr : ∀ j (h : j < x.cells.length), DRel H (vals j) (x.cells[j])) : DRel H (.pointer (some ⟨b, o, none⟩)) (.ptr x)
 | nilptr : DRel H (.pointer none) .nilptr
 | func (fn : Fn) (us vs : List Value) (bs cs : List D) (hm : us.length = bs.length) (hn : vs.length = cs.length) (hq : ∀ j (h : j < bs.length), DRel H (us.getD j default) (bs[j])) (hr : ∀ j (h : j < cs.length), DRel H (vs.getD j default) (cs[j])) : DRel H (.func fn us.toArray vs.toArray) (.func fn bs cs)
 | nilfunc : DRel H .nilFunc .nilfunc
 | iface (t : TypeId) (v : Value) (x : D) (h : DRel H v x) : DRel H (.iface t v) (.iface t x)
 | nilIface : DRel H .nilIface .nilIface
 | nilmap : DRel H (.map none) .nilmap
 | map (b : Nat) (es : List MapEntry) (clock : Nat) (kv : List (D × D)) (hn : es.length = kv.length) (hH : H.obj b = some (.map es.toArray clock))
   (hk : ∀ j (h : j < kv.length), DRel H (es.getD j default).key (kv[j]).1) (hv : ∀ j (h : j < kv.length), DRel H (es.getD j default).val (kv[j]).2) : DRel H (.map (some b)) (.map kv)
theorem DRel.mono {H H' : Imm} (hle : H.le H') {v : Value} {x : D} (h : DRel H v x) : DRel H' v x := by
 induction h with
 | bool b => exact .bool b
 | int k n => exact .int k n
 | str s => exact .str s
 | slice a cap sz xs b o vals hcap hsz ha hy hH hl hr ih => exact .slice a cap sz xs b o vals hcap hsz ha (fun hx => hle.yg (hy hx)) (fun j hj => hle.1 _ _ _ (hH j hj)) hl ih
 | os a cap sz xs b o vals hcap hsz ha hH hl hr ih => exact .os a cap sz xs b o vals hcap hsz ha (fun j hj => hle.1 _ _ _ (hH j hj)) hl ih
 | agg vs cs hn hl hr ih => exact .agg vs cs hn hl ih
 | tuple vs cs hn hr ih => exact .tuple vs cs hn ih
 | ptr x b o vals hv hH hl hr ih => exact .ptr x b o vals (hle.2.2.1 _ hv) (fun j hj => hle.1 _ _ _ (hH j hj)) hl ih
 | nilptr => exact .nilptr
 | func fn us vs bs cs hm hn hq hr ihq ih => exact .func fn us vs bs cs hm hn ihq ih
 | nilfunc => exact .nilfunc
 | iface t v x h ih => exact .iface t v x ih
 | nilIface => exact .nilIface
 | nilmap => exact .nilmap
 | map b es clock kv hn hH hk hv ihk ihv => exact .map b es clock kv hn (hle.2.1 _ _ hH) ihk ihv
/-- a young slice is one of whatever age -/
theorem DRel.toOs {H : Imm} {v : Value} {sz : Nat} {xs : List D} (h : DRel H v (.slice sz xs)) : DRel H v (.os sz xs) := by
 cases h with | slice a cap _ _ b o vals hcap hsz ha hy hH hl hr => exact .os a cap sz xs b o vals hcap hsz ha hH hl hr
theorem DRel.zero0 {H : Imm} (a : Option Addr) (sz : Nat) : DRel H (.slice a 0 0) (.slice sz []) := .slice a 0 sz [] 0 0 (fun _ => default) (by simp) (by simp) (by simp) (by simp) (by simp [flat]) (by simp [flat]) (by simp [flat])
/-! ### 3. The abstract heap's place in the world -/
structure Ent where
 b : Nat
 g : Bool := false
 sz : Nat := 0
 n : Nat := 0
 cap : Nat := 0
/-- a place that is kept for what will be owned: nothing is there yet -/
def Ent.gh (e : Ent) : Bool := match e.g with | true => Nat.beq e.cap 0 | false => false
def Ent.live (e : Ent) : Option Ent := match e.gh with | true => none | false => some e
theorem Ent.live_some {e e' : Ent} : e.live = some e' ↔ e = e' ∧ e'.gh = false := by
 unfold Ent.live
 split
 ·rename_i h; exact ⟨fun hh => (by cases hh), fun hh => (by obtain ⟨rfl, h2⟩ := hh; rw [h] at h2; cases h2)⟩
 ·rename_i h; exact ⟨fun hh => (by injection hh with hh; subst hh; exact ⟨rfl, h⟩), fun hh => (by rw [hh.1])⟩
theorem Ent.gh_var {e : Ent} (h : e.g = false) : e.gh = false := by unfold Ent.gh; rw [h]
theorem Ent.gh_cap {e : Ent} (h : 0 < e.cap) : e.gh = false := by
 unfold Ent.gh
 split
 ·cases hc : e.cap with
  | zero => omega
  | succ n => rfl
 ·rfl
structure Ctx where
 B : Nat
 X : List Nat
 w0 : World
 H : Imm
 ents : List (List Ent)
/-- a block that may be written: made since, or lent -/
def Ctx.free (c : Ctx) (b : Nat) : Prop := c.B ≤ b ∨ b ∈ c.X
def Ctx.raw (c : Ctx) (lvl i : Nat) : Option Ent := (c.ents[lvl]?).bind fun l => l[i]?
def Ctx.ent (c : Ctx) (lvl i : Nat) : Option Ent := (c.raw lvl i).bind Ent.live
theorem Ctx.ent_iff {c : Ctx} {l i : Nat} {e : Ent} : c.ent l i = some e ↔ c.raw l i = some e ∧ e.gh = false := by
 unfold Ctx.ent
 constructor
 ·intro h
  obtain ⟨x, h1, h2⟩ := Option.bind_eq_some_iff.1 h
  obtain ⟨rfl, h3⟩ := Ent.live_some.1 h2
  exact ⟨h1, h3⟩
 ·rintro ⟨h1, h2⟩
  rw [h1]; exact Ent.live_some.2 ⟨rfl, h2⟩
def Ctx.drop (c : Ctx) (n : Nat) : Ctx := { c with ents := c.ents.drop n }
theorem Ctx.drop_zero (c : Ctx) : c.drop 0 = c := by cases c; simp [Ctx.drop]
theorem Ctx.raw_drop (c : Ctx) (n lvl i : Nat) : (c.drop n).raw lvl i = c.raw (n + lvl) i := by simp [Ctx.raw, Ctx.drop, List.getElem?_drop]
theorem Ctx.ent_drop (c : Ctx) (n lvl i : Nat) : (c.drop n).ent lvl i = c.ent (n + lvl) i := by unfold Ctx.ent; rw [Ctx.raw_drop]
/-- what is owned may grow; of what is a variable: n > 0 says that it is frozen -/
def Ent.le (e e' : Ent) : Prop := e'.g = e.g ∧ e'.sz = e.sz ∧ e.n ≤ e'.n ∧ (e'.n = e.n → e' = e) ∧ (e.g = false → e'.b = e.b) ∧ (e.gh = false → e'.gh = false)
theorem Ent.le.refl (e : Ent) : e.le e := ⟨rfl, rfl, Nat.le_refl _, fun _ => rfl, fun _ => rfl, id⟩
/-- full order: also the innermost frame lives on -/
structure Ctx.le (c c' : Ctx) : Prop where
 B : c'.B = c.B
 Xe : c'.X = c.X
 w0 : c'.w0 = c.w0
 X : c.H.ext c'.H c.free
 rent : ∀ lvl i e, c.raw lvl i = some e → ∃ e', c'.raw lvl i = some e' ∧ e.le e'
theorem Ctx.ent_of_raw {c c' : Ctx} {lvl i lvl' i' : Nat} (h : ∀ e, c.raw lvl i = some e → ∃ e', c'.raw lvl' i' = some e' ∧ e.le e') {e : Ent} (he : c.ent lvl i = some e) : ∃ e', c'.ent lvl' i' = some e' ∧ e.le e' := by
 obtain ⟨h1, h2⟩ := Ctx.ent_iff.1 he
 obtain ⟨e', h3, h4⟩ := h e h1
 exact ⟨e', Ctx.ent_iff.2 ⟨h3, h4.2.2.2.2.2 h2⟩, h4⟩
theorem Ctx.le.ent {c c' : Ctx} (h : c.le c') : ∀ lvl i e, c.ent lvl i = some e → ∃ e', c'.ent lvl i = some e' ∧ e.le e' := fun lvl i e he => Ctx.ent_of_raw (h.rent lvl i) he
theorem Ctx.le.H {c c' : Ctx} (h : c.le c') : c.H.le c'.H := h.X.le
theorem Ctx.le.free {c c' : Ctx} (h : c.le c') : c'.free = c.free := by unfold Ctx.free; rw [h.B, h.Xe]
theorem Ctx.le.refl (c : Ctx) : c.le c := ⟨rfl, rfl, rfl, Imm.ext.refl _ _, fun _ _ e h => ⟨e, h, Ent.le.refl e⟩⟩
theorem Ent.le.trans {e e' e'' : Ent} (h : e.le e') (k : e'.le e'') : e.le e'' := by
 obtain ⟨h1, h2, h3, h4, h5, h6⟩ := h
 obtain ⟨k1, k2, k3, k4, k5, k6⟩ := k
 refine ⟨k1.trans h1, k2.trans h2, Nat.le_trans h3 k3, fun hh => ?_, fun hg => (k5 (h1.trans hg)).trans (h5 hg), fun hg => k6 (h6 hg)⟩
 have e1 := h4 (by omega)
 subst e1
 exact k4 hh
theorem Ctx.le.trans {c c' c'' : Ctx} (h : c.le c') (k : c'.le c'') : c.le c'' :=
 ⟨k.B.trans h.B, k.Xe.trans h.Xe, k.w0.trans h.w0, h.X.trans (h.free ▸ k.X), fun l i e he => by
  obtain ⟨e', he', h1⟩ := h.rent l i e he
  obtain ⟨e'', he'', h2⟩ := k.rent l i e' he'
  exact ⟨e'', he'', h1.trans h2⟩⟩
theorem Ctx.le.drop {c c' : Ctx} (h : c.le c') (n : Nat) : (c.drop n).le (c'.drop n) :=
 ⟨h.B, h.Xe, h.w0, h.X, fun l i e he => by rw [Ctx.raw_drop] at he ⊢; exact h.rent _ _ _ he⟩
/-- A value reads as an abstract value. -/
inductive VRel (c : Ctx) : Value → AV → Prop
 | undef (v : Value) : VRel c v .undef
 | d (v : Value) (x : D) (h : DRel c.H v x) : VRel c v (.d x)
 | nil (sz : Nat) : VRel c (.slice none 0 0) (.nil sz)
 | full (a : Option Addr) (sz : Nat) (xs : List D) (h : DRel c.H (.slice a xs.length xs.length) (.slice sz xs)) : VRel c (.slice a xs.length xs.length) (.full sz xs)
 | own (a : Option Addr) (cap lvl i sz : Nat) (xs : List D) (e : Ent) (h : DRel c.H (.slice a xs.length cap) (.slice sz xs)) (he : c.ent lvl i = some e) (hg : e.g = true) (hs : e.sz = sz)
   (hn : xs.length ≤ e.n) (hc : xs.length = e.n → a = some ⟨e.b, 0, none⟩ ∧ cap = e.cap) : VRel c (.slice a xs.length cap) (.own lvl i sz xs)
 | own0 (a : Option Addr) (lvl i sz : Nat) : VRel c (.slice a 0 0) (.own lvl i sz [])
 | arr (cap lvl i off len sz : Nat) (e : Ent) (he : c.ent lvl i = some e) (hg : e.g = false) (hs : e.sz = sz) (hc : len ≤ cap ∧ len ≤ 9223372036854775807) : VRel c (.slice (some ⟨e.b, off * sz, none⟩) len cap) (.arr lvl i off len sz)
 | arr0 (a : Option Addr) (lvl i off sz : Nat) : VRel c (.slice a 0 0) (.arr lvl i off 0 sz)
 | garr (a : Option Addr) (cap lvl i n sz : Nat) (e : Ent) (he : c.ent lvl i = some e) (hg : e.g = true ∧ e.sz = 0) (hn : n ≤ e.n) (hc : n = e.n → a = some ⟨e.b, 0, none⟩ ∧ cap = e.cap) : VRel c (.slice a n cap) (.garr lvl i n sz)
 | garr0 (a : Option Addr) (lvl i sz : Nat) : VRel c (.slice a 0 0) (.garr lvl i 0 sz)
 | ptr (lvl i off : Nat) (e : Ent) (he : c.ent lvl i = some e) (hg : e.g = false) : VRel c (.pointer (some ⟨e.b, off, none⟩)) (.ptr lvl i off)
 | eptr (lvl i k off : Nat) (e : Ent) (he : c.ent lvl i = some e) (hg : e.g = false) : VRel c (.pointer (some ⟨e.b, k * e.sz + off, none⟩)) (.eptr lvl i k off)
 | win (cap lvl i off len : Nat) (e : Ent) (he : c.ent lvl i = some e) (hg : e.g = false) (hc : len ≤ cap ∧ len ≤ 9223372036854775807) : VRel c (.slice (some ⟨e.b, off, none⟩) len cap) (.win lvl i off len)
 | pel (x : D) (off b o : Nat) (vals : Nat → Value) (hH : ∀ j, j < x.cells.length → c.H.cell b (o + j) = some (vals j)) (hl : ∀ y ∈ x.cells, y.leaf = true)
   (hr : ∀ j (h : j < x.cells.length), DRel c.H (vals j) (x.cells[j])) : VRel c (.pointer (some ⟨b, o + (off - 1), none⟩)) (.pel x off)
 | vp (a : Addr) (x : D) (h : DRel c.H (.pointer (some a)) (.ptr x)) : VRel c (.pointer (some a)) (.vp a x)
 | map (lvl i : Nat) (e : Ent) (he : c.ent lvl i = some e) (hg : e.g = false) : VRel c (.map (some e.b)) (.map lvl i)
 | func (fn : Fn) (us vs : List Value) (bs cs : List AV) (hm : us.length = bs.length) (hn : vs.length = cs.length) (hq : ∀ j (h : j < bs.length), VRel c (us.getD j default) (bs[j])) (hr : ∀ j (h : j < cs.length), VRel c (vs.getD j default) (cs[j])) : VRel c (.func fn us.toArray vs.toArray) (.func fn bs cs)
 | iface (t : TypeId) (v : Value) (x : AV) (h : VRel c v x) : VRel c (.iface t v) (.iface t x)
 | agg (vs : List Value) (cs : List AV) (hn : vs.length = cs.length) (hl : ∀ c ∈ cs, c.leaf = true) (hr : ∀ j (h : j < cs.length), VRel c (vs.getD j default) (cs[j])) : VRel c (.agg vs.toArray) (.agg cs)
 | tuple (vs : List Value) (cs : List AV) (hn : vs.length = cs.length) (hr : ∀ j (h : j < cs.length), VRel c (vs.getD j default) (cs[j])) : VRel c (.tuple vs.toArray) (.tuple cs)
theorem VRel.mono' {c c' : Ctx} (hH : c.H.le c'.H) (hent : ∀ lvl i e, c.ent lvl i = some e → ∃ e', c'.ent lvl i = some e' ∧ e.le e') {v : Value} {x : AV} (h : VRel c v x) : VRel c' v x := by
 induction h with
 | undef v => exact .undef v
 | d v x h => exact .d v x (h.mono hH)
 | nil sz => exact .nil sz
 | own0 a lvl i sz => exact .own0 a lvl i sz
 | full a sz xs h => exact .full a sz xs (h.mono hH)
 | own a cap lvl i sz xs e h he hg hs hn hc =>
  obtain ⟨e', he', h1, h2, h3, h4, h5, h6⟩ := hent _ _ _ he
  refine .own a cap lvl i sz xs e' (h.mono hH) he' (h1.trans hg) (h2.trans hs) (Nat.le_trans hn h3) fun hh => ?_
  have := h4 (by omega)
  subst this
  exact hc hh
 | arr cap lvl i off len sz e he hg hs hc =>
  obtain ⟨e', he', h1, h2, h3, h4, h5, h6⟩ := hent _ _ _ he
  rw [← h5 hg]
  exact .arr cap lvl i off len sz _ he' (h1.trans hg) (h2.trans hs) hc
 | arr0 a lvl i off sz => exact .arr0 a lvl i off sz
 | garr0 a lvl i sz => exact .garr0 a lvl i sz
 | garr a cap lvl i n sz e he hg hn hc =>
  obtain ⟨e', he', h1, h2, h3, h4, h5, h6⟩ := hent _ _ _ he
  refine .garr a cap lvl i n sz e' he' ⟨h1.trans hg.1, h2.trans hg.2⟩ (Nat.le_trans hn h3) fun hh => ?_
  have := h4 (by omega)
  subst this
  exact hc hh
 | ptr lvl i off e he hg =>
  obtain ⟨e', he', h1, h2, h3, h4, h5, h6⟩ := hent _ _ _ he
  rw [← h5 hg]
  exact .ptr lvl i off _ he' (h1.trans hg)
 | eptr lvl i k off e he hg =>
  obtain ⟨e', he', h1, h2, h3, h4, h5, h6⟩ := hent _ _ _ he
  rw [← h5 hg, ← h2]
  exact .eptr lvl i k off _ he' (h1.trans hg)
 | win cap lvl i off len e he hg hc =>
  obtain ⟨e', he', h1, h2, h3, h4, h5, h6⟩ := hent _ _ _ he
  rw [← h5 hg]
  exact .win cap lvl i off len _ he' (h1.trans hg) hc
 | pel x off b o vals hH' hl hr => exact .pel x off b o vals (fun j hj => hH.1 _ _ _ (hH' j hj)) hl (fun j hj => (hr j hj).mono hH)
 | vp a x h => exact .vp a x (h.mono hH)
 | map lvl i e he hg =>
  obtain ⟨e', he', h1, h2, h3, h4, h5, h6⟩ := hent _ _ _ he
  rw [← h5 hg]
  exact .map lvl i _ he' (h1.trans hg)
 | func fn us vs bs cs hm hn hq hr ihq ih => exact .func fn us vs bs cs hm hn ihq ih
 | iface t v x h ih => exact .iface t v x ih
 | agg vs cs hn hl hr ih => exact .agg vs cs hn hl ih
 | tuple vs cs hn hr ih => exact .tuple vs cs hn ih
theorem VRel.mono {c c' : Ctx} (hle : c.le c') {v : Value} {x : AV} (h : VRel c v x) : VRel c' v x := h.mono' hle.H hle.ent
/-! References are counted outward from where the value stands. -/
mutual
def AV.lift (n : Nat) : AV → AV
 | .own l i sz xs => .own (n + l) i sz xs
 | .arr l i off len sz => .arr (n + l) i off len sz
 | .garr l i m sz => .garr (n + l) i m sz
 | .ptr l i off => .ptr (n + l) i off
 | .eptr l i k off => .eptr (n + l) i k off
 | .win l i off len => .win (n + l) i off len
 | .map l i => .map (n + l) i
 | .func fn bs cs => .func fn (AV.lifts n bs) (AV.lifts n cs)
 | .iface t x => .iface t (AV.lift n x)
 | .agg cs => .agg (AV.lifts n cs)
 | .tuple cs => .tuple (AV.lifts n cs)
 | x => x
def AV.lifts (n : Nat) : List AV → List AV
 | [] => []
 | x :: r => AV.lift n x :: AV.lifts n r
end
mutual
/-- inward: false where something would be lost -/
def AV.low (n : Nat) : AV → Option AV
 | .own l i sz xs => match Nat.ble n l with | true => some (.own (l - n) i sz xs) | false => none
 | .arr l i off len sz => match Nat.ble n l with | true => some (.arr (l - n) i off len sz) | false => none
 | .garr l i m sz => match Nat.ble n l with | true => some (.garr (l - n) i m sz) | false => none
 | .ptr l i off => match Nat.ble n l with | true => some (.ptr (l - n) i off) | false => none
 | .eptr l i k off => match Nat.ble n l with | true => some (.eptr (l - n) i k off) | false => none
 | .win _ _ _ _ => none
 | .map l i => match Nat.ble n l with | true => some (.map (l - n) i) | false => none
 | .func fn bs cs => match AV.lows n bs, AV.lows n cs with | some bs, some cs => some (.func fn bs cs) | _, _ => none
 | .iface t x => match AV.low n x with | some x => some (.iface t x) | none => none
 | .agg cs => match AV.lows n cs with | some cs => some (.agg cs) | none => none
 | .tuple cs => match AV.lows n cs with | some cs => some (.tuple cs) | none => none
 | x => some x
def AV.lows (n : Nat) : List AV → Option (List AV)
 | [] => some []
 | x :: r => match AV.low n x, AV.lows n r with | some y, some ys => some (y :: ys) | _, _ => none
end
mutual
/-- A value that a call hands out: its own blocks (level 0) come behind the caller's n. -/
def AV.mg (n : Nat) : AV → AV
 | .own 0 i sz xs => .own 0 (n + i) sz xs
 | .own (l + 1) i sz xs => .own l i sz xs
 | .arr 0 i off len sz => .arr 0 (n + i) off len sz
 | .arr (l + 1) i off len sz => .arr l i off len sz
 | .garr 0 i m sz => .garr 0 (n + i) m sz
 | .garr (l + 1) i m sz => .garr l i m sz
 | .ptr 0 i off => .ptr 0 (n + i) off
 | .ptr (l + 1) i off => .ptr l i off
 | .eptr 0 i k off => .eptr 0 (n + i) k off
 | .eptr (l + 1) i k off => .eptr l i k off
 | .win 0 i off len => .win 0 (n + i) off len
 | .win (l + 1) i off len => .win l i off len
 | .map 0 i => .map 0 (n + i)
 | .map (l + 1) i => .map l i
 | .func fn bs cs => .func fn (AV.mgs n bs) (AV.mgs n cs)
 | .iface t x => .iface t (AV.mg n x)
 | .agg cs => .agg (AV.mgs n cs)
 | .tuple cs => .tuple (AV.mgs n cs)
 | x => x
def AV.mgs (n : Nat) : List AV → List AV
 | [] => []
 | x :: r => AV.mg n x :: AV.mgs n r
end
mutual
/-- no reference to a block of this frame from number m on -/
def AV.okLoc (m : Nat) : AV → Bool
 | .own 0 i _ _ => Nat.blt i m
 | .arr 0 i _ _ _ => Nat.blt i m
 | .garr 0 i _ _ => Nat.blt i m
 | .ptr 0 i _ => Nat.blt i m
 | .eptr 0 i _ _ => Nat.blt i m
 | .win 0 i _ _ => Nat.blt i m
 | .map 0 i => Nat.blt i m
 | .func _ bs cs => match AV.okLocs m bs with | true => AV.okLocs m cs | false => false
 | .iface _ x => AV.okLoc m x
 | .agg cs => AV.okLocs m cs
 | .tuple cs => AV.okLocs m cs
 | _ => true
def AV.okLocs (m : Nat) : List AV → Bool
 | [] => true
 | x :: r => match AV.okLoc m x with | true => AV.okLocs m r | false => false
end
theorem AV.lifts_eq (n : Nat) (l : List AV) : AV.lifts n l = l.map (AV.lift n) := by induction l with | nil => rfl | cons x r ih => simp [AV.lifts, ih]
theorem AV.mgs_eq (n : Nat) (l : List AV) : AV.mgs n l = l.map (AV.mg n) := by induction l with | nil => rfl | cons x r ih => simp [AV.mgs, ih]
theorem AV.lows_some {n : Nat} : ∀ {l l' : List AV}, AV.lows n l = some l' → l'.length = l.length ∧ ∀ j (h : j < l.length) (h' : j < l'.length), AV.low n l[j] = some l'[j]
 | [], l', h => by simp [AV.lows] at h; subst h; simp
 | x :: r, l', h => by
  simp only [AV.lows] at h
  split at h
  ·rename_i y ys hy hys
   injection h with h
   subst h
   obtain ⟨h1, h2⟩ := AV.lows_some hys
   refine ⟨by simp [h1], fun j hj hj' => ?_⟩
   cases j with
   | zero => exact hy
   | succ j => exact h2 j (by simpa using hj) (by simpa using hj')
  ·cases h
theorem AV.okLocs_all {m : Nat} : ∀ {l : List AV}, AV.okLocs m l = true → ∀ x ∈ l, AV.okLoc m x = true
 | [], _, x, hx => by cases hx
 | y :: r, h, x, hx => by
  simp only [AV.okLocs] at h
  split at h
  ·rename_i hy
   rcases List.mem_cons.1 hx with rfl | hx
   ·exact hy
   ·exact AV.okLocs_all h x hx
  ·cases h
theorem AV.lift_leaf (n : Nat) (x : AV) : (x.lift n).leaf = x.leaf := by cases x <;> rfl
theorem AV.mg_leaf (n : Nat) (x : AV) : (x.mg n).leaf = x.leaf := by
 cases x with
 | own l => cases l <;> rfl
 | arr l => cases l <;> rfl
 | garr l => cases l <;> rfl
 | ptr l => cases l <;> rfl
 | eptr l => cases l <;> rfl
 | win l => cases l <;> rfl
 | map l => cases l <;> rfl
 | _ => rfl
theorem AV.low_leaf {n : Nat} {x y : AV} (h : x.low n = some y) : y.leaf = x.leaf := by
 cases x <;> simp only [AV.low] at h <;> (try split at h) <;> simp_all [AV.leaf] <;> (try (subst h; rfl))
theorem VRel.lift {c : Ctx} {n : Nat} {v : Value} {x : AV} (h : VRel (c.drop n) v x) : VRel c v (x.lift n) := by
 generalize hc : c.drop n = cd at h
 induction h with
 | undef v => exact .undef v
 | d v x h => subst hc; exact .d v x h
 | nil sz => exact .nil sz
 | own0 a lvl i sz => exact .own0 a _ i sz
 | full a sz xs h => subst hc; exact .full a sz xs h
 | own a cap lvl i sz xs e h he hg hs hn hcc => subst hc; exact .own a cap _ i sz xs e h (by rw [← Ctx.ent_drop]; exact he) hg hs hn hcc
 | arr cap lvl i off len sz e he hg hs hcap => subst hc; exact .arr cap _ i off len sz e (by rw [← Ctx.ent_drop]; exact he) hg hs hcap
 | arr0 a lvl i off sz => exact .arr0 a _ i off sz
 | garr0 a lvl i sz => exact .garr0 a _ i sz
 | garr a cap lvl i n sz e he hg hn hcc => subst hc; exact .garr a cap _ i n sz e (by rw [← Ctx.ent_drop]; exact he) hg hn hcc
 | ptr lvl i off e he hg => subst hc; exact .ptr _ i off e (by rw [← Ctx.ent_drop]; exact he) hg
 | eptr lvl i k off e he hg => subst hc; exact .eptr _ i k off e (by rw [← Ctx.ent_drop]; exact he) hg
 | win cap lvl i off len e he hg hcc => subst hc; exact .win cap _ i off len e (by rw [← Ctx.ent_drop]; exact he) hg hcc
 | pel x off b o vals hH hl hr => subst hc; exact .pel x off b o vals hH hl hr
 | vp a x h => subst hc; exact .vp a x h
 | map lvl i e he hg => subst hc; exact .map _ i e (by rw [← Ctx.ent_drop]; exact he) hg
 | func fn us vs bs cs hm hn hq hr ihq ih => simp only [AV.lift, AV.lifts_eq]; exact .func fn us vs _ _ (by simpa using hm) (by simpa using hn) (fun j hj => by simpa using ihq j (by simpa using hj)) fun j hj => by simpa using ih j (by simpa using hj)
 | iface t v x h ih => exact .iface t v _ ih
 | agg vs cs hn hl hr ih => simp only [AV.lift, AV.lifts_eq]; exact .agg vs _ (by simpa using hn) (by simpa [AV.lift_leaf] using hl) fun j hj => by simpa using ih j (by simpa using hj)
 | tuple vs cs hn hr ih => simp only [AV.lift, AV.lifts_eq]; exact .tuple vs _ (by simpa using hn) fun j hj => by simpa using ih j (by simpa using hj)
theorem VRel.low {c : Ctx} {n : Nat} {v : Value} {x : AV} (h : VRel c v x) : ∀ y, x.low n = some y → VRel (c.drop n) v y := by
 induction h with
 | undef v => intro y hy; simp only [AV.low] at hy; injection hy with hy; subst hy; exact .undef v
 | d v x h => intro y hy; simp only [AV.low] at hy; injection hy with hy; subst hy; exact .d v x h
 | nil sz => intro y hy; simp only [AV.low] at hy; injection hy with hy; subst hy; exact .nil sz
 | own0 a lvl i sz =>
  intro y hy
  simp only [AV.low] at hy
  split at hy
  ·injection hy with hy; subst hy; exact .own0 a _ i sz
  ·cases hy
 | full a sz xs h => intro y hy; simp only [AV.low] at hy; injection hy with hy; subst hy; exact .full a sz xs h
 | own a cap lvl i sz xs e h he hg hs hn hcc =>
  intro y hy
  simp only [AV.low] at hy
  split at hy
  ·rename_i hle
   have hle := Nat.le_of_ble_eq_true hle
   injection hy with hy
   subst hy
   exact .own a cap _ i sz xs e h (by rw [Ctx.ent_drop, Nat.add_sub_cancel' hle]; exact he) hg hs hn hcc
  ·cases hy
 | arr cap lvl i off len sz e he hg hs hcap =>
  intro y hy
  simp only [AV.low] at hy
  split at hy
  ·rename_i hle
   have hle := Nat.le_of_ble_eq_true hle
   injection hy with hy
   subst hy
   exact .arr cap _ i off len sz e (by rw [Ctx.ent_drop, Nat.add_sub_cancel' hle]; exact he) hg hs hcap
  ·cases hy
 | arr0 a lvl i off sz =>
  intro y hy
  simp only [AV.low] at hy
  split at hy
  ·injection hy with hy; subst hy; exact .arr0 a _ i off sz
  ·cases hy
 | garr0 a lvl i sz =>
  intro y hy
  simp only [AV.low] at hy
  split at hy
  ·injection hy with hy; subst hy; exact .garr0 a _ i sz
  ·cases hy
 | garr a cap lvl i n' sz e he hg hn hc =>
  intro y hy
  simp only [AV.low] at hy
  split at hy
  ·rename_i hle
   have hle := Nat.le_of_ble_eq_true hle
   injection hy with hy
   subst hy
   exact .garr a cap _ i n' sz e (by rw [Ctx.ent_drop, Nat.add_sub_cancel' hle]; exact he) hg hn hc
  ·cases hy
 | ptr lvl i off e he hg =>
  intro y hy
  simp only [AV.low] at hy
  split at hy
  ·rename_i hle
   have hle := Nat.le_of_ble_eq_true hle
   injection hy with hy
   subst hy
   exact .ptr _ i off e (by rw [Ctx.ent_drop, Nat.add_sub_cancel' hle]; exact he) hg
  ·cases hy
 | eptr lvl i k off e he hg =>
  intro y hy
  simp only [AV.low] at hy
  split at hy
  ·rename_i hle
   have hle := Nat.le_of_ble_eq_true hle
   injection hy with hy
   subst hy
   exact .eptr _ i k off e (by rw [Ctx.ent_drop, Nat.add_sub_cancel' hle]; exact he) hg
  ·cases hy
 | win => intro y hy; cases hy
 | pel x off b o vals hH hl hr => intro y hy; simp only [AV.low] at hy; injection hy with hy; subst hy; exact .pel x off b o vals hH hl hr
 | vp a x h => intro y hy; simp only [AV.low] at hy; injection hy with hy; subst hy; exact .vp a x h
 | map lvl i e he hg =>
  intro y hy
  simp only [AV.low] at hy
  split at hy
  ·rename_i hle
   have hle := Nat.le_of_ble_eq_true hle
   injection hy with hy
   subst hy
   exact .map _ i e (by rw [Ctx.ent_drop, Nat.add_sub_cancel' hle]; exact he) hg
  ·cases hy
 | func fn us vs bs cs hm hn hq hr ihq ih =>
  intro y hy
  simp only [AV.low] at hy
  split at hy
  ·rename_i bs' cs' hbs hcs
   injection hy with hy
   subst hy
   obtain ⟨h1, h2⟩ := AV.lows_some hcs
   obtain ⟨h3, h4⟩ := AV.lows_some hbs
   exact .func fn us vs bs' cs' (by omega) (by omega) (fun j hj => ihq j (by omega) _ (h4 j (by omega) hj)) fun j hj => ih j (by omega) _ (h2 j (by omega) hj)
  ·cases hy
 | iface t v x h ih =>
  intro y hy
  simp only [AV.low] at hy
  split at hy
  ·rename_i x' hx
   injection hy with hy
   subst hy
   exact .iface t v _ (ih _ hx)
  ·cases hy
 | agg vs cs hn hl hr ih =>
  intro y hy
  simp only [AV.low] at hy
  split at hy
  ·rename_i cs' hcs
   injection hy with hy
   subst hy
   obtain ⟨h1, h2⟩ := AV.lows_some hcs
   refine .agg vs cs' (by omega) (fun z hz => ?_) fun j hj => ih j (by omega) _ (h2 j (by omega) hj)
   obtain ⟨j, hj, rfl⟩ := List.mem_iff_getElem.1 hz
   rw [AV.low_leaf (h2 j (by omega) hj)]
   exact hl _ (List.getElem_mem _)
  ·cases hy
 | tuple vs cs hn hr ih =>
  intro y hy
  simp only [AV.low] at hy
  split at hy
  ·rename_i cs' hcs
   injection hy with hy
   subst hy
   obtain ⟨h1, h2⟩ := AV.lows_some hcs
   exact .tuple vs cs' (by omega) fun j hj => ih j (by omega) _ (h2 j (by omega) hj)
  ·cases hy
/-- Fewer blocks are known: what does not speak of them reads as before. -/
theorem VRel.fewer {c c' : Ctx} {m : Nat} (hH : c.H.le c'.H) (he : ∀ l i e, (l = 0 → i < m) → c.ent l i = some e → c'.ent l i = some e) {v : Value} {x : AV} (h : VRel c v x) : x.okLoc m = true → VRel c' v x := by
 induction h with
 | undef v => exact fun _ => .undef v
 | d v x h => exact fun _ => .d v x (h.mono hH)
 | nil sz => exact fun _ => .nil sz
 | own0 a lvl i sz => exact fun _ => .own0 a lvl i sz
 | full a sz xs h => exact fun _ => .full a sz xs (h.mono hH)
 | own a cap lvl i sz xs e h hen hg hs hn hcc => exact fun ho => .own a cap lvl i sz xs e (h.mono hH) (he _ _ _ (fun hl => by subst hl; simpa [AV.okLoc, Nat.blt_eq] using ho) hen) hg hs hn hcc
 | arr cap lvl i off len sz e hen hg hs hcap => exact fun ho => .arr cap lvl i off len sz e (he _ _ _ (fun hl => by subst hl; simpa [AV.okLoc, Nat.blt_eq] using ho) hen) hg hs hcap
 | arr0 a lvl i off sz => exact fun _ => .arr0 a lvl i off sz
 | garr0 a lvl i sz => exact fun _ => .garr0 a lvl i sz
 | garr a cap lvl i n sz e hen hg hn hc => exact fun ho => .garr a cap lvl i n sz e (he _ _ _ (fun hl => by subst hl; simpa [AV.okLoc, Nat.blt_eq] using ho) hen) hg hn hc
 | ptr lvl i off e hen hg => exact fun ho => .ptr lvl i off e (he _ _ _ (fun hl => by subst hl; simpa [AV.okLoc, Nat.blt_eq] using ho) hen) hg
 | eptr lvl i k off e hen hg => exact fun ho => .eptr lvl i k off e (he _ _ _ (fun hl => by subst hl; simpa [AV.okLoc, Nat.blt_eq] using ho) hen) hg
 | win cap lvl i off len e hen hg hc => exact fun ho => .win cap lvl i off len e (he _ _ _ (fun hl => by subst hl; simpa [AV.okLoc, Nat.blt_eq] using ho) hen) hg hc
 | pel x off b o vals h1 hl hr => exact fun _ => .pel x off b o vals (fun j hj => hH.1 _ _ _ (h1 j hj)) hl (fun j hj => (hr j hj).mono hH)
 | vp a x h => exact fun _ => .vp a x (h.mono hH)
 | map lvl i e hen hg => exact fun ho => .map lvl i e (he _ _ _ (fun hl => by subst hl; simpa [AV.okLoc, Nat.blt_eq] using ho) hen) hg
 | func fn us vs bs cs hm hn hq hr ihq ih =>
  intro ho
  simp only [AV.okLoc] at ho
  split at ho
  ·rename_i hb
   exact .func fn us vs bs cs hm hn (fun j hj => ihq j hj (AV.okLocs_all hb _ (List.getElem_mem _))) fun j hj => ih j hj (AV.okLocs_all ho _ (List.getElem_mem _))
  ·cases ho
 | iface t v x h ih => exact fun ho => .iface t v x (ih (by simpa [AV.okLoc] using ho))
 | agg vs cs hn hl hr ih => exact fun ho => .agg vs cs hn hl fun j hj => ih j hj (AV.okLocs_all (by simpa [AV.okLoc] using ho) _ (List.getElem_mem _))
 | tuple vs cs hn hr ih => exact fun ho => .tuple vs cs hn fun j hj => ih j hj (AV.okLocs_all (by simpa [AV.okLoc] using ho) _ (List.getElem_mem _))
/-- One block of the abstract heap. -/
inductive BRel (c : Ctx) (w : World) (e : Ent) : Blk → Prop
 | frz (x : D) (vs : List Value) (t : TypeId) (hg : e.g = false ∧ 0 < e.n) (hw : w.heap[e.b]? = some (.cells vs.toArray t (0, 0))) (hv : c.H.var e.b = true) (hn : x.cells.length ≤ vs.length) (hl : ∀ y ∈ x.cells, y.leaf = true)
   (hH : ∀ j, j < x.cells.length → c.H.cell e.b j = some (vs.getD j default)) (hr : ∀ j (h : j < x.cells.length), DRel c.H (vs.getD j default) (x.cells[j])) : BRel c w e (.frz x)
 | cells (cs : List AV) (vs : List Value) (t : TypeId) (hg : e.g = false ∧ e.n = 0) (hw : w.heap[e.b]? = some (.cells vs.toArray t (0, 0))) (hn : vs.length = cs.length) (hl : ∀ c ∈ cs, c.leaf = true)
   (hr : ∀ j (h : j < cs.length), VRel c (vs.getD j default) (cs[j])) : BRel c w e (.cells cs)
 | arr (sz : Nat) (xs : List D) (vs : List Value) (t : TypeId) (hg : e.g = false ∧ e.n = 0) (hs : e.sz = sz) (hw : w.heap[e.b]? = some (.cells vs.toArray t (0, 0))) (hn : (flat xs).length ≤ vs.length)
   (hsz : ∀ x ∈ xs, x.cells.length = sz) (hl : ∀ c ∈ flat xs, c.leaf = true) (hr : ∀ j (h : j < (flat xs).length), DRel c.H (vs.getD j default) ((flat xs)[j])) : BRel c w e (.arr sz xs)
 | grow (sz n : Nat) (vs : List Value) (t : TypeId) (hg : e.g = true) (hs : e.sz = sz) (hn : e.n = n) (hw : w.heap[e.b]? = some (.cells vs.toArray t (0, 0))) (hv : vs.length = e.cap * sz)
   (hc : n ≤ e.cap) : BRel c w e (.grow sz n)
 | garr (sz : Nat) (xs : List D) (vs : List Value) (t : TypeId) (hg : e.g = true ∧ e.sz = 0) (hn : e.n = xs.length) (hw : w.heap[e.b]? = some (.cells vs.toArray t (0, 0))) (hv : vs.length = e.cap * sz) (hc : xs.length ≤ e.cap ∧ xs.length ≤ 9223372036854775807)
   (hsz : ∀ x ∈ xs, x.cells.length = sz) (hl : ∀ c ∈ flat xs, c.leaf = true) (hr : ∀ j (h : j < (flat xs).length), DRel c.H (vs.getD j default) ((flat xs)[j])) : BRel c w e (.garr sz xs)
 | map (es : List (D × D)) (ms : List MapEntry) (clock : Nat) (hg : e.g = false ∧ e.n = 0) (hw : w.heap[e.b]? = some (.map ms.toArray clock)) (hn : ms.length = es.length)
   (hk : ∀ j (h : j < es.length), DRel c.H (ms.getD j default).key (es[j]).1) (hv : ∀ j (h : j < es.length), DRel c.H (ms.getD j default).val (es[j]).2) : BRel c w e (.map es)
/-- what stands at a place that is kept -/
def Blk.gho (s : Nat) (b : Blk) : Prop := b = .grow s 0 ∨ (∃ z, s = 0 ∧ b = .garr z []) ∨ (∃ z, b = .arr z []) ∨ b = .frz (.agg [])
/-- what may not be written is as it was -/
structure Kept (F : Nat → Prop) (w w' : World) : Prop where
 os : w'.os = w.os
 tape : w'.tape = w.tape
 output : w'.output = w.output
 size : w.heap.size ≤ w'.heap.size
 block : ∀ k, ¬ F k → w'.heap[k]? = w.heap[k]?
theorem Kept.refl (F : Nat → Prop) (w : World) : Kept F w w := ⟨rfl, rfl, rfl, Nat.le_refl _, fun _ _ => rfl⟩
theorem Kept.trans {F : Nat → Prop} {a b c : World} (h : Kept F a b) (k : Kept F b c) : Kept F a c :=
 ⟨k.os.trans h.os, k.tape.trans h.tape, k.output.trans h.output, Nat.le_trans h.size k.size, fun i hi => (k.block i hi).trans (h.block i hi)⟩
theorem Kept.weak {F G : Nat → Prop} {a b : World} (h : Kept F a b) (hFG : ∀ k, F k → G k) : Kept G a b := ⟨h.os, h.tape, h.output, h.size, fun k hk => h.block k fun hf => hk (hFG k hf)⟩
theorem Kept.to_below {n : Nat} {a b : World} (h : Kept (since n) a b) : Below n a b := ⟨h.os, h.tape, h.output, h.size, fun k hk => h.block k (by simpa [since] using hk)⟩
structure Ok (c : Ctx) (fr : Frs) (w : World) : Prop where
 len : c.ents.length = fr.length
 lens : ∀ l, (c.ents.getD l []).length = (fr.getD l []).length
 blk : ∀ l i e b, c.ent l i = some e → (fr[l]?).bind (fun r => r[i]?) = some b → BRel (c.drop l) w e b
 gho : ∀ l i e b, c.raw l i = some e → e.gh = true → (fr[l]?).bind (fun r => r[i]?) = some b → b.gho e.sz ∧ e.n = 0
 inj : ∀ l i e l' i' e', c.ent l i = some e → c.ent l' i' = some e' → e.b = e'.b → l = l' ∧ i = i'
 ge : ∀ l i e, c.ent l i = some e → c.free e.b
 far : ∀ l i e, c.ent l i = some e → (e.g = false → e.n = 0) → (∀ j v, c.H.cell e.b j = some v → e.g = true ∧ j < e.n * e.sz) ∧ c.H.obj e.b = none ∧ c.H.var e.b = false
 mod : Models w c.H
 below : Kept c.free c.w0 w
 yng : ∀ b, c.free b → c.H.base ≤ b
/-! ### 4. Reading a value's shape off -/
theorem DRel.leaf_value {H : Imm} {v : Value} {x : D} (h : DRel H v x) (hl : x.leaf = true) : (∀ cs, v ≠ .agg cs) ∧ (∀ vs, v ≠ .tuple vs) := by
 cases h <;> simp_all [D.leaf]
theorem VRel.leaf_value {c : Ctx} {v : Value} {x : AV} (h : VRel c v x) (hl : x.leaf = true) : (∀ cs, v ≠ .agg cs) ∧ (∀ vs, v ≠ .tuple vs) := by
 cases h with
 | d v x h => exact h.leaf_value hl
 | _ => simp_all [AV.leaf]
/-- the cells of a value, as a list -/
theorem DRel.cells {H : Imm} {v : Value} {x : D} (h : DRel H v x) (ht : ∀ vs, x ≠ .tuple vs) :
  ∃ vs : List Value, v.cells = vs.toArray ∧ vs.length = x.cells.length ∧ (∀ y ∈ x.cells, y.leaf = true) ∧ ∀ j (hj : j < x.cells.length), DRel H (vs.getD j default) (x.cells[j]) := by
 cases h with
 | agg vs cs hn hl hr => exact ⟨vs, rfl, hn, hl, hr⟩
 | tuple vs cs hn hr => exact absurd rfl (ht cs)
 | bool b => exact ⟨[_], rfl, rfl, by simp [D.cells, D.leaf], fun j hj => by cases j with | zero => exact .bool b | succ j => simp [D.cells] at hj⟩
 | int k n => exact ⟨[_], rfl, rfl, by simp [D.cells, D.leaf], fun j hj => by cases j with | zero => exact .int k n | succ j => simp [D.cells] at hj⟩
 | str s => exact ⟨[_], rfl, rfl, by simp [D.cells, D.leaf], fun j hj => by cases j with | zero => exact .str s | succ j => simp [D.cells] at hj⟩
 | slice a cap sz xs b o vals hcap hsz ha hy hH hl hr => exact ⟨[_], rfl, rfl, by simp [D.cells, D.leaf], fun j hj => by cases j with | zero => exact .slice a cap sz xs b o vals hcap hsz ha hy hH hl hr | succ j => simp [D.cells] at hj⟩
 | os a cap sz xs b o vals hcap hsz ha hH hl hr => exact ⟨[_], rfl, rfl, by simp [D.cells, D.leaf], fun j hj => by cases j with | zero => exact .os a cap sz xs b o vals hcap hsz ha hH hl hr | succ j => simp [D.cells] at hj⟩
 | ptr x b o vals hv hH hl hr => exact ⟨[_], rfl, rfl, by simp [D.cells, D.leaf], fun j hj => by cases j with | zero => exact .ptr x b o vals hv hH hl hr | succ j => simp [D.cells] at hj⟩
 | nilptr => exact ⟨[_], rfl, rfl, by simp [D.cells, D.leaf], fun j hj => by cases j with | zero => exact .nilptr | succ j => simp [D.cells] at hj⟩
 | func fn us vs bs cs hm hn hq hr => exact ⟨[_], rfl, rfl, by simp [D.cells, D.leaf], fun j hj => by cases j with | zero => exact .func fn us vs bs cs hm hn hq hr | succ j => simp [D.cells] at hj⟩
 | nilfunc => exact ⟨[_], rfl, rfl, by simp [D.cells, D.leaf], fun j hj => by cases j with | zero => exact .nilfunc | succ j => simp [D.cells] at hj⟩
 | iface t v x h => exact ⟨[_], rfl, rfl, by simp [D.cells, D.leaf], fun j hj => by cases j with | zero => exact .iface t v x h | succ j => simp [D.cells] at hj⟩
 | nilIface => exact ⟨[_], rfl, rfl, by simp [D.cells, D.leaf], fun j hj => by cases j with | zero => exact .nilIface | succ j => simp [D.cells] at hj⟩
 | nilmap => exact ⟨[_], rfl, rfl, by simp [D.cells, D.leaf], fun j hj => by cases j with | zero => exact .nilmap | succ j => simp [D.cells] at hj⟩
 | map b es clock kv hn hH hk hv => exact ⟨[_], rfl, rfl, by simp [D.cells, D.leaf], fun j hj => by cases j with | zero => exact .map b es clock kv hn hH hk hv | succ j => simp [D.cells] at hj⟩
end Go.Proofs.Ytemfpemejagndaa.Fw

