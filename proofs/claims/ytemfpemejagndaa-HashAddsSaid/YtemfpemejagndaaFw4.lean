/- How the heap's relation survives: new blocks, blocks that are written, calls. -/
import Derived.Test.YtemfpemejagndaaFw3
set_option autoImplicit false
set_option linter.unusedVariables false
namespace Go.Proofs.Ytemfpemejagndaa.Fw
open Go Go.RowKit

theorem Kept.lower {F : Nat → Prop} {w0 w w' : World} (h : Kept F w0 w) (hk : Below w.heap.size w w') (hF : ∀ b, w.heap.size ≤ b → F b) : Kept F w0 w' :=
 h.trans ⟨hk.os, hk.tape, hk.output, hk.size, fun i hi => hk.block i (Nat.lt_of_not_le fun hh => hi (hF i hh))⟩
theorem Ctx.free_new {c : Ctx} {n : Nat} (hB : c.B ≤ n) : ∀ b, n ≤ b → c.free b := fun b hb => .inl (Nat.le_trans hB hb)
/-- What is newly known lies in new blocks. -/
theorem Ctx.le_H {c : Ctx} {H' : Imm} (h : c.H.ext H' c.free) : c.le { c with H := H' } := ⟨rfl, rfl, rfl, h, fun l i e he => ⟨e, he, Ent.le.refl e⟩⟩
theorem Models.below {w w' : World} {H : Imm} (h : Models w H) (hb : Below w.heap.size w w') : Models w' H := by
 refine ⟨fun b j v hc => ?_, fun b o ho => ?_, fun b hv => ?_, fun b hv => ?_⟩
 ·have h1 := h.1 _ _ _ hc
  have hlt : b < w.heap.size := h.cell_lt hc
  have h2 := hb.block b hlt
  unfold World.cell? at h1 ⊢
  rw [h2]; exact h1
 ·obtain ⟨h1, h2⟩ := h.2.1 _ _ ho
  have hlt : b < w.heap.size := (Array.getElem?_eq_some_iff.1 h1).1
  exact ⟨(hb.block b hlt).trans h1, h2⟩
 ·obtain ⟨cc, t, h1⟩ := h.2.2.1 _ hv
  have hlt : b < w.heap.size := (Array.getElem?_eq_some_iff.1 h1).1
  exact ⟨cc, t, (hb.block b hlt).trans h1⟩
 ·obtain ⟨h1, h2⟩ := h.2.2.2 _ hv
  exact ⟨Nat.lt_of_lt_of_le h1 hb.size, fun c t f hc => h2 c t f ((hb.block b h1).symm.trans hc)⟩
/-- Nothing that was there has changed; more may be known of what is new. -/
theorem Ok.calls {c : Ctx} {fr : Frs} {w w' : World} {H' : Imm} (h : Ok c fr w) (hb : Below w.heap.size w w') (hB : c.B ≤ w.heap.size) (hH : c.H.ext H' (since w.heap.size)) (hm : Models w' H') :
  Ok { c with H := H' } fr w' := by
 have hle : c.le { c with H := H' } := Ctx.le_H (hH.weak (Ctx.free_new hB))
 refine ⟨h.len, h.lens, fun l i e b he hbl => ?_, h.gho, h.inj, h.ge, fun l i e he hfz => ?_, hm, Kept.lower h.below hb (Ctx.free_new hB), fun b hb' => by have := h.yng b hb'; rw [show ({ c with H := H' } : Ctx).H.base = c.H.base from hle.H.2.2.2.1]; exact this⟩
 ·have h1 := h.blk l i e b he hbl
  exact (h1.mono (hle.drop l)).keep (hb.block _ h1.lt)
 ·have hlt := h.lt he
  obtain ⟨h1, h2, h3⟩ := h.far l i e he hfz
  refine ⟨fun j v hc => ?_, ?_, ?_⟩
  ·rcases hH.cell _ _ _ hc with hc | hc
   ·exact h1 _ _ hc
   ·exact absurd hlt (Nat.not_lt_of_le hc)
  ·cases ho : H'.obj e.b with
   | none => rfl
   | some o =>
    rcases hH.obj _ _ ho with hc | hc
    ·rw [h2] at hc; cases hc
    ·exact absurd hlt (Nat.not_lt_of_le hc)
  ·cases hv : H'.var e.b with
   | false => rfl
   | true =>
    rcases hH.var _ hv with hc | hc
    ·rw [h3] at hc; cases hc
    ·exact absurd hlt (Nat.not_lt_of_le hc)
theorem Ctx.raw_push {c : Ctx} {L : List Ent} {R : List (List Ent)} (hc : c.ents = L :: R) (e : Ent) (l i : Nat) :
  ({ c with ents := (L ++ [e]) :: R } : Ctx).raw l i = if l = 0 ∧ i = L.length then some e else c.raw l i := by
 unfold Ctx.raw
 rw [hc]
 cases l with
 | zero =>
  simp only [List.getElem?_cons_zero, Option.bind_some, true_and]
  by_cases hi : i = L.length
  ·subst hi; simp
  ·rw [if_neg hi]
   rcases Nat.lt_or_ge i L.length with h | h
   ·rw [List.getElem?_append_left h]
   ·rw [List.getElem?_eq_none (by simp; omega), List.getElem?_eq_none h]
 | succ l => simp
theorem Ctx.ent_push {c : Ctx} {L : List Ent} {R : List (List Ent)} (hc : c.ents = L :: R) (e : Ent) (l i : Nat) :
  ({ c with ents := (L ++ [e]) :: R } : Ctx).ent l i = if l = 0 ∧ i = L.length then e.live else c.ent l i := by
 unfold Ctx.ent
 rw [Ctx.raw_push hc]
 split <;> rfl
/-- One more block is known. -/
theorem Ok.push {c : Ctx} {l : List Blk} {r : Frs} {w : World} {e : Ent} {b : Blk} (h : Ok c (l :: r) w) (hgh : e.gh = false) (hge : c.free e.b)
  (hne : ∀ lvl i e', c.ent lvl i = some e' → e'.b ≠ e.b) (hfar : (e.g = false → e.n = 0) → (∀ j v, c.H.cell e.b j = some v → e.g = true ∧ j < e.n * e.sz) ∧ c.H.obj e.b = none ∧ c.H.var e.b = false)
  (hb : ∀ c', c.le c' → BRel c' w e b) : ∃ c', c.le c' ∧ c'.H = c.H ∧ c'.B = c.B ∧ c'.ents.tail = c.ents.tail ∧ c'.ent 0 l.length = some e ∧ Ok c' ((l ++ [b]) :: r) w := by
 obtain ⟨L, R, hc⟩ : ∃ L R, c.ents = L :: R := by
  have := h.len
  cases hh : c.ents with
  | nil => rw [hh] at this; simp at this
  | cons L R => exact ⟨L, R, rfl⟩
 have hL : L.length = l.length := by have := h.lens 0; rw [hc] at this; simpa using this
 have hlive : e.live = some e := Ent.live_some.2 ⟨rfl, hgh⟩
 have hent := Ctx.ent_push hc e
 have hraw := Ctx.raw_push hc e
 rw [hlive] at hent
 have hle : c.le { c with ents := (L ++ [e]) :: R } := by
  refine ⟨rfl, rfl, rfl, Imm.ext.refl _ _, fun lvl i e' he => ⟨e', ?_, Ent.le.refl e'⟩⟩
  rw [hraw, if_neg]
  ·exact he
  ·rintro ⟨rfl, rfl⟩
   simp [Ctx.raw, hc] at he
 have hbl' : ∀ lvl i b' e', ¬ (lvl = 0 ∧ i = L.length) → c.raw lvl i = some e' → (((l ++ [b]) :: r)[lvl]?).bind (fun r => r[i]?) = some b' → ((l :: r)[lvl]?).bind (fun r => r[i]?) = some b' := by
  intro lvl i b' e' hh he hbl
  cases lvl with
  | succ lvl => simpa using hbl
  | zero =>
   simp only [List.getElem?_cons_zero, Option.bind_some] at hbl ⊢
   have hlt : i < L.length := by
    simp only [Ctx.raw, hc, List.getElem?_cons_zero, Option.bind_some] at he
    exact (List.getElem?_eq_some_iff.1 he).1
   rwa [List.getElem?_append_left (by omega)] at hbl
 refine ⟨{ c with ents := (L ++ [e]) :: R }, hle, rfl, rfl, by rw [hc]; rfl, by rw [hent, if_pos ⟨rfl, hL.symm⟩], ?_⟩
 refine ⟨?_, fun lvl => ?_, fun lvl i e' b' he hbl => ?_, fun lvl i e' b' he hg hbl => ?_, fun l1 i1 e1 l2 i2 e2 h1 h2 hbb => ?_, fun lvl i e' he => ?_, fun lvl i e' he => ?_, h.mod, h.below, h.yng⟩
 ·have := h.len; rw [hc] at this; simpa using this
 ·cases lvl with
  | zero => simp [hL]
  | succ lvl => have := h.lens (lvl + 1); rw [hc] at this; simpa using this
 ·rw [hent] at he
  split at he
  ·rename_i hh
   obtain ⟨rfl, rfl⟩ := hh
   injection he with he
   subst he
   rw [hL] at hbl
   simp at hbl
   subst hbl
   rw [Ctx.drop_zero]
   exact hb _ hle
  ·rename_i hh
   exact (h.blk lvl i e' b' he (hbl' lvl i b' e' hh (Ctx.ent_iff.1 he).1 hbl)).mono (hle.drop lvl)
 ·rw [hraw] at he
  split at he
  ·injection he with he; subst he; rw [hgh] at hg; cases hg
  ·rename_i hh
   exact h.gho lvl i e' b' he hg (hbl' lvl i b' e' hh he hbl)
 ·rw [hent] at h1 h2
  split at h1 <;> split at h2
  ·rename_i a1 a2; exact ⟨a1.1.trans a2.1.symm, a1.2.trans a2.2.symm⟩
  ·injection h1 with h1; subst h1; exact absurd hbb.symm (hne _ _ _ h2)
  ·injection h2 with h2; subst h2; exact absurd hbb (hne _ _ _ h1)
  ·exact h.inj _ _ _ _ _ _ h1 h2 hbb
 ·rw [hent] at he
  split at he
  ·injection he with he; subst he; exact hge
  ·exact h.ge _ _ _ he
 ·rw [hent] at he
  split at he
  ·injection he with he; subst he; exact hfar
  ·exact h.far _ _ _ he
/-- A place is kept for what will be owned. -/
theorem Ok.holdX {c : Ctx} {l : List Blk} {r : Frs} {w : World} (h : Ok c (l :: r) w) (sz : Nat) (b0 : Blk) (hb0 : b0.gho sz) :
  ∃ c', c.le c' ∧ c'.H = c.H ∧ c'.B = c.B ∧ c'.ents.tail = c.ents.tail ∧ Ok c' ((l ++ [b0]) :: r) w := by
 obtain ⟨L, R, hc⟩ : ∃ L R, c.ents = L :: R := by
  have := h.len
  cases hh : c.ents with
  | nil => rw [hh] at this; simp at this
  | cons L R => exact ⟨L, R, rfl⟩
 have hL : L.length = l.length := by have := h.lens 0; rw [hc] at this; simpa using this
 have hent := Ctx.ent_push hc ⟨0, true, sz, 0, 0⟩
 have hraw := Ctx.raw_push hc ⟨0, true, sz, 0, 0⟩
 have hno : ∀ lvl i e, ({ c with ents := (L ++ [⟨0, true, sz, 0, 0⟩]) :: R } : Ctx).ent lvl i = some e → c.ent lvl i = some e := fun lvl i e he => by
  rw [hent] at he
  split at he
  ·cases he
  ·exact he
 have hle : c.le { c with ents := (L ++ [⟨0, true, sz, 0, 0⟩]) :: R } := by
  refine ⟨rfl, rfl, rfl, Imm.ext.refl _ _, fun lvl i e' he => ⟨e', ?_, Ent.le.refl e'⟩⟩
  rw [hraw, if_neg]
  ·exact he
  ·rintro ⟨rfl, rfl⟩
   simp [Ctx.raw, hc] at he
 have hbl' : ∀ lvl i b' e', ¬ (lvl = 0 ∧ i = L.length) → c.raw lvl i = some e' → (((l ++ [b0]) :: r)[lvl]?).bind (fun r => r[i]?) = some b' → ((l :: r)[lvl]?).bind (fun r => r[i]?) = some b' := by
  intro lvl i b' e' hh he hbl
  cases lvl with
  | succ lvl => simpa using hbl
  | zero =>
   simp only [List.getElem?_cons_zero, Option.bind_some] at hbl ⊢
   have hlt : i < L.length := by
    simp only [Ctx.raw, hc, List.getElem?_cons_zero, Option.bind_some] at he
    exact (List.getElem?_eq_some_iff.1 he).1
   rwa [List.getElem?_append_left (by omega)] at hbl
 refine ⟨{ c with ents := (L ++ [⟨0, true, sz, 0, 0⟩]) :: R }, hle, rfl, rfl, by rw [hc]; rfl, ?_⟩
 refine ⟨?_, fun lvl => ?_, fun lvl i e' b' he hbl => ?_, fun lvl i e' b' he hg hbl => ?_, fun l1 i1 e1 l2 i2 e2 h1 h2 hbb => ?_, fun lvl i e' he => ?_, fun lvl i e' he => ?_, h.mod, h.below, h.yng⟩
 ·have := h.len; rw [hc] at this; simpa using this
 ·cases lvl with
  | zero => simp [hL]
  | succ lvl => have := h.lens (lvl + 1); rw [hc] at this; simpa using this
 ·have he' := hno _ _ _ he
  refine (h.blk lvl i e' b' he' (hbl' lvl i b' e' (fun hh => ?_) (Ctx.ent_iff.1 he').1 hbl)).mono (hle.drop lvl)
  obtain ⟨rfl, rfl⟩ := hh
  simp [Ctx.ent, Ctx.raw, hc] at he'
 ·rw [hraw] at he
  split at he
  ·rename_i hh
   obtain ⟨rfl, rfl⟩ := hh
   injection he with he; subst he
   rw [hL] at hbl
   simp at hbl
   exact ⟨hbl ▸ hb0, rfl⟩
  ·rename_i hh
   exact h.gho lvl i e' b' he hg (hbl' lvl i b' e' hh he hbl)
 ·exact h.inj _ _ _ _ _ _ (hno _ _ _ h1) (hno _ _ _ h2) hbb
 ·exact h.ge _ _ _ (hno _ _ _ he)
 ·exact h.far _ _ _ (hno _ _ _ he)
theorem Ok.hold {c : Ctx} {l : List Blk} {r : Frs} {w : World} (h : Ok c (l :: r) w) (sz : Nat) :
  ∃ c', c.le c' ∧ c'.H = c.H ∧ c'.B = c.B ∧ c'.ents.tail = c.ents.tail ∧ Ok c' ((l ++ [.grow sz 0]) :: r) w := h.holdX sz _ (.inl rfl)
theorem alloc_below (w : World) (o : Obj) : Below w.heap.size w (w.alloc o) := (Below.refl _ _).alloc (Nat.le_refl _) o
/-- A new block. -/
theorem Ok.new {c : Ctx} {l : List Blk} {r : Frs} {w : World} {o : Obj} {b : Blk} (h : Ok c (l :: r) w) (hB : c.B ≤ w.heap.size)
  (e : Ent) (heb : e.b = w.heap.size) (hg : e.g = false) (hb : ∀ c', c.le c' → BRel c' (w.alloc o) e b) :
  ∃ c', c.le c' ∧ c'.H = c.H ∧ c'.B = c.B ∧ c'.ents.tail = c.ents.tail ∧ c'.ent 0 l.length = some e ∧ Ok c' ((l ++ [b]) :: r) (w.alloc o) := by
 have hw := alloc_below w o
 have h1 : Ok c (l :: r) (w.alloc o) := h.calls hw hB (Imm.ext.refl _ _) (h.mod.below hw)
 have hn : ∀ j, c.H.cell e.b j = none := fun j => by
  cases hc : c.H.cell e.b j with
  | none => rfl
  | some v => have := h.mod.cell_lt hc; omega
 have ho : c.H.obj e.b = none := by
  cases hc : c.H.obj e.b with
  | none => rfl
  | some v => have := (Array.getElem?_eq_some_iff.1 (h.mod.2.1 _ _ hc).1).1; omega
 have hv : c.H.var e.b = false := by
  cases hc : c.H.var e.b with
  | false => rfl
  | true => obtain ⟨cc, t, h2⟩ := h.mod.2.2.1 _ hc; have := (Array.getElem?_eq_some_iff.1 h2).1; omega
 exact h1.push (Ent.gh_var hg) (.inl (by omega)) (fun lvl i e' he => by have := h.lt he; omega) (fun _ => ⟨fun j v hc => (by rw [hn] at hc; cases hc), ho, hv⟩) hb
theorem getElem?_set2 {α : Type} (fr : List (List α)) (lvl i : Nat) (r : List α) (x : α) (hr : fr[lvl]? = some r) (hi : i < r.length) (l' i' : Nat) :
  ((fr.set lvl (r.set i x))[l']?).bind (fun r => r[i']?) = if l' = lvl ∧ i' = i then some x else (fr[l']?).bind fun r => r[i']? := by
 have hl : lvl < fr.length := (List.getElem?_eq_some_iff.1 hr).1
 rw [List.getElem?_set]
 by_cases h1 : l' = lvl
 ·subst h1
  simp only [if_true, hl, Option.bind_some, List.getElem?_set, true_and, hr]
  by_cases h2 : i' = i
  ·subst h2; simp [hi]
  ·rw [if_neg (fun h => h2 h.symm), if_neg h2]
 ·rw [if_neg (fun h => h1 h.symm), if_neg (fun h => h1 h.1)]
theorem set2_lens {α : Type} (fr : List (List α)) (lvl i : Nat) (r : List α) (x : α) (hr : fr[lvl]? = some r) (l : Nat) : ((fr.set lvl (r.set i x)).getD l []).length = (fr.getD l []).length := by
 have hl : lvl < fr.length := (List.getElem?_eq_some_iff.1 hr).1
 rw [List.getD_eq_getElem?_getD, List.getD_eq_getElem?_getD, List.getElem?_set]
 by_cases h1 : lvl = l
 ·subst h1
  have : fr[lvl] = r := by rw [List.getElem?_eq_getElem hl] at hr; injection hr
  simp [hl, this]
 ·rw [if_neg h1]
/-- A block is written. -/
theorem Ok.upd {c : Ctx} {fr : Frs} {w w' : World} {lvl i : Nat} {e : Ent} {b' : Blk} {r : List Blk} (h : Ok c fr w) (hB : c.free e.b) (he : c.ent lvl i = some e) (hg : e.g = false ∧ e.n = 0)
  (hw : ∀ b, b ≠ e.b → w'.heap[b]? = w.heap[b]?) (hs : w'.heap.size = w.heap.size) (ho : w'.os = w.os) (ht : w'.tape = w.tape) (hu : w'.output = w.output)
  (hb : BRel (c.drop lvl) w' e b') (hr : fr[lvl]? = some r) (hi : i < r.length) : Ok c (fr.set lvl (r.set i b')) w' := by
 obtain ⟨f1, f2, f3⟩ := h.far lvl i e he fun _ => hg.2
 replace hg := hg.1
 refine ⟨by simpa using h.len, fun l => by rw [set2_lens fr lvl i r b' hr]; exact h.lens l, fun l i' e' b he' hbl => ?_, fun l i' e' b he' hg' hbl => ?_, h.inj, h.ge, h.far, ?_, ?_, h.yng⟩
 ·rw [getElem?_set2 fr lvl i r b' hr hi] at hbl
  split at hbl
  ·rename_i hh
   obtain ⟨rfl, rfl⟩ := hh
   injection hbl with hbl
   subst hbl
   rw [he] at he'
   injection he' with he'
   subst he'
   exact hb
  ·rename_i hh
   have h1 := h.blk l i' e' b he' hbl
   exact h1.keep (hw _ fun hbb => hh (h.inj _ _ _ _ _ _ he' he hbb))
 ·rw [getElem?_set2 fr lvl i r b' hr hi] at hbl
  split at hbl
  ·rename_i hh
   obtain ⟨rfl, rfl⟩ := hh
   rw [(Ctx.ent_iff.1 he).1] at he'
   injection he' with he'
   subst he'
   rw [Ent.gh_var hg] at hg'; cases hg'
  ·exact h.gho l i' e' b he' hg' hbl
 ·exact h.mod.off e.b (fun j => by
   cases hc : c.H.cell e.b j with
   | none => rfl
   | some v => have := (f1 _ _ hc).1; rw [hg] at this; cases this) f2 f3 (fun b hb => .inl (hw b hb).symm) (Nat.le_of_eq hs.symm) (hb.unfz)
 ·exact h.below.trans ⟨ho, ht, hu, Nat.le_of_eq hs.symm, fun k hk => hw k (fun hh => hk (hh ▸ hB))⟩
theorem Ctx.raw_set {c : Ctx} {lvl i : Nat} {e' : Ent} {L : List Ent} (hL : c.ents[lvl]? = some L) (hi : i < L.length) (l' i' : Nat) :
  ({ c with ents := c.ents.set lvl (L.set i e') } : Ctx).raw l' i' = if l' = lvl ∧ i' = i then some e' else c.raw l' i' := getElem?_set2 c.ents lvl i L e' hL hi l' i'
theorem Ctx.ent_set {c : Ctx} {lvl i : Nat} {e' : Ent} {L : List Ent} (hL : c.ents[lvl]? = some L) (hi : i < L.length) (hg : e'.gh = false) (l' i' : Nat) :
  ({ c with ents := c.ents.set lvl (L.set i e') } : Ctx).ent l' i' = if l' = lvl ∧ i' = i then some e' else c.ent l' i' := by
 unfold Ctx.ent
 rw [Ctx.raw_set hL hi]
 split
 ·exact Ent.live_some.2 ⟨rfl, hg⟩
 ·rfl
/-- What is owned has grown: in its place, or into a new block. -/
theorem Ok.regrow {c : Ctx} {fr : Frs} {w w' : World} {lvl i : Nat} {e e' : Ent} {sz : Nat} {r : List Blk} {H' : Imm} (h : Ok c fr w) (hBw : c.B ≤ w.heap.size) (hraw : c.raw lvl i = some e) (hg : e.g = true)
  (hgh : e'.gh = false) (hg' : e'.g = true) (hsz : e'.sz = e.sz) (hn : e.n < e'.n) (hb' : (e'.b = e.b ∧ e.gh = false) ∨ w.heap.size ≤ e'.b)
  (hw : ∀ b, (e.gh = false → b ≠ e.b) → b < w.heap.size → w'.heap[b]? = w.heap[b]?) (hs : w.heap.size ≤ w'.heap.size) (ho : w'.os = w.os) (ht : w'.tape = w.tape) (hu : w'.output = w.output)
  (hH : c.H.le H') (hHc : ∀ b j v, H'.cell b j = some v → c.H.cell b j = some v ∨ (b = e'.b ∧ j < e'.n * e'.sz)) (hHo : H'.obj = c.H.obj) (hHv : H'.var = c.H.var) (hm : Models w' H')
  {nb : Blk} (hb : ∀ c' : Ctx, c'.H = H' → BRel c' w' e' nb) (hr : fr[lvl]? = some r) (hi : i < r.length) :
  ∃ c', c.le c' ∧ c'.H = H' ∧ c'.B = c.B ∧ c'.ent lvl i = some e' ∧ Ok c' (fr.set lvl (r.set i nb)) w' := by
 have hlive : e.gh = false → c.ent lvl i = some e := fun hh => Ctx.ent_iff.2 ⟨hraw, hh⟩
 have heq : ∀ e1, c.ent lvl i = some e1 → e.gh = false ∧ e1 = e := fun e1 h1 => by
  obtain ⟨q1, q2⟩ := Ctx.ent_iff.1 h1
  rw [hraw] at q1; injection q1 with q1; subst q1; exact ⟨q2, rfl⟩
 have hfe : c.free e'.b := by
  rcases hb' with hb' | hb'
  ·rw [hb'.1]; exact h.ge _ _ _ (hlive hb'.2)
  ·exact .inl (Nat.le_trans hBw hb')
 have hHx : c.H.ext H' c.free := ⟨hH, fun b j v hc => (hHc b j v hc).imp id (fun hh => by rw [hh.1]; exact hfe), fun b o ho' => .inl (hHo ▸ ho'), fun b hv' => .inl (hHv ▸ hv')⟩
 obtain ⟨L, hL, hLi⟩ := Option.bind_eq_some_iff.1 hraw
 have hLl : i < L.length := (List.getElem?_eq_some_iff.1 hLi).1
 have hent := Ctx.ent_set (e' := e') hL hLl hgh
 have hrw := Ctx.raw_set (e' := e') hL hLl
 have hle : c.le { c with H := H', ents := c.ents.set lvl (L.set i e') } := by
  refine ⟨rfl, rfl, rfl, hHx, fun l1 i1 e1 h1 => ?_⟩
  by_cases hh : l1 = lvl ∧ i1 = i
  ·obtain ⟨rfl, rfl⟩ := hh
   rw [hraw] at h1; injection h1 with h1; subst h1
   exact ⟨e', (hrw _ _).trans (if_pos ⟨rfl, rfl⟩), hg'.trans hg.symm, hsz, Nat.le_of_lt hn, fun hc => by omega, fun hf => (by rw [hg] at hf; cases hf), fun _ => hgh⟩
  ·exact ⟨e1, (hrw _ _).trans ((if_neg hh).trans h1), Ent.le.refl e1⟩
 refine ⟨{ c with H := H', ents := c.ents.set lvl (L.set i e') }, hle, rfl, rfl, (hent _ _).trans (if_pos ⟨rfl, rfl⟩), ?_⟩
 have hother : ∀ l1 i1 e1, ¬ (l1 = lvl ∧ i1 = i) → c.ent l1 i1 = some e1 → e1.b ≠ e'.b := by
  intro l1 i1 e1 hh h1 hbb
  rcases hb' with hb' | hb'
  ·exact hh (h.inj _ _ _ _ _ _ h1 (hlive hb'.2) (hbb.trans hb'.1))
  ·have := h.lt h1; omega
 refine ⟨by simpa using h.len, fun l => ?_, fun l1 i1 e1 b1 h1 hbl => ?_, fun l1 i1 e1 b1 h1 hg1 hbl => ?_, fun l1 i1 e1 l2 i2 e2 h1 h2 hbb => ?_, fun l1 i1 e1 h1 => ?_, fun l1 i1 e1 h1 hfz => ?_, hm, ?_, fun b hb0 => by have := h.yng b hb0; rw [show H'.base = c.H.base from hH.2.2.2.1]; exact this⟩
 ·have hset : ∀ l, ((c.ents.set lvl (L.set i e')).getD l []).length = (c.ents.getD l []).length := set2_lens c.ents lvl i L e' hL
  rw [set2_lens fr lvl i r _ hr]; exact (hset l).trans (h.lens l)
 ·have h1' := (hent l1 i1).symm.trans h1
  rw [getElem?_set2 fr lvl i r _ hr hi] at hbl
  split at h1'
  ·rename_i hh
   rw [if_pos hh] at hbl
   injection hbl with hbl
   injection h1' with h1'
   subst hbl; subst h1'
   exact hb _ rfl
  ·rename_i hh
   rw [if_neg hh] at hbl
   have h2 := h.blk l1 i1 e1 b1 h1' hbl
   refine ((h2.mono (hle.drop l1)).keep ?_)
   exact hw _ (fun hgf hbb => hh (h.inj _ _ _ _ _ _ h1' (hlive hgf) hbb)) (h.lt h1')
 ·have h1' := (hrw l1 i1).symm.trans h1
  rw [getElem?_set2 fr lvl i r _ hr hi] at hbl
  split at h1'
  ·injection h1' with h1'; subst h1'; rw [hgh] at hg1; cases hg1
  ·rename_i hh
   rw [if_neg hh] at hbl
   exact h.gho _ _ _ _ h1' hg1 hbl
 ·have h1' := (hent l1 i1).symm.trans h1
  have h2' := (hent l2 i2).symm.trans h2
  split at h1' <;> split at h2'
  ·rename_i a1 a2; exact ⟨a1.1.trans a2.1.symm, a1.2.trans a2.2.symm⟩
  ·rename_i a1 a2; injection h1' with h1'; subst h1'; exact absurd hbb.symm (hother _ _ _ a2 h2')
  ·rename_i a1 a2; injection h2' with h2'; subst h2'; exact absurd hbb (hother _ _ _ a1 h1')
  ·exact h.inj _ _ _ _ _ _ h1' h2' hbb
 ·have h1' := (hent l1 i1).symm.trans h1
  split at h1'
  ·injection h1' with h1'; subst h1'; exact hfe
  ·exact h.ge _ _ _ h1'
 ·have h1' := (hent l1 i1).symm.trans h1
  show (∀ j v, H'.cell e1.b j = some v → _) ∧ H'.obj e1.b = none ∧ H'.var e1.b = false
  rw [hHo, hHv]
  have hnew : w.heap.size ≤ e'.b → (∀ j, c.H.cell e'.b j = none) ∧ c.H.obj e'.b = none ∧ c.H.var e'.b = false := by
   intro hge
   refine ⟨fun j => ?_, ?_, ?_⟩
   ·cases hc : c.H.cell e'.b j with
    | none => rfl
    | some v => have := h.mod.cell_lt hc; omega
   ·cases hc : c.H.obj e'.b with
    | none => rfl
    | some v => have := (Array.getElem?_eq_some_iff.1 (h.mod.2.1 _ _ hc).1).1; omega
   ·cases hc : c.H.var e'.b with
    | false => rfl
    | true => obtain ⟨cc, t, h2⟩ := h.mod.2.2.1 _ hc; have := (Array.getElem?_eq_some_iff.1 h2).1; omega
  split at h1'
  ·injection h1' with h1'
   subst h1'
   have hf : e.gh = false → _ := fun hh => h.far _ _ _ (hlive hh) fun hq => by rw [hg] at hq; cases hq
   refine ⟨fun j v hc => ⟨hg', ?_⟩, ?_, ?_⟩
   ·rcases hHc _ _ _ hc with hc | hc
    ·rcases hb' with hb' | hb'
     ·rw [hb'.1] at hc
      have := ((hf hb'.2).1 _ _ hc).2
      rw [hsz]
      exact Nat.lt_of_lt_of_le this (Nat.mul_le_mul_right _ (Nat.le_of_lt hn))
     ·rw [(hnew hb').1] at hc; cases hc
    ·exact hc.2
   ·rcases hb' with hb' | hb'
    ·rw [hb'.1]; exact (hf hb'.2).2.1
    ·exact (hnew hb').2.1
   ·rcases hb' with hb' | hb'
    ·rw [hb'.1]; exact (hf hb'.2).2.2
    ·exact (hnew hb').2.2
  ·rename_i hh
   have hf := h.far _ _ _ h1' hfz
   refine ⟨fun j v hc => ?_, hf.2⟩
   rcases hHc _ _ _ hc with hc | hc
   ·exact hf.1 _ _ hc
   ·exact absurd hc.1 (hother _ _ _ hh h1')
 ·exact h.below.trans ⟨ho, ht, hu, hs, fun k hk => hw k (fun hgf hh => hk (hh ▸ h.ge _ _ _ (hlive hgf))) (Nat.lt_of_not_le fun hh => hk (.inl (Nat.le_trans hBw hh)))⟩
end Go.Proofs.Ytemfpemejagndaa.Fw

