/- What is known of types; the heap's laws. -/
import Derived.Test.YtemfpemejagndaaFw2
import Derived.Laws.CopyRow
import Derived.Shelf.Abstract
set_option autoImplicit false
set_option linter.unusedVariables false
namespace Go.Proofs.Ytemfpemejagndaa.Fw
open Go Go.RowKit

/-! ### 1. Types -/
def zrB : Value → AV → Bool
 | .bool b, .d (.bool b') => b == b'
 | .int k n, .d (.int k' n') => decide (k = k') && decide (n = n')
 | .string s, .d (.str s') => s.data.size == 0 && s'.data.size == 0
 | .slice none 0 0, .nil _ => true
 | .pointer none, .d .nilptr => true
 | .nilFunc, .d .nilfunc => true
 | .nilIface, .d .nilIface => true
 | .map none, .d .nilmap => true
 | _, _ => false
def zrsB : List Value → List AV → Bool
 | [], [] => true
 | v :: vs, a :: bs => zrB v a && zrsB vs bs
 | _, _ => false
def kindB : TK → TypeDesc → Bool
 | .other, _ => true
 | .int k, .int k' => decide (k = k')
 | .bool, .bool => true
 | .str, .string => true
 | .struct, .struct _ => true
 | .slice e, .slice e' => e == e'
 | .map k e, .map k' e' => k == k' && e == e'
 | .ptr e, .pointer e' => e == e'
 | .iface b, .interface ms => ms.isEmpty == b
 | .func, .func _ _ _ => true
 | .arr n e, .array n' e' => n == n' && e == e'
 | _, _ => false
def aggB : TypeDesc → Bool
 | .struct _ => true
 | .array _ _ => true
 | _ => false
def fieldsB (P : Program) : List Field → List (Nat × Nat × Bool) → Bool
 | [], [] => true
 | f :: fs, (o, n, g) :: r => (f.offset == o && (P.cellsOf f.type == n && ((P.info? f.type).isSome && (match P.underlying f.type with | some d => aggB d == g | none => false)))) && fieldsB P fs r
 | _, _ => false
def zeroB (ti : TI) : Value → Bool
 | .tuple _ => false
 | .agg _ => ti.agg
 | _ => !ti.agg
def elemB (P : Program) (ti : TI) : TK → Bool
 | .slice e => match P.info? e with
  | some j => j.size == ti.esz && j.bytes == ti.ebytes && decide (0 < j.size) && decide (j.bytes ≤ 4096) && decide (0 < j.bytes) && (match j.zero with | some z => z.cells.size == j.size | none => false)
  | none => false
 | .arr n e => (P.info? e).isSome && decide (n ≤ 9223372036854775807)
 | _ => true
def structB (P : Program) (ti : TI) : TypeDesc → Bool
 | .struct fs => fieldsB P fs.toList ti.fields
 | _ => ti.fields.isEmpty
def TI.okB (P : Program) (t : TypeId) (ti : TI) : Bool :=
 match P.info? t, P.underlying t with
 | some i, some d => i.size == ti.sz && (i.bytes == ti.bytes && (aggB d == ti.agg && (kindB ti.kind d &&
   ((match i.zero with | some z => zrsB z.cells.toList ti.zero && (zeroB ti z && z.cells.size == i.size) | none => false) &&
   (structB P ti d && elemB P ti ti.kind)))))
 | _, _ => false
def TT.okB (P : Program) : TT → Bool
 | [] => true
 | (t, ti) :: r => ti.okB P t && TT.okB P r
theorem TT.get_ok {P : Program} {t : TypeId} {ti : TI} : ∀ {T : TT}, T.okB P = true → T.get t = some ti → ti.okB P t = true
 | [], _, h => by cases h
 | (u, i) :: r, hk, h => by
  simp only [TT.okB, Bool.and_eq_true] at hk
  simp only [TT.get] at h
  split at h
  ·rename_i he
   have := Nat.eq_of_beq_eq_true he
   injection h with h
   subst h; subst this
   exact hk.1
  ·exact TT.get_ok hk.2 h
structure TFacts (P : Program) (t : TypeId) (ti : TI) (i : TypeInfo) (d : TypeDesc) (z : Value) : Prop where
 info : P.info? t = some i
 und : P.underlying t = some d
 size : i.size = ti.sz
 bytes : i.bytes = ti.bytes
 agg : aggB d = ti.agg
 kind : kindB ti.kind d = true
 zero : i.zero = some z
 zcells : zrsB z.cells.toList ti.zero = true
 zshape : zeroB ti z = true
 zsize : z.cells.size = i.size
 struct : structB P ti d = true
 elem : elemB P ti ti.kind = true
theorem TI.facts {P : Program} {t : TypeId} {ti : TI} (h : ti.okB P t = true) : ∃ i d z, TFacts P t ti i d z := by
 unfold TI.okB at h
 split at h
 ·rename_i i d hi hd
  simp only [Bool.and_eq_true, beq_iff_eq] at h
  obtain ⟨h1, h2, h3, h4, h5, h6, h7⟩ := h
  split at h5
  ·rename_i z hz
   simp only [Bool.and_eq_true, beq_iff_eq] at h5
   exact ⟨i, d, z, hi, hd, h1, h2, h3, h4, hz, h5.1, h5.2.1, h5.2.2, h6, h7⟩
  ·cases h5
 ·cases h
theorem zrB_rel {c : Ctx} {v : Value} {a : AV} (h : zrB v a = true) : VRel c v a ∧ a.leaf = true := by
 unfold zrB at h
 split at h
 ·simp at h; subst h; exact ⟨.d _ _ (.bool _), rfl⟩
 ·simp at h; obtain ⟨rfl, rfl⟩ := h; exact ⟨.d _ _ (.int _ _), rfl⟩
 ·rename_i s s'
  simp only [Bool.and_eq_true, beq_iff_eq] at h
  have h1 : s = s' := by
   cases s; cases s'
   rename_i a b
   have ha : a = #[] := Array.eq_empty_of_size_eq_zero h.1
   have hb : b = #[] := Array.eq_empty_of_size_eq_zero h.2
   rw [ha, hb]
  subst h1
  exact ⟨.d _ _ (.str _), rfl⟩
 ·exact ⟨.nil _, rfl⟩
 ·exact ⟨.d _ _ .nilptr, rfl⟩
 ·exact ⟨.d _ _ .nilfunc, rfl⟩
 ·exact ⟨.d _ _ .nilIface, rfl⟩
 ·exact ⟨.d _ _ .nilmap, rfl⟩
 ·cases h
theorem zrsB_rel {c : Ctx} : ∀ {vs : List Value} {bs : List AV}, zrsB vs bs = true → vs.length = bs.length ∧ (∀ a ∈ bs, a.leaf = true) ∧ ∀ j (h : j < bs.length), VRel c (vs.getD j default) (bs[j])
 | [], [], _ => ⟨rfl, by simp, fun j h => by simp at h⟩
 | v :: vs, a :: bs, h => by
  simp only [zrsB, Bool.and_eq_true] at h
  obtain ⟨h1, h2, h3⟩ := zrsB_rel (c := c) h.2
  obtain ⟨h4, h5⟩ := zrB_rel (c := c) h.1
  refine ⟨by simp [h1], fun x hx => ?_, fun j hj => ?_⟩
  ·rcases List.mem_cons.1 hx with rfl | hx
   ·exact h5
   ·exact h2 x hx
  ·cases j with
   | zero => exact h4
   | succ j => exact h3 j (by simpa using hj)
 | [], _ :: _, h => by cases h
 | _ :: _, [], h => by cases h
section
variable {P : Program} {t : TypeId} {ti : TI} {i : TypeInfo} {d : TypeDesc} {z : Value} (w : World)
theorem TFacts.run_underlying (F : TFacts P t ti i d z) : (underlying t).run P w = .ok d w := Go.run_underlying F.und w
theorem TFacts.run_typeInfo (F : TFacts P t ti i d z) : (typeInfo t).run P w = .ok i w := by simp [typeInfo, F.info]
theorem TFacts.run_sizeOf (F : TFacts P t ti i d z) : (sizeOf t).run P w = .ok ti.sz w := by simp [sizeOf, F.run_typeInfo, F.size]
theorem TFacts.run_zeroValue (F : TFacts P t ti i d z) : (zeroValue t).run P w = .ok z w := by simp [zeroValue, F.run_typeInfo, F.zero]
theorem TFacts.run_isAgg (F : TFacts P t ti i d z) : (isAgg t).run P w = .ok ti.agg w := by
 have ha := F.agg
 unfold isAgg
 simp only [Sem.run_bind, F.run_underlying, Result.andThen_ok]
 cases d <;> simp [aggB] at ha <;> simp [← ha]
theorem TFacts.slice (F : TFacts P t ti i d z) {e : TypeId} (hk : ti.kind = .slice e) : d = .slice e := by
 have h := F.kind
 rw [hk] at h
 cases d <;> simp [kindB] at h
 rw [h]
theorem TFacts.elemInfo (F : TFacts P t ti i d z) {e : TypeId} (hk : ti.kind = .slice e) : ∃ j z, P.info? e = some j ∧ j.size = ti.esz ∧ j.bytes = ti.ebytes ∧ 0 < j.size ∧ j.bytes ≤ 4096 ∧ 0 < j.bytes ∧ j.zero = some z ∧ z.cells.size = j.size := by
 have h := F.elem
 rw [hk] at h
 simp only [elemB] at h
 split at h
 ·rename_i j hj
  simp only [Bool.and_eq_true, beq_iff_eq, decide_eq_true_eq] at h
  obtain ⟨⟨⟨⟨⟨h1, h2⟩, h3⟩, h4⟩, h5⟩, h6⟩ := h
  split at h6
  ·rename_i z hz
   exact ⟨j, z, hj, h1, h2, h3, h4, h5, hz, by simpa using h6⟩
  ·cases h6
 ·cases h
theorem TFacts.struct_field (F : TFacts P t ti i d z) {f o n : Nat} {g : Bool} (hf : ti.fields[f]? = some (o, n, g)) : ∃ fs fd, d = .struct fs ∧ fs[f]? = some fd ∧ fd.offset = o ∧ P.cellsOf fd.type = n ∧ (∃ j, P.info? fd.type = some j ∧ j.size = n) ∧ ∃ e, P.underlying fd.type = some e ∧ aggB e = g := by
 have h := F.struct
 unfold structB at h
 split at h
 ·rename_i fs
  have key : ∀ (l : List Field) (r : List (Nat × Nat × Bool)) (f : Nat), fieldsB P l r = true → r[f]? = some (o, n, g) → ∃ fd, l[f]? = some fd ∧ fd.offset = o ∧ P.cellsOf fd.type = n ∧ (P.info? fd.type).isSome = true ∧ ∃ e, P.underlying fd.type = some e ∧ aggB e = g := by
   intro l
   induction l with
   | nil => intro r f h hr; cases r <;> simp [fieldsB] at h; simp at hr
   | cons x l ih =>
    intro r f h hr
    cases r with
    | nil => simp [fieldsB] at h
    | cons y r =>
     obtain ⟨o', n', g'⟩ := y
     simp only [fieldsB, Bool.and_eq_true, beq_iff_eq] at h
     cases f with
     | zero =>
      simp at hr; obtain ⟨rfl, rfl, rfl⟩ := hr
      obtain ⟨⟨q1, q2, q3, q4⟩, _⟩ := h
      split at q4
      ·rename_i e he; exact ⟨x, rfl, q1, q2, q3, e, he, by simpa using q4⟩
      ·cases q4
     | succ f => obtain ⟨fd, h1, h2⟩ := ih r f h.2 (by simpa using hr); exact ⟨fd, by simpa using h1, h2⟩
  obtain ⟨fd, h1, h2, h3, h4, h5⟩ := key fs.toList ti.fields f h hf
  obtain ⟨j, hj⟩ := Option.isSome_iff_exists.1 h4
  refine ⟨fs, fd, rfl, by simpa using h1, h2, h3, ⟨j, hj, ?_⟩, h5⟩
  simpa [Program.cellsOf, hj] using h3
 ·have : ti.fields = [] := by simpa using h
  rw [this] at hf
  simp at hf
end

theorem addr_add (b o n : Nat) : (⟨b, o, none⟩ : Addr).add n = ⟨b, o + n, none⟩ := by unfold Addr.add; split <;> simp_all
/-! ### 2. The heap -/
theorem BRel.keep {c : Ctx} {w w' : World} {e : Ent} {b : Blk} (h : BRel c w e b) (hw : w'.heap[e.b]? = w.heap[e.b]?) : BRel c w' e b := by
 cases h with
 | frz x vs t hg h1 hv hn hl hH hr => exact .frz x vs t hg (hw.trans h1) hv hn hl hH hr
 | cells cs vs t hg h1 hn hl hr => exact .cells cs vs t hg (hw.trans h1) hn hl hr
 | arr sz xs vs t hg hs h1 hn hsz hl hr => exact .arr sz xs vs t hg hs (hw.trans h1) hn hsz hl hr
 | grow sz n vs t hg hs hn h1 hv hc => exact .grow sz n vs t hg hs hn (hw.trans h1) hv hc
 | garr sz xs vs t hg hn h1 hv hc hsz hl hr => exact .garr sz xs vs t hg hn (hw.trans h1) hv hc hsz hl hr
 | map es ms clock hg h1 hn hk hv => exact .map es ms clock hg (hw.trans h1) hn hk hv
theorem BRel.mono' {c c' : Ctx} {w : World} {e : Ent} {b : Blk} (h : BRel c w e b) (hH : c.H.le c'.H) (hent : ∀ lvl i e, c.ent lvl i = some e → ∃ e', c'.ent lvl i = some e' ∧ e.le e') : BRel c' w e b := by
 cases h with
 | frz x vs t hg h1 hv hn hl hk hr => exact .frz x vs t hg h1 (hH.2.2.1 _ hv) hn hl (fun j hj => hH.1 _ _ _ (hk j hj)) fun j hj => (hr j hj).mono hH
 | cells cs vs t hg h1 hn hl hr => exact .cells cs vs t hg h1 hn hl fun j hj => (hr j hj).mono' hH hent
 | arr sz xs vs t hg hs h1 hn hsz hl hr => exact .arr sz xs vs t hg hs h1 hn hsz hl fun j hj => (hr j hj).mono hH
 | grow sz n vs t hg hs hn h1 hv hc => exact .grow sz n vs t hg hs hn h1 hv hc
 | garr sz xs vs t hg hn h1 hv hc hsz hl hr => exact .garr sz xs vs t hg hn h1 hv hc hsz hl fun j hj => (hr j hj).mono hH
 | map es ms clock hg h1 hn hk hv => exact .map es ms clock hg h1 hn (fun j hj => (hk j hj).mono hH) fun j hj => (hv j hj).mono hH
theorem BRel.mono {c c' : Ctx} {w : World} {e : Ent} {b : Blk} (h : BRel c w e b) (hle : c.le c') : BRel c' w e b := h.mono' hle.H hle.ent
theorem BRel.unfz {c : Ctx} {w : World} {e : Ent} {b : Blk} (h : BRel c w e b) : ∀ cs t f, w.heap[e.b]? = some (.cells cs t f) → f = (0, 0) := by
 have key : ∀ {o cs t f}, w.heap[e.b]? = some o → w.heap[e.b]? = some (.cells cs t f) → (∀ cs' t' f', o = .cells cs' t' f' → f' = (0, 0)) → f = (0, 0) := by
  intro o cs t f h1 h2 h3
  rw [h1] at h2
  exact h3 _ _ _ (Option.some.inj h2)
 intro cs t f hc
 cases h with
 | map es ms clock hg h1 hn hk hv => exact key h1 hc fun _ _ _ e => by cases e
 | _ => rename_i h1 _ _ _; first | exact key (by assumption) hc fun _ _ _ e => by cases e; rfl
theorem BRel.lt {c : Ctx} {w : World} {e : Ent} {b : Blk} (h : BRel c w e b) : e.b < w.heap.size := by
 have key : ∀ o, w.heap[e.b]? = some o → e.b < w.heap.size := fun o h => (Array.getElem?_eq_some_iff.1 h).1
 cases h with
 | frz x vs t hg h1 hv hn hl hk hr => exact key _ h1
 | cells cs vs t hg h1 hn hl hr => exact key _ h1
 | arr sz xs vs t hg hs h1 hn hsz hl hr => exact key _ h1
 | grow sz n vs t hg hs hn h1 hv hc => exact key _ h1
 | garr sz xs vs t hg hn h1 hv hc hsz hl hr => exact key _ h1
 | map es ms clock hg h1 hn hk hv => exact key _ h1
/-- every entry has its block -/
theorem Ok.has {c : Ctx} {fr : Frs} {w : World} (h : Ok c fr w) {l i : Nat} {e : Ent} (he : c.ent l i = some e) : ∃ b, (fr[l]?).bind (fun r => r[i]?) = some b := by
 replace he := (Ctx.ent_iff.1 he).1
 obtain ⟨L, hL, hi⟩ := Option.bind_eq_some_iff.1 he
 have h1 := h.lens l
 have hl : l < c.ents.length := (List.getElem?_eq_some_iff.1 hL).1
 have hl' : l < fr.length := by rw [← h.len]; exact hl
 have hi' : i < L.length := (List.getElem?_eq_some_iff.1 hi).1
 rw [List.getD_eq_getElem?_getD, List.getD_eq_getElem?_getD, hL, List.getElem?_eq_getElem hl'] at h1
 simp at h1
 exact ⟨(fr[l])[i]'(by omega), by simp [List.getElem?_eq_getElem hl', List.getElem?_eq_getElem (show i < (fr[l]).length by omega)]⟩
def Blk.ng : Blk → Bool
 | .grow _ _ => false
 | .garr _ _ => false
 | .arr _ _ => false
 | .frz _ => false
 | _ => true
theorem Ok.raw {c : Ctx} {fr : Frs} {w : World} (h : Ok c fr w) {l i : Nat} {b : Blk} (hb : (fr[l]?).bind (fun r => r[i]?) = some b) : ∃ e, c.raw l i = some e := by
 obtain ⟨r, hr, hi⟩ := Option.bind_eq_some_iff.1 hb
 have h1 := h.lens l
 have hl : l < fr.length := (List.getElem?_eq_some_iff.1 hr).1
 have hl' : l < c.ents.length := by rw [h.len]; exact hl
 have hi' : i < r.length := (List.getElem?_eq_some_iff.1 hi).1
 rw [List.getD_eq_getElem?_getD, List.getD_eq_getElem?_getD, hr, List.getElem?_eq_getElem hl'] at h1
 simp at h1
 exact ⟨(c.ents[l])[i]'(by omega), by simp [Ctx.raw, List.getElem?_eq_getElem hl', List.getElem?_eq_getElem (show i < (c.ents[l]).length by omega)]⟩
/-- a block is there, or its place is kept -/
theorem Ok.ent' {c : Ctx} {fr : Frs} {w : World} (h : Ok c fr w) {l i : Nat} {b : Blk} (hb : (fr[l]?).bind (fun r => r[i]?) = some b) : (∃ e, c.ent l i = some e ∧ BRel (c.drop l) w e b) ∨ ∃ e, c.raw l i = some e ∧ e.gh = true ∧ b.gho e.sz ∧ e.n = 0 := by
 obtain ⟨e, he⟩ := h.raw hb
 cases hg : e.gh with
 | true => exact .inr ⟨e, he, hg, h.gho _ _ _ _ he hg hb⟩
 | false => exact .inl ⟨e, Ctx.ent_iff.2 ⟨he, hg⟩, h.blk _ _ _ _ (Ctx.ent_iff.2 ⟨he, hg⟩) hb⟩
theorem Ok.ent {c : Ctx} {fr : Frs} {w : World} (h : Ok c fr w) {l i : Nat} {b : Blk} (hb : (fr[l]?).bind (fun r => r[i]?) = some b) (hn : b.ng = true := by rfl) : ∃ e, c.ent l i = some e ∧ BRel (c.drop l) w e b := by
 rcases h.ent' hb with h | ⟨e, _, _, rfl | ⟨_, _, rfl⟩ | ⟨_, rfl⟩ | rfl, _⟩
 ·exact h
 all_goals cases hn
theorem Ok.lt {c : Ctx} {fr : Frs} {w : World} (h : Ok c fr w) {l i : Nat} {e : Ent} (he : c.ent l i = some e) : e.b < w.heap.size := by
 obtain ⟨b, hb⟩ := h.has he
 exact (h.blk _ _ _ _ he hb).lt
theorem blk_bind (fr : Frs) (l i : Nat) : blk fr l i = (fr[l]?).bind fun r => r[i]? := by unfold blk; cases fr[l]? <;> rfl
theorem Models.cell_lt {w : World} {H : Imm} (h : Models w H) {b j : Nat} {v : Value} (hc : H.cell b j = some v) : b < w.heap.size := by
 have := h.1 _ _ _ hc
 exact World.block_lt_of_cell? w ⟨b, j, none⟩ this
/-- Models, behind a change of one block of which H knows nothing -/
theorem Models.off {w w' : World} {H : Imm} (h : Models w H) (g : Nat) (hg : ∀ j, H.cell g j = none) (ho : H.obj g = none) (hv : H.var g = false) (hw : ∀ b, b ≠ g → w.heap[b]? = w'.heap[b]? ∨ w.heap[b]? = none)
  (hs : w.heap.size ≤ w'.heap.size) (hf : ∀ c t f, w'.heap[g]? = some (.cells c t f) → f = (0, 0)) : Models w' H := by
 refine ⟨fun b j v hc => ?_, fun b o hb => ?_, fun b hb => ?_, fun b hb => ?_⟩
 ·have hne : b ≠ g := fun e => by subst e; rw [hg] at hc; cases hc
  have h1 := h.1 _ _ _ hc
  rcases hw b hne with e | e
  ·unfold World.cell? at h1 ⊢; rw [← e]; exact h1
  ·unfold World.cell? at h1; simp [e] at h1
 ·have hne : b ≠ g := fun e => by subst e; rw [ho] at hb; cases hb
  obtain ⟨h1, h2⟩ := h.2.1 _ _ hb
  rcases hw b hne with e | e
  ·exact ⟨e ▸ h1, h2⟩
  ·rw [e] at h1; cases h1
 ·have hne : b ≠ g := fun e => by subst e; rw [hv] at hb; cases hb
  obtain ⟨cc, t, h1⟩ := h.2.2.1 _ hb
  rcases hw b hne with e | e
  ·exact ⟨cc, t, e ▸ h1⟩
  ·rw [e] at h1; cases h1
 ·obtain ⟨h1, h2⟩ := h.2.2.2 _ hb
  refine ⟨Nat.lt_of_lt_of_le h1 hs, fun c t f hc => ?_⟩
  by_cases hne : b = g
  ·subst hne; exact hf c t f hc
  ·rcases hw b hne with e | e
   ·exact h2 c t f (e.trans hc)
   ·rw [Array.getElem?_eq_getElem h1] at e; cases e
end Go.Proofs.Ytemfpemejagndaa.Fw

