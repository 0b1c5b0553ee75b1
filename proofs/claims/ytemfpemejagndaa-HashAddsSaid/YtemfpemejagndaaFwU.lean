/- Places that are kept, blocks that are frozen, what a function hands back. -/
import Derived.Test.YtemfpemejagndaaFwT
set_option autoImplicit false
set_option linter.unusedVariables false
set_option linter.unusedSimpArgs false
namespace Go.Proofs.Ytemfpemejagndaa.Fw
open Go Go.RowKit

theorem wk.hold (l i sz : Nat) : wk (.nil sz) (.own l i sz []) := ⟨fun c v hv => by cases hv with | nil _ => exact .own0 none l i sz⟩
section
variable {T : TT} {P : Program} {N : Nat} {ds : Fix} {js : List Nat} {c : Ctx} {s : Env} {fr : Frs} {a : Act} {w : World}

/-! ### 1. Before a call -/
theorem Said.step {f : FuncId} {args args' : List AV} {fr fr' : Frs} {R : Out → List Blk → Frs → Prop} (h : Said P f args' fr' R) (hl : args'.length = args.length)
  (k : ∀ (c : Ctx) (w : World) (vs : List Value), Ok c fr w → c.B ≤ w.heap.size → vs.length = args.length → (∀ j (h : j < args.length), VRel c (vs.getD j default) (args[j])) →
   ∃ c', c.le c' ∧ Ok c' fr' w ∧ ∀ j (h : j < args'.length), VRel c' (vs.getD j default) (args'[j])) : Said P f args fr R := by
 refine ⟨fun c w vs hok hB hn hr => ?_⟩
 obtain ⟨c', k1, k2, k3⟩ := k c w vs hok hB hn hr
 refine (h.out c' w vs k2 (by rw [k1.B]; exact hB) (by omega) k3).mono ?_
 rintro e w' ⟨o, ls, fr2, c2, h1, h2, h3, h4, h5⟩
 exact ⟨o, ls, fr2, c2, h1, h2, k1.trans h3, h4, h5⟩
def WkAll : List AV → List AV → Prop
 | [], [] => True
 | x :: xs, y :: ys => wk x y ∧ WkAll xs ys
 | _, _ => False
theorem WkAll.spec : ∀ {xs ys : List AV}, WkAll xs ys → ys.length = xs.length ∧ ∀ j (h : j < xs.length) (h' : j < ys.length), wk xs[j] ys[j]
 | [], [], _ => ⟨rfl, fun j h => by simp at h⟩
 | x :: xs, y :: ys, h => by
  obtain ⟨h1, h2⟩ := WkAll.spec h.2
  refine ⟨by simp [h1], fun j hj hj' => ?_⟩
  cases j with
  | zero => exact h.1
  | succ j => exact h2 j (by simpa using hj) (by simpa using hj')
 | [], _ :: _, h => h.elim
 | _ :: _, [], h => h.elim
def leafs : List AV → Bool
 | [] => true
 | y :: r => match y.leaf with | true => leafs r | false => false
theorem leafs_spec : ∀ {l : List AV}, leafs l = true → ∀ y ∈ l, y.leaf = true
 | [], _, y, hy => by cases hy
 | x :: r, h, y, hy => by
  simp only [leafs] at h
  split at h
  ·rename_i hx
   rcases List.mem_cons.1 hy with rfl | hy
   ·exact hx
   ·exact leafs_spec h y hy
  ·cases h
theorem said_args {f : FuncId} {args args' : List AV} {fr : Frs} {R : Out → List Blk → Frs → Prop} (h : Said P f args' fr R) (hw : WkAll args args') : Said P f args fr R :=
 h.step hw.spec.1 fun c w vs hok hB hn hr => ⟨c, Ctx.le.refl c, hok, fun j hj => (hw.spec.2 j (by have := hw.spec.1; omega) hj).out _ _ (hr j (by have := hw.spec.1; omega))⟩
/-! ### 2. Freezing -/
theorem Ok.freezeX {L : List Blk} {rest : Frs} (hok : Ok c (L :: rest) w) {i : Nat} {b0 : Blk} {x : D} (hi : L[i]? = some b0) (hng : b0.ng = true ∨ ∃ e, c.ent 0 i = some e)
  (hx : ∀ e, c.ent 0 i = some e → BRel c w e b0 → ∃ (vs : List Value) (t : TypeId), (e.g = false ∧ e.n = 0) ∧ w.heap[e.b]? = some (.cells vs.toArray t (0, 0)) ∧ x.cells.length ≤ vs.length ∧ (∀ y ∈ x.cells, y.leaf = true) ∧ ∀ j (h : j < x.cells.length), DRel c.H (vs.getD j default) (x.cells[j])) :
  ∃ c', c.le c' ∧ Ok c' (L.set i (.frz x) :: rest) w := by
 have hlt : i < L.length := (List.getElem?_eq_some_iff.1 hi).1
 obtain ⟨e, he, hbr⟩ : ∃ e, c.ent 0 i = some e ∧ BRel (c.drop 0) w e b0 := by
  rcases hng with hng | ⟨e, he⟩
  ·exact hok.ent (l := 0) (i := i) (b := b0) (by simpa using hi) hng
  ·exact ⟨e, he, hok.blk 0 i e b0 he (by simpa using hi)⟩
 rw [Ctx.drop_zero] at hbr
 obtain ⟨vs, t, hg, hw, hn, hl, hr⟩ := hx e he hbr
 obtain ⟨heR, hegh⟩ := Ctx.ent_iff.1 he
 obtain ⟨E, hE, hEi⟩ := Option.bind_eq_some_iff.1 heR
 have hEl : i < E.length := (List.getElem?_eq_some_iff.1 hEi).1
 have hfar := hok.far _ _ _ he fun _ => hg.2
 have hnone : ∀ j, c.H.cell e.b j = none := fun j => by
  cases hc : c.H.cell e.b j with
  | none => rfl
  | some v => have := (hfar.1 _ _ hc).1; rw [hg.1] at this; cases this
 let H' : Imm := { cell := fun b j => if b = e.b then vs[j]? else c.H.cell b j, obj := c.H.obj, var := fun b => if b = e.b then true else c.H.var b, base := c.H.base, wr := c.H.wr }
 have hle : c.H.le H' := ⟨fun b j v h => (by
  show (if b = e.b then vs[j]? else c.H.cell b j) = some v
  rw [if_neg]
  ·exact h
  ·intro hb; subst hb; rw [hnone] at h; cases h), fun b o h => h, fun b h => (by
  show (if b = e.b then true else c.H.var b) = true
  split
  ·rfl
  ·exact h), rfl, fun _ h => h⟩
 have hge := hok.ge _ _ _ he
 have hext : c.H.ext H' c.free := by
  refine ⟨hle, fun b j v h => ?_, fun b o h => .inl h, fun b h => ?_⟩
  ·by_cases hb : b = e.b
   ·subst hb; exact .inr hge
   ·have h : (if b = e.b then vs[j]? else c.H.cell b j) = some v := h
    rw [if_neg hb] at h; exact .inl h
  ·by_cases hb : b = e.b
   ·subst hb; exact .inr hge
   ·have h : (if b = e.b then true else c.H.var b) = true := h
    rw [if_neg hb] at h; exact .inl h
 have hmod : Models w H' := by
  refine ⟨fun b j v h => ?_, hok.mod.2.1, fun b h => ?_, hok.mod.2.2.2⟩
  ·by_cases hb : b = e.b
   ·subst hb
    have h : (if e.b = e.b then vs[j]? else c.H.cell e.b j) = some v := h
    rw [if_pos rfl] at h
    rw [cell_of_heap hw]; exact h
   ·have h : (if b = e.b then vs[j]? else c.H.cell b j) = some v := h
    rw [if_neg hb] at h; exact hok.mod.1 _ _ _ h
  ·by_cases hb : b = e.b
   ·subst hb; exact ⟨_, _, hw⟩
   ·have h : (if b = e.b then true else c.H.var b) = true := h
    rw [if_neg hb] at h; exact hok.mod.2.2.1 _ h
 let e' : Ent := { e with n := 1 }
 have he'g : e'.gh = false := Ent.gh_var hg.1
 have hele : e.le e' := ⟨rfl, rfl, by show e.n ≤ 1; omega, fun h => by have : (1 : Nat) = e.n := h; omega, fun _ => rfl, fun _ => he'g⟩
 have hraw := Ctx.raw_set (c := c) (e' := e') hE hEl
 have hent := Ctx.ent_set (c := c) (e' := e') hE hEl he'g
 let c' : Ctx := { c with H := H', ents := c.ents.set 0 (E.set i e') }
 have hrw : ∀ l k, c'.raw l k = if l = 0 ∧ k = i then some e' else c.raw l k := hraw
 have hen : ∀ l k, c'.ent l k = if l = 0 ∧ k = i then some e' else c.ent l k := hent
 have hcle : c.le c' := by
  refine ⟨rfl, rfl, rfl, hext, fun l k e1 h1 => ?_⟩
  rw [hrw]
  split
  ·rename_i hh
   obtain ⟨rfl, rfl⟩ := hh
   rw [heR] at h1; injection h1 with h1; subst h1
   exact ⟨e', rfl, hele⟩
  ·exact ⟨e1, h1, Ent.le.refl e1⟩
 have hset : ∀ l k, ((L.set i (.frz x) :: rest)[l]?).bind (fun r => r[k]?) = if l = 0 ∧ k = i then some (.frz x) else ((L :: rest)[l]?).bind fun r => r[k]? := by
  intro l k
  have := getElem?_set2 (L :: rest) 0 i L (.frz x) rfl hlt l k
  simpa using this
 have hback : ∀ l k e1, c'.ent l k = some e1 → ∃ e0, c.ent l k = some e0 ∧ e0.b = e1.b ∧ (¬ (l = 0 ∧ k = i) → e0 = e1) := fun l k e1 h1 => by
  rw [hen] at h1
  split at h1
  ·rename_i hh
   obtain ⟨rfl, rfl⟩ := hh
   injection h1 with h1; subst h1
   exact ⟨e, he, rfl, fun h => absurd ⟨rfl, rfl⟩ h⟩
  ·exact ⟨e1, h1, rfl, fun _ => rfl⟩
 refine ⟨c', hcle, ⟨?_, fun l => ?_, fun l k e1 b h1 hb => ?_, fun l k e1 b h1 hg1 hb => ?_, fun l k e1 l' k' e1' h1 h1' hbb => ?_, fun l k e1 h1 => ?_, fun l k e1 h1 hfz => ?_, hmod, hok.below, hok.yng⟩⟩
 ·have := hok.len; simpa [c'] using this
 ·have hs2 : ∀ l, ((c.ents.set 0 (E.set i e')).getD l []).length = (c.ents.getD l []).length := set2_lens c.ents 0 i E e' hE
  show ((c.ents.set 0 (E.set i e')).getD l []).length = _
  rw [hs2]
  cases l with
  | zero => simpa using hok.lens 0
  | succ l => simpa using hok.lens (l + 1)
 ·rw [hset] at hb
  split at hb
  ·rename_i hh
   obtain ⟨rfl, rfl⟩ := hh
   injection hb with hb; subst hb
   rw [hen, if_pos ⟨rfl, rfl⟩] at h1
   injection h1 with h1; subst h1
   rw [Ctx.drop_zero]
   refine .frz x vs t ⟨hg.1, by show 0 < 1; omega⟩ hw ?_ (by omega) hl (fun j hj => ?_) fun j hj => ?_
   ·show (if e.b = e.b then true else c.H.var e.b) = true
    rw [if_pos rfl]
   ·show (if e.b = e.b then vs[j]? else c.H.cell e.b j) = _
    rw [if_pos rfl]; exact getD_some (by omega)
   ·exact (hr j hj).mono hle
  ·rename_i hh
   obtain ⟨e0, h0, hb0, heq⟩ := hback _ _ _ h1
   obtain rfl := heq hh
   exact (hok.blk l k e0 b h0 hb).mono (hcle.drop l)
 ·rw [hset] at hb
  rw [hrw] at h1
  split at h1
  ·injection h1 with h1; subst h1; rw [he'g] at hg1; cases hg1
  ·rename_i hh
   rw [if_neg hh] at hb
   exact hok.gho l k e1 b h1 hg1 hb
 ·obtain ⟨e0, h0, hb0, _⟩ := hback _ _ _ h1
  obtain ⟨e0', h0', hb0', _⟩ := hback _ _ _ h1'
  exact hok.inj _ _ _ _ _ _ h0 h0' (by rw [hb0, hb0']; exact hbb)
 ·obtain ⟨e0, h0, hb0, _⟩ := hback _ _ _ h1
  rw [← hb0]; exact hok.ge _ _ _ h0
 ·by_cases hh : l = 0 ∧ k = i
  ·rw [hen, if_pos hh] at h1
   injection h1 with h1; subst h1
   have := hfz hg.1
   cases this
  ·rw [hen, if_neg hh] at h1
   have hne : e1.b ≠ e.b := fun hbb => hh (hok.inj _ _ _ _ _ _ h1 he hbb)
   obtain ⟨f1, f2, f3⟩ := hok.far _ _ _ h1 hfz
   refine ⟨fun j v hc => ?_, f2, ?_⟩
   ·have hc : (if e1.b = e.b then vs[j]? else c.H.cell e1.b j) = some v := hc
    rw [if_neg hne] at hc; exact f1 _ _ hc
   ·show (if e1.b = e.b then true else c.H.var e1.b) = false
    rw [if_neg hne]; exact f3
theorem Ok.freeze {L : List Blk} {rest : Frs} (hok : Ok c (L :: rest) w) {i : Nat} {cs : List AV} {x : D} (hi : L[i]? = some (.cells cs)) (hp : pures cs = some x.cells) :
  ∃ c', c.le c' ∧ Ok c' (L.set i (.frz x) :: rest) w :=
 hok.freezeX hi (.inl rfl) fun e he hbr => by
  cases hbr with | cells _ vs t hg hw hn hl hr =>
  obtain ⟨p1, p2⟩ := pures_some hp
  refine ⟨vs, t, hg, hw, by omega, fun q hq => ?_, fun j hj => (hr j (by omega)).pure _ (p2 j (by omega) hj)⟩
  obtain ⟨j, hj, rfl⟩ := List.mem_iff_getElem.1 hq
  rw [pure_leaf (p2 j (by omega) hj)]
  exact hl _ (List.getElem_mem _)
theorem said_freeze (i : Nat) (x : D) {cs : List AV} {f : FuncId} {args : List AV} {L : List Blk} {rest : Frs} {R : Out → List Blk → Frs → Prop} (h : Said P f args (L.set i (.frz x) :: rest) R)
  (hi : L[i]? = some (.cells cs)) (hp : pures cs = some x.cells) : Said P f args (L :: rest) R :=
 h.step rfl fun c w vs hok hB hn hr => by
  obtain ⟨c', k1, k2⟩ := hok.freeze hi hp
  exact ⟨c', k1, k2, fun j hj => (hr j hj).mono k1⟩
/-- a function value of data is a datum -/
def AV.fzf (fn : Fn) (bs cs : List AV) : AV := match pures bs, pures cs with
 | some bs, some cs => .d (.func fn bs cs)
 | _, _ => .func fn bs cs
mutual
/-- pointers to what is frozen are data -/
def AV.fzp (L : List Blk) : AV → AV
 | .ptr 0 i 0 => match L[i]? with | some (.frz x) => .d (.ptr x) | _ => .ptr 0 i 0
 | .func fn bs cs => AV.fzf fn (AV.fzps L bs) (AV.fzps L cs)
 | .iface t x => .iface t (AV.fzp L x)
 | .agg cs => .agg (AV.fzps L cs)
 | .tuple cs => .tuple (AV.fzps L cs)
 | x => x
def AV.fzps (L : List Blk) : List AV → List AV
 | [] => []
 | x :: r => AV.fzp L x :: AV.fzps L r
end
theorem AV.fzps_eq (L : List Blk) (l : List AV) : AV.fzps L l = l.map (AV.fzp L) := by induction l with | nil => rfl | cons x r ih => simp [AV.fzps, ih]
theorem AV.fzf_leaf (fn : Fn) (bs cs : List AV) : (AV.fzf fn bs cs).leaf = true := by
 unfold AV.fzf; split <;> rfl
theorem AV.fzp_leaf (L : List Blk) (x : AV) : (x.fzp L).leaf = x.leaf := by
 unfold AV.fzp
 split <;> first | rfl | exact AV.fzf_leaf _ _ _ | (split <;> rfl)
theorem VRel.fzf {v : Value} {fn : Fn} {bs cs : List AV} (h : VRel c v (.func fn bs cs)) : VRel c v (AV.fzf fn bs cs) := by
 unfold AV.fzf
 split
 ·rename_i bs' cs' h1 h2
  exact .d _ _ (h.pure _ (by simp [pure?, pure_go, h1, h2]))
 ·exact h
theorem VRel.fzp {L : List Blk} {rest : Frs} (hok : Ok c (L :: rest) w) {v : Value} {x : AV} (h : VRel c v x) : VRel c v (x.fzp L) := by
 induction h with
 | ptr lvl i off e he hg =>
  unfold AV.fzp
  split
  ·rename_i i' heq
   injection heq with h1 h2 h3
   subst h1; subst h2; subst h3
   split
   ·rename_i x hx
    have hbr := hok.blk 0 i e (.frz x) he (by simpa using hx)
    rw [Ctx.drop_zero] at hbr
    cases hbr with | frz _ vs t hg' hw hv hn hl hk hr =>
    exact .d _ _ (.ptr x e.b 0 (fun j => vs.getD j default) hv (fun j hj => by rw [Nat.zero_add]; exact hk j hj) hl hr)
   ·exact .ptr _ _ _ e he hg
  all_goals first | exact .ptr _ _ _ e he hg | (rename_i heq; cases heq)
 | undef v => exact .undef v
 | d v x h => exact .d v x h
 | nil sz => exact .nil sz
 | full a sz xs h => exact .full a sz xs h
 | own a cap lvl i sz xs e h he hg hs hn hcc => exact .own a cap lvl i sz xs e h he hg hs hn hcc
 | own0 a lvl i sz => exact .own0 a lvl i sz
 | arr cap lvl i off len sz e he hg hs hcap => exact .arr cap lvl i off len sz e he hg hs hcap
 | arr0 a lvl i off sz => exact .arr0 a lvl i off sz
 | garr0 a lvl i sz => exact .garr0 a lvl i sz
 | garr a cap lvl i n sz e he hg hn hcc => exact .garr a cap lvl i n sz e he hg hn hcc
 | eptr lvl i k off e he hg => exact .eptr lvl i k off e he hg
 | win cap lvl i off len e he hg hc => exact .win cap lvl i off len e he hg hc
 | pel x off b o vals h1 hl hr => exact .pel x off b o vals h1 hl hr
 | vp a x h => exact .vp a x h
 | map lvl i e he hg => exact .map lvl i e he hg
 | func fn us vs bs cs hm hn hq hr ihq ih => simp only [AV.fzp, AV.fzps_eq]; exact VRel.fzf (.func fn us vs _ _ (by simpa using hm) (by simpa using hn) (fun j hj => by simpa using ihq j (by simpa using hj)) fun j hj => by simpa using ih j (by simpa using hj))
 | iface t v x h ih => exact .iface t v _ ih
 | agg vs cs hn hl' hr ih => simp only [AV.fzp, AV.fzps_eq]; exact .agg vs _ (by simpa using hn) (by simpa [AV.fzp_leaf] using hl') fun j hj => by simpa using ih j (by simpa using hj)
 | tuple vs cs hn hr ih => simp only [AV.fzp, AV.fzps_eq]; exact .tuple vs _ (by simpa using hn) fun j hj => by simpa using ih j (by simpa using hj)
theorem said_fzp {f : FuncId} {args args' : List AV} {L : List Blk} {rest : Frs} {R : Out → List Blk → Frs → Prop} (h : Said P f args' (L :: rest) R) (ha : AV.fzps L args = args') : Said P f args (L :: rest) R := by
 subst ha
 refine h.step (by simp [AV.fzps_eq]) fun c w vs hok hB hn hr => ⟨c, Ctx.le.refl c, hok, fun j hj => ?_⟩
 have hj' : j < args.length := by simpa [AV.fzps_eq] using hj
 have := (hr j hj').fzp hok
 simpa [AV.fzps_eq] using this
end
end Go.Proofs.Ytemfpemejagndaa.Fw

