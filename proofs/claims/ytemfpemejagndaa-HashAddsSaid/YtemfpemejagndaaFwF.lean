/- Soundness: operations, statements, code. -/
import Derived.Test.YtemfpemejagndaaFwE
set_option autoImplicit false
set_option linter.unusedVariables false
set_option linter.unusedSimpArgs false
namespace Go.Proofs.Ytemfpemejagndaa.Fw
open Go Go.RowKit Go.WideShapes

section
variable {T : TT} {P : Program} {N : Nat} {ds : Fix} {c : Ctx} {s : Env} {fr : Frs} {a : Act} {w : World}

/-- what an operation does -/
def Acts (P : Program) (c : Ctx) (w : World) (x : Sem Next) (K : AV → Frs → Prop) : Prop :=
 ∃ nx v w' c' fr' r, x.run P w = .ok nx w' ∧ (nx = .value v ∨ nx = .skip ∧ v = undef) ∧ c.le c' ∧ Ok c' fr' w' ∧ w.heap.size ≤ w'.heap.size ∧ VRel c' v r ∧ K r fr'
theorem acts_of {x : Sem Value} {K : AV → Frs → Prop} (hok : Ok c fr w) (h : ∃ v r, x.run P w = .ok v w ∧ VRel c v r ∧ K r fr) : Acts P c w (do pure (.value (← x))) K := by
 obtain ⟨v, r, h1, h2, h3⟩ := h
 exact ⟨.value v, v, w, c, fr, r, by simp [h1], .inl rfl, Ctx.le.refl c, hok, Nat.le_refl _, h2, h3⟩
theorem acts_does {x : Sem Value} {K : AV → Frs → Prop} (h : Does P c w x K) : Acts P c w (do pure (.value (← x))) K := by
 obtain ⟨v, w', c', fr', r, h1, h0, h2, h3, h4, h5⟩ := h
 exact ⟨.value v, v, w', c', fr', r, by simp [h1], .inl rfl, h2, h3, h0, h4, h5⟩
theorem withT_spec {t : TypeId} {K : TI → Prop} (hT : T.okB P = true) (h : withT T t K) : ∃ ti i d z, TFacts P t ti i d z ∧ K ti := by
 unfold withT at h
 split at h
 ·rename_i ti hti
  obtain ⟨i, d, z, F⟩ := TI.facts (TT.get_ok hT hti)
  exact ⟨ti, i, d, z, F, h⟩
 ·exact h.elim
theorem newK_spec {fr : Frs} {b : Blk} {K : Nat → Frs → Prop} (h : newK fr b K) : ∃ l r, fr = l :: r ∧ K l.length ((l ++ [b]) :: r) := by
 unfold newK at h
 split at h
 ·exact ⟨_, _, rfl, h⟩
 ·exact h.elim
theorem allLeaf_spec : ∀ {l : List AV}, allLeaf l = true → ∀ x ∈ l, x.leaf = true
 | [], _, x, hx => by cases hx
 | y :: r, h, x, hx => by
  simp only [allLeaf] at h
  split at h
  ·rename_i hy
   rcases List.mem_cons.1 hx with rfl | hx
   ·exact hy
   ·exact allLeaf_spec h x hx
  ·cases h
theorem VRel.bool_inv {v : Value} {b : Bool} (h : VRel c v (.d (.bool b))) : v = .bool b := by
 cases h with | d _ _ h => cases h; rfl
theorem VRel.int_inv {v : Value} {k : IntKind} {n : Int} (h : VRel c v (.d (.int k n))) : v = .int k n := by
 cases h with | d _ _ h => cases h; rfl
theorem evs_rel (hs : St N ds c s fr a w) (l : List Operand) : ∀ j (h : j < (l.map (ev s)).length), VRel c ((l.map a.eval).getD j default) ((l.map (ev s))[j]) := by
 intro j h
 have hj : j < l.length := by simpa using h
 rw [List.getElem_map, List.getD_eq_getElem?_getD, List.getElem?_map, List.getElem?_eq_getElem hj]
 exact hs.ev _
theorem orel (hs : St N ds c s fr a w) (o : Option Operand) : ORel c (o.map a.eval) (o.map (ev s)) := by
 cases o with
 | none => exact .none
 | some x => exact .some _ _ (hs.ev x)
set_option maxHeartbeats 2000000 in
/-- every operation but the calls of functions -/
theorem op_sound (hT : T.okB P = true) (hs : St N ds c s fr a w) (o : Oper) (hcall : ∀ cl, o.op ≠ .call cl) {K : AV → Frs → Prop} {Qp : AV → Frs → Prop} (h : aop T P o.op o.type s fr K Qp) : Acts P c w (execOp a.eval o) K := by
 obtain ⟨dst, op, ty, pos, after, guard⟩ := o
 have hok := hs.ok
 cases op <;> simp only [aop] at h <;> (try exact h.elim) <;> simp only [execOp]
 case move x => exact ⟨_, _, w, c, fr, _, rfl, .inl rfl, Ctx.le.refl c, hok, Nat.le_refl _, hs.ev x, h⟩
 case assign x =>
  split at h
  ·exact ⟨_, _, w, c, fr, _, rfl, .inl rfl, Ctx.le.refl c, hok, Nat.le_refl _, fixNil_rel (hs.ev x), h⟩
  ·exact ⟨_, _, w, c, fr, _, rfl, .inl rfl, Ctx.le.refl c, hok, Nat.le_refl _, hs.ev x, h⟩
 case pick x y z =>
  have hx := hs.ev x
  split at h
  ·rename_i q he
   rw [he] at hx
   have hv := hx.bool_inv
   cases q with
   | true => exact ⟨_, _, w, c, fr, _, by simp [hv, asBool], .inl rfl, Ctx.le.refl c, hok, Nat.le_refl _, hs.ev y, h⟩
   | false => exact ⟨_, _, w, c, fr, _, by simp [hv, asBool], .inl rfl, Ctx.le.refl c, hok, Nat.le_refl _, hs.ev z, h⟩
  ·exact h.elim
 case alloc t =>
  obtain ⟨ti, i, d, z, F, h⟩ := withT_spec hT h
  obtain ⟨l, r, rfl, h⟩ := newK_spec h
  obtain ⟨h1, h2, h3⟩ := zrsB_rel (c := c) F.zcells
  obtain ⟨c', k1, k2, k3, k4⟩ := s_new hok hs.B (v := z) (vs := z.cells.toList) (cs := ti.zero) (by simp) h1 h2 h3 t
  refine ⟨_, _, _, c', _, _, ?_, .inl rfl, k1, k3, by simp, k4, h⟩
  simp [Instr.alloc, F.run_zeroValue, run_newVar]
 case box t x =>
  obtain ⟨ti, i, d, z, F, h⟩ := withT_spec hT h
  split at h
  ·rename_i hl
   obtain ⟨l, r, rfl, h⟩ := newK_spec h
   have hx := fixNil_rel (ti := ti) (hs.ev x)
   obtain ⟨vs, v1, v2, v3⟩ := hx.cells (allLeaf_spec hl)
   obtain ⟨c', k1, k2, k3, k4⟩ := s_new hok hs.B v1 v2 (allLeaf_spec hl) v3 t
   refine ⟨_, _, _, c', _, _, ?_, .inl rfl, k1, k3, by simp, k4, h⟩
   simp [Instr.box, run_newVar]
  ·exact h.elim
 case build t parts =>
  obtain ⟨ti, i, d, z, F, h⟩ := withT_spec hT h
  have hr := evs_rel hs (parts.toList.map (·.2))
  simp only [List.map_map, Function.comp_def] at hr
  obtain ⟨v, r, h1, h2, h3⟩ := s_build (w := w) F (vs := parts.toList.map fun p => a.eval p.2) (by simp) (by simp) hr h
  have e : (parts.map fun (i, x) => (i, a.eval x)) = ((parts.toList.map (·.1)).zip (parts.toList.map fun p => a.eval p.2)).toArray := by
   apply Array.ext'
   rw [Array.toList_map]
   simp only [List.zip_map', List.map_inj_left]
  rw [e]
  exact acts_of hok ⟨v, r, h1, h2, h3⟩
 case buildSlice t len parts =>
  obtain ⟨ti, i, d, z, F, h⟩ := withT_spec hT h
  split at h
  ·rename_i hio
   have hr : ∀ j (h : j < (parts.toList.map fun p => ev s p.2).length), VRel c ((parts.toList.map fun p => a.eval p.2).getD j default) ((parts.toList.map fun p => ev s p.2)[j]) := by
    have hr := evs_rel hs (parts.toList.map (·.2))
    simpa only [List.map_map, Function.comp_def] using hr
   have e : (parts.map fun (i, x) => (i, a.eval x)) = (((parts.toList.map fun p => a.eval p.2).zipIdx 0).map fun p => (p.2, p.1)).toArray := by
    apply Array.ext'
    rw [← inOrder_spec hio]
    simp
   rw [e]
   have hd := s_lit F hok hs.B (vs := parts.toList.map fun p => a.eval p.2) (len := len) (by simp) hr h
   generalize Instr.buildSlice t len (((parts.toList.map fun p => a.eval p.2).zipIdx 0).map fun p => (p.2, p.1)).toArray = X at hd ⊢
   exact acts_does hd
  ·exact h.elim
 case load t x =>
  obtain ⟨ti, i, d, z, F, h⟩ := withT_spec hT h
  exact acts_of hok (s_load F hok (hs.ev x) h)
 case store t x y =>
  obtain ⟨ti, i, d, z, F, h⟩ := withT_spec hT h
  obtain ⟨w', fr', h1, h2, h3, h4⟩ := s_store F hok (hs.ev x) (hs.ev y) h
  exact ⟨.skip, undef, w', c, fr', .undef, by simp only [Sem.run_bind, h1, Result.andThen_ok, Sem.run_pure], .inr ⟨rfl, rfl⟩, Ctx.le.refl c, h2, Nat.le_of_eq h4, .undef _, h3⟩
 case nilCheck x =>
  have hx := hs.ev x
  generalize ev s x = y at h hx
  generalize a.eval x = v at hx ⊢
  unfold anilCheck at h
  split at h
  ·have hx' := hx
   cases hx; exact ⟨_, _, w, c, fr, _, rfl, .inl rfl, Ctx.le.refl c, hok, Nat.le_refl _, hx', h⟩
  ·have hx' := hx
   cases hx; exact ⟨_, _, w, c, fr, _, rfl, .inl rfl, Ctx.le.refl c, hok, Nat.le_refl _, hx', h⟩
  ·have hx' := hx
   cases hx; exact ⟨_, _, w, c, fr, _, rfl, .inl rfl, Ctx.le.refl c, hok, Nat.le_refl _, hx', h⟩
  ·have hx' := hx
   cases hx; exact ⟨_, _, w, c, fr, _, rfl, .inl rfl, Ctx.le.refl c, hok, Nat.le_refl _, hx', h⟩
  ·have hx' := hx
   cases hx with | d _ _ hx =>
   cases hx; exact ⟨_, _, w, c, fr, _, rfl, .inl rfl, Ctx.le.refl c, hok, Nat.le_refl _, hx', h⟩
  ·have hx' := hx
   cases hx; exact ⟨_, _, w, c, fr, _, rfl, .inl rfl, Ctx.le.refl c, hok, Nat.le_refl _, hx', h⟩
  ·exact h.elim
 case binOp op t x y yt =>
  obtain ⟨ti, i, d, z, F, h⟩ := withT_spec hT h
  exact acts_of hok (s_abinP F op (hs.ev x) (hs.ev y) x y h)
 case makeMap t q =>
  cases q with
  | some q => exact h.elim
  | none =>
   obtain ⟨l, r, rfl, h1⟩ := newK_spec h
   exact acts_does (s_makeMap hok hs.B t h)
 case lookup t m k ok =>
  obtain ⟨ti, i, d, z, F, h⟩ := withT_spec hT h
  split at h
  ·rename_i kt et hk
   obtain ⟨te, ie, de, ze, Fe, h⟩ := withT_spec hT h
   obtain ⟨tk, ik, dk, zk, Fk, h⟩ := withT_spec hT h
   split at h
   ·rename_i kd hkd
    exact acts_of hok (s_lookup F hk Fe Fk.und hok (hs.ev m) (hs.ev k) hkd ok h)
   ·exact h.elim
  ·exact h.elim
 case insert t m k x =>
  obtain ⟨ti, i, d, z, F, h⟩ := withT_spec hT h
  split at h
  ·rename_i kt et hk
   obtain ⟨te, ie, de, ze, Fe, h⟩ := withT_spec hT h
   obtain ⟨tk, ik, dk, zk, Fk, h⟩ := withT_spec hT h
   split at h
   ·rename_i l q hm
    split at h
    ·rename_i es kd xd hb hkd hxd
     have hmv := hs.ev m
     rw [hm] at hmv
     obtain ⟨w', fr', h1, h2, h3, h4⟩ := s_mapUpdate F hk ⟨_, Fk.und⟩ hok hmv (hs.ev k) hkd (hs.ev x) hxd hb h
     exact ⟨.skip, undef, w', c, fr', .undef, by simp only [Sem.run_bind, h1, Result.andThen_ok, Sem.run_pure], .inr ⟨rfl, rfl⟩, Ctx.le.refl c, h2, Nat.le_of_eq h4, .undef _, h3⟩
    ·exact h.elim
   ·exact h.elim
  ·exact h.elim
 case mapUpdate t m k x =>
  obtain ⟨ti, i, d, z, F, h⟩ := withT_spec hT h
  split at h
  ·rename_i kt et hk
   obtain ⟨te, ie, de, ze, Fe, h⟩ := withT_spec hT h
   obtain ⟨tk, ik, dk, zk, Fk, h⟩ := withT_spec hT h
   split at h
   ·rename_i l q hm
    split at h
    ·rename_i es kd xd hb hkd hxd
     have hmv := hs.ev m
     rw [hm] at hmv
     obtain ⟨w', fr', h1, h2, h3, h4⟩ := s_mapUpdate F hk ⟨_, Fk.und⟩ hok hmv (hs.ev k) hkd (hs.ev x) hxd hb h
     exact ⟨.skip, undef, w', c, fr', .undef, by simp only [Sem.run_bind, h1, Result.andThen_ok, Sem.run_pure], .inr ⟨rfl, rfl⟩, Ctx.le.refl c, h2, Nat.le_of_eq h4, .undef _, h3⟩
    ·exact h.elim
   ·exact h.elim
  ·exact h.elim
 case unOp op t x =>
  cases op <;> simp only [aop] at h <;> (try exact h.elim)
  ·have hx := hs.ev x
   split at h
   ·rename_i k n he
    rw [he] at hx
    obtain ⟨r, rfl, h⟩ := h
    exact acts_of hok ⟨_, _, by rw [hx.int_inv]; rfl, .d _ _ (.int _ _), h⟩
   ·exact h.elim
  ·have hx := hs.ev x
   split at h
   ·rename_i q he
    rw [he] at hx
    exact acts_of hok ⟨.bool (!q), _, by rw [hx.bool_inv]; rfl, .d _ _ (.bool _), h⟩
   ·exact h.elim
 case convert t u x =>
  obtain ⟨ti, i, d, z, F, h⟩ := withT_spec hT h
  obtain ⟨tu, i', d', z', F', h⟩ := withT_spec hT h
  exact acts_of hok (s_conv F F' (hs.ev x) h)
 case makeInterface t x =>
  obtain ⟨ti, i, d, z, F, h⟩ := withT_spec hT h
  exact acts_of hok (s_iface F (hs.ev x) h)
 case makeFunc fn us cs =>
  have h1 := evs_rel hs us.toList
  have h2 := evs_rel hs cs.toList
  refine acts_of hok ⟨.func fn (us.map a.eval) (cs.map a.eval), _, rfl, ?_, h⟩
  have e1 : us.map a.eval = (us.toList.map a.eval).toArray := by apply Array.ext'; simp
  have e2 : cs.map a.eval = (cs.toList.map a.eval).toArray := by apply Array.ext'; simp
  rw [e1, e2]
  exact .func fn _ _ _ _ (by simp) (by simp) h1 h2
 case makeSlice t x y =>
  obtain ⟨ti, i, d, z, F, h⟩ := withT_spec hT h
  split at h
  ·rename_i e hk
   obtain ⟨te, i', d', z', F', h⟩ := withT_spec hT h
   exact acts_does (s_make F hk F' hok hs.B (hs.ev x) (hs.ev y) h)
  ·exact h.elim
 case slice t x lo hi mx =>
  obtain ⟨ti, i, d, z, F, h⟩ := withT_spec hT h
  exact acts_of hok (s_slice F (hs.ev x) (orel hs lo) (orel hs hi) (orel hs mx) h)
 case fieldAddr t x f =>
  obtain ⟨ti, i, d, z, F, h⟩ := withT_spec hT h
  exact acts_of hok (s_field F (hs.ev x) h)
 case field t x f =>
  obtain ⟨ti, i, d, z, F, h⟩ := withT_spec hT h
  exact acts_of hok (s_fieldV F (hs.ev x) h)
 case indexAddr t x y =>
  obtain ⟨ti, i, d, z, F, h⟩ := withT_spec hT h
  exact acts_of hok (s_index F (hs.ev x) (hs.ev y) h)
 case index t x y =>
  obtain ⟨ti, i, d, z, F, h⟩ := withT_spec hT h
  exact acts_of hok (s_indexV F (hs.ev x) (hs.ev y) h)
 case extract x k => exact acts_of hok (s_extract (hs.ev x) h)
 case call cl => exact absurd rfl (hcall cl)
end
end Go.Proofs.Ytemfpemejagndaa.Fw

