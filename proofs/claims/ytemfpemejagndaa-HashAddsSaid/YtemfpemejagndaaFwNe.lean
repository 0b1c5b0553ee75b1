/- A stretch of code that is run with everything behind it closed: what was known stays known qs old data; behind it nothing but flat data comes back. -/
import Derived.Test.YtemfpemejagndaaFwZ
set_option autoImplicit false
set_option linter.unusedVariables false
set_option linter.unusedSimpArgs false
namespace Go.Proofs.Ytemfpemejagndaa.Fw
open Go Go.RowKit

section
variable {T : TT} {P : Program} {N : Nat} {ds : Fix} {c : Ctx} {s : Env} {fr : Frs} {a : Act} {w : World}

theorem VRel.dd {v : Value} {x : D} (h : VRel c v (.d x)) : DRel c.H v x := by cases h; assumption
theorem DRel.pp {H : Imm} {v : Value} {x : D} (h : DRel H v (.ptr x)) : ∃ q, v = .pointer (some q) := by cases h; exact ⟨_, rfl⟩
/-- a call of a function of pure data with data of whatever age: what it hands out is of whatever age -/
theorem said_agedR {f : FuncId} {xs ys : List D} {us : List AV} {r : D} {R : Out → List Blk → Frs → Prop} (h : Pure P f xs r) (hu : pures us = some ys) (ha : Ages ys xs) (hR : R (.ret (.d r.aged)) [] fr) : Said P f us fr R := by
 obtain ⟨k1, k2⟩ := pures_some hu
 obtain ⟨k3, k4⟩ := ha.spec
 refine ⟨fun c w vs hok hB hn hr => ?_⟩
 have hd : ∀ j (hj : j < xs.length), DRel (c.H.at 0) (vs.getD j default) xs[j] := fun j hj => ((hr j (by omega)).pure _ (k2 j (by omega) (by omega))).back _ (k4 j (by omega) hj)
 refine CallsX.mono (h.out (c.H.at 0) w vs (hok.mod.at 0) (Nat.zero_le _) (by omega) hd) ?_
 rintro e w' ⟨v, H', rfl, hx, hm, hv, hb⟩
 have hx1 : c.H.ext (H'.at c.H.base) (since w.heap.size) := ⟨⟨hx.le.1, hx.le.2.1, hx.le.2.2.1, rfl, hx.le.2.2.2.2⟩, hx.cell, hx.obj, hx.var⟩
 have hx' : c.H.ext (H'.at c.H.base) c.free := hx1.weak (Ctx.free_new hB)
 refine ⟨.ret (.d r.aged), [], fr, { c with H := H'.at c.H.base, ents := [] :: c.ents }, hR, hb.size, ?_, (hok.calls hb hB hx1 (hm.at _)).frame, v, rfl, .d _ _ (hv.age _)⟩
 show c.le { c with H := H'.at c.H.base }
 exact Ctx.le_H hx'
/-- the contexts of the stretch that began at w0 with the knowledge H0 -/
structure Bs (w0 : World) (H0 : Imm) (c : Ctx) : Prop where
 B : c.B = w0.heap.size
 Xe : c.X = []
 w : c.w0 = w0
 H : H0.ext c.H (since w0.heap.size)
def QN (N : Nat) (w0 : World) (H0 : Imm) (Q : Ex → Env → Frs → Prop) : Exit → Act → World → Prop := fun e a w =>
 ∃ ex s fr c, exRel c e ex ∧ Q ex s fr ∧ Bs w0 H0 c ∧ St N Fx0 c s fr a w
structure NR (P : Program) (N : Nat) (w0 : World) (H0 : Imm) (x : Code) (Q : Ex → Env → Frs → Prop) (s : Env) (fr : Frs) : Prop where mk ::
 out : ∀ c a w, St N Fx0 c s fr a w → Bs w0 H0 c → x.wp P (QN N w0 H0 Q) a w
theorem Bs.free {w0 : World} {H0 : Imm} (h : Bs w0 H0 c) : c.free = since w0.heap.size := by
 funext b; simp [Ctx.free, since, h.B, h.Xe]
theorem Bs.out {w0 : World} {H0 : Imm} (h : Bs w0 H0 c) {m : Nat} {c' : Ctx} (k : c.out m c') : Bs w0 H0 c' :=
 ⟨k.1.B.trans h.B, k.1.Xe.trans h.Xe, k.1.w0.trans h.w, h.H.trans (h.free ▸ k.1.X)⟩
variable {w0 : World} {H0 : Imm} {Q : Ex → Env → Frs → Prop}
theorem NR.of_runs {x : Code} (h : Runs P N Fx0 x Q s fr) : NR P N w0 H0 x Q s fr :=
 ⟨fun c a w hs hb => wp_mono (h.out c a w hs) fun e a' w' ⟨ex, s', fr', c', h1, h2, h3, h4⟩ => ⟨ex, s', fr', c', h1, h2, hb.out h3, h4⟩⟩
theorem NR.awp (hT : T.okB P = true) {x : Code} (h : awp T P N Fx0 [] x Q s fr) : NR P N w0 H0 x Q s fr := .of_runs (Runs.enter hT h)
theorem NR.seq {x y : Code} (h : NR P N w0 H0 x (fun e s fr => match e with | .normal => NR P N w0 H0 y Q s fr | .exit i => Q (.exit i) s fr | .goto i => Q (.goto i) s fr | .ret => Q .ret s fr | .pan v => Q (.pan v) s fr) s fr) : NR P N w0 H0 (.seq x y) Q s fr := by
 refine ⟨fun c a w hs hb => wp_seq (wp_mono (h.out c a w hs hb) ?_)⟩
 rintro e a' w' ⟨ex, s', fr', c', h1, h2, h3, h4⟩
 cases ex with
 | normal =>
  cases e <;> simp [exRel] at h1
  exact h2.out c' a' w' h4 h3
 | exit i =>
  cases e <;> simp [exRel] at h1
  subst h1
  exact ⟨.exit _, s', fr', c', rfl, h2, h3, h4⟩
 | goto i =>
  cases e <;> simp [exRel] at h1
  subst h1
  exact ⟨.goto _, s', fr', c', rfl, h2, h3, h4⟩
 | ret =>
  cases e <;> simp [exRel] at h1
  exact ⟨.ret, s', fr', c', trivial, h2, h3, h4⟩
 | pan r =>
  cases e <;> simp only [exRel] at h1
  exact ⟨.pan r, s', fr', c', h1, h2, h3, h4⟩
/-- one step of a sequence, reckoned -/
theorem NR.step (hT : T.okB P = true) {x y : Code} (h : Fw.awp T P N Fx0 [] x (fun e s fr => match e with | .normal => NR P N w0 H0 y Q s fr | .exit i => Q (.exit i) s fr | .goto i => Q (.goto i) s fr | .ret => Q .ret s fr | .pan v => Q (.pan v) s fr) s fr) : NR P N w0 H0 (.seq x y) Q s fr :=
 .seq (.awp hT h)
/-- temporaries that hold the addresses qs, with old data behind them -/
def vps : List (Tmp × D) → List Addr → Env
 | p :: ps, q :: rs => (p.1, .vp q p.2.aged) :: vps ps rs
 | _, _ => []
theorem vps_rel {c : Ctx} {a : Act} : ∀ {ps : List (Tmp × D)} {qs : List Addr}, ps.length = qs.length → (∀ j (h : j < ps.length) (h' : j < qs.length), a.tmps.getD ps[j].1 undef = .pointer (some qs[j]) ∧ DRel c.H (.pointer (some qs[j])) (.ptr ps[j].2.aged)) → ∀ t, VRel c (a.tmps.getD t undef) (lookup t (vps ps qs))
 | [], [], _, _, t => .undef _
 | p :: ps, q :: qs, hn, h, t => by
  simp only [vps, lookup]
  split
  ·rename_i he
   have := Nat.eq_of_beq_eq_true he
   subst this
   obtain ⟨h1, h2⟩ := h 0 (by simp) (by simp)
   simp only [List.getElem_cons_zero] at h1 h2
   rw [h1]; exact .vp _ _ h2
  ·exact vps_rel (by simpa using hn) (fun j h1 h2 => by have := h (j + 1) (by simpa using h1) (by simpa using h2); simpa using this) t
 | [], _ :: _, hn, _, _ => by simp at hn
 | _ :: _, [], hn, _, _ => by simp at hn
theorem nest_ok {H : Imm} (hm : Models w H) (hb : H.base ≤ w.heap.size) : Ok ⟨w.heap.size, [], w, H, [[]]⟩ [[]] w := by
 have hr : ∀ l i, ({ B := w.heap.size, X := [], w0 := w, H := H, ents := [[]] } : Ctx).raw l i = none := fun l i => by cases l <;> simp [Ctx.raw]
 have he : ∀ l i, ({ B := w.heap.size, X := [], w0 := w, H := H, ents := [[]] } : Ctx).ent l i = none := fun l i => by unfold Ctx.ent; rw [hr]; rfl
 refine ⟨rfl, fun l => ?_, fun l i e b h => (by rw [he] at h; cases h), fun l i e b h => (by rw [hr] at h; cases h), fun l i e l' i' e' h => (by rw [he] at h; cases h), fun l i e h => (by rw [he] at h; cases h), fun l i e h => (by rw [he] at h; cases h), hm, Kept.refl _ _, fun b hb' => ?_⟩
 ·cases l <;> rfl
 ·rcases hb' with hb' | hb'
  ·exact Nat.le_trans hb hb'
  ·cases hb'
/-- the whole stretch, up to the return of flat data -/
theorem nest {x : Code} {L : List Blk} (ps : List (Tmp × D)) (tr : Tmp) (r : D) (hf : D.flatB r = true) (hQ : Q .ret [(tr, .d r)] [L]) (hs : ∀ j (h : j < ps.length), Sel [] L (lookup ps[j].1 s) (.d (.ptr ps[j].2)))
  (h : ∀ (w0 : World) (H0 : Imm) (qs : List Addr), Models w0 H0 → H0.base = w0.heap.size → ps.length = qs.length → (∀ j (h : j < ps.length) (h' : j < qs.length), DRel H0 (.pointer (some qs[j])) (.ptr ps[j].2.aged)) →
   NR P N w0 H0 x (fun ex s' _ => ex = .ret ∧ lookup tr s' = .d r) (vps ps qs) [[]]) : Runs P N Fx0 x Q s [L] := by
 refine ⟨fun c a w hst => ?_⟩
 have hB := hst.B
 let H0 : Imm := (c.sel [] w).at w.heap.size
 have hm : Models w H0 := (sel_models hst.ok.mod).at _
 have hd : ∀ j (hj : j < ps.length), DRel (c.sel [] w) (a.tmps.getD ps[j].1 undef) (.ptr ps[j].2) := fun j hj => by
  have := sel_rel (c2 := { c with H := c.sel [] w, ents := [] }) hst.ok (qs := []) (ks := []) (fun _ _ _ _ => by simp) rfl (fun k q e hq => by simp at hq) _ _ _ (hst.rel ps[j].1) (hs j hj)
  exact this.dd
 have hp : ∀ j (hj : j < ps.length), ∃ q, a.tmps.getD ps[j].1 undef = .pointer (some q) := fun j hj => (hd j hj).pp
 let qs : List Addr := ps.map fun p => match a.tmps.getD p.1 undef with | .pointer (some q) => q | _ => ⟨0, 0, none⟩
 have hn : ps.length = qs.length := by simp [qs]
 have ha : ∀ j (h : j < ps.length) (h' : j < qs.length), a.tmps.getD ps[j].1 undef = .pointer (some qs[j]) := fun j hj hj' => by
  obtain ⟨q, hq⟩ := hp j hj
  simp only [qs, List.getElem_map, hq]
 have hd' : ∀ j (h : j < ps.length) (h' : j < qs.length), DRel H0 (.pointer (some qs[j])) (.ptr ps[j].2.aged) := fun j hj hj' => by
  have := (hd j hj).age w.heap.size
  rw [ha j hj hj'] at this
  exact this
 have hok : Ok ⟨w.heap.size, [], w, H0, [[]]⟩ [[]] w := nest_ok hm (Nat.le_refl _)
 have hN := h w H0 qs hm rfl hn hd'
 refine wp_mono (hN.out ⟨w.heap.size, [], w, H0, [[]]⟩ a w ⟨hok, Nat.le_refl _, hst.n, hst.ds, vps_rel hn fun j hj hj' => ⟨ha j hj hj', hd' j hj hj'⟩⟩ ⟨rfl, rfl, rfl, Imm.ext.refl _ _⟩) ?_
 rintro e a' w' ⟨ex, s', fr', c', h1, ⟨rfl, h2⟩, h3, h4⟩
 cases e <;> simp [exRel] at h1
 have hbel : Below w.heap.size w w' := by
  have := h4.ok.below
  rw [h3.free, h3.w] at this
  exact this.to_below
 refine ⟨.ret, [(tr, .d r)], [L], c, trivial, hQ, Ctx.out.refl c _, hst.ok.calls hbel hB (Imm.ext.refl _ _) (hst.ok.mod.below hbel), Nat.le_trans hB hbel.size, h4.n, h4.ds, fun t => ?_⟩
 simp only [lookup]
 split
 ·rename_i he
  have := Nat.eq_of_beq_eq_true he
  have hv := h4.rel tr
  rw [h2] at hv
  rw [this]
  exact .d _ _ (hv.dd.flat hf)
 ·exact .undef _
theorem Runs.seq {x y : Code} {Q : Ex → Env → Frs → Prop} (h : Runs P N ds x (fun e s fr => match e with | .normal => Runs P N ds y Q s fr | .exit i => Q (.exit i) s fr | .goto i => Q (.goto i) s fr | .ret => Q .ret s fr | .pan v => Q (.pan v) s fr) s fr) : Runs P N ds (.seq x y) Q s fr := by
 refine ⟨fun c a w hs => wp_seq (wp_mono (h.out c a w hs) ?_)⟩
 rintro e a' w' ⟨ex, s', fr', c', h1, h2, h3, h4⟩
 cases ex with
 | normal =>
  cases e <;> simp [exRel] at h1
  exact wp_mono (h2.out c' a' w' h4) fun e a w hq => hq.mono h3
 | exit i =>
  cases e <;> simp [exRel] at h1
  subst h1
  exact ⟨.exit _, s', fr', c', rfl, h2, h3, h4⟩
 | goto i =>
  cases e <;> simp [exRel] at h1
  subst h1
  exact ⟨.goto _, s', fr', c', rfl, h2, h3, h4⟩
 | ret =>
  cases e <;> simp [exRel] at h1
  exact ⟨.ret, s', fr', c', trivial, h2, h3, h4⟩
 | pan r =>
  cases e <;> simp only [exRel] at h1
  exact ⟨.pan r, s', fr', c', h1, h2, h3, h4⟩
theorem Runs.step (hT : T.okB P = true) {x y : Code} {Q : Ex → Env → Frs → Prop} (h : Fw.awp T P N ds [] x (fun e s fr => match e with | .normal => Runs P N ds y Q s fr | .exit i => Q (.exit i) s fr | .goto i => Q (.goto i) s fr | .ret => Q .ret s fr | .pan v => Q (.pan v) s fr) s fr) : Runs P N ds (.seq x y) Q s fr :=
 .seq (Runs.enter hT h)
theorem pure_of_runs (hT : T.okB P = true) {f : FuncId} {fn : Func} {body : Code} (hf : P.funcs[f]? = some fn) (hb : fn.body = some body) (hname : fnOk P f = true) {args : List D} {r : D} (hN : Nat.ble args.length fn.ntmps = true)
  (h : Runs P fn.ntmps Fx0 body (EndPure T fn.results.toList r) (argsEnv 0 (args.map .d)) [[]]) : Pure P f args r := by
 have hN := Nat.le_of_ble_eq_true hN
 refine ⟨fun H w vs hm hby hn hr => .inl ⟨hname, ?_⟩⟩
 let c : Ctx := ⟨w.heap.size, [], w, H, [[]]⟩
 have hok : Ok c [[]] w := by
  have hr : ∀ l i, c.raw l i = none := fun l i => by cases l <;> simp [Ctx.raw, c]
  have he : ∀ l i, c.ent l i = none := fun l i => by unfold Ctx.ent; rw [hr]; rfl
  refine ⟨rfl, fun l => ?_, fun l i e b h => (by rw [he] at h; cases h), fun l i e b h => (by rw [hr] at h; cases h), fun l i e l' i' e' h => (by rw [he] at h; cases h), fun l i e h => (by rw [he] at h; cases h), fun l i e h => (by rw [he] at h; cases h), hm, Kept.refl _ _, fun b hb => ?_⟩
  ·cases l <;> rfl
  ·rcases hb with hb | hb
   ·exact Nat.le_trans hby hb
   ·cases hb
 have hs := st_entry 0 (N := fn.ntmps) (xs := args.map .d) hok (Nat.le_refl _) (by simpa using hn) (by simpa using hN) fun j hj => by
  rw [List.getElem_map]; exact .d _ _ (hr j (by simpa using hj))
 refine calls_of_wp hf hb (wp_mono (h.out _ _ _ hs) ?_)
 rintro e a' w' ⟨ex, s', fr', c', h1, h2, ⟨h3, _⟩, h4⟩
 have hB' : c'.B = w.heap.size := h3.B
 have hw0 : c'.w0 = w := h3.w0
 have hfree : c.free = since w.heap.size := by funext b; simp [Ctx.free, since, c]
 have hX : H.ext c'.H (since w.heap.size) := hfree ▸ h3.X
 have fin : ∀ L r', fr' = L :: r' → ares T fr' s' fn.results.toList (fun x => Frz L x r) → a'.defers = [] ∧ ∃ v, (results fn a'.tmps).run P w' = .ok v w' ∧ ∃ v' H', Ending.returned v = .returned v' ∧ H.ext H' (since w.heap.size) ∧ Models w' H' ∧ DRel H' v' r ∧ Below w.heap.size w w' := by
  intro L r' hfr hk
  obtain ⟨v, x, k1, k2, k3⟩ := ares_spec hT h4 hk
  have hbl := h4.ok.below
  rw [show c'.free = c.free from h3.free, hfree, hw0] at hbl
  replace hbl := hbl.to_below
  refine ⟨h4.ds, v, k1, v, c'.all fr' w', rfl, ?_, all_models h4.ok.mod, frz_rel h4.ok h3.Xe hfr x v r k2 k3, hbl⟩
  exact all_ext (hX) (by rw [hB']; exact Nat.le_refl _)
 cases ex with
 | normal =>
  cases e <;> simp [exRel] at h1
  simp only [EndPure] at h2
  split at h2
  ·exact fin _ _ rfl h2
  ·exact h2.elim
 | ret =>
  cases e <;> simp [exRel] at h1
  simp only [EndPure] at h2
  split at h2
  ·exact fin _ _ rfl h2
  ·exact h2.elim
 | exit i => exact h2.elim
 | goto i => exact h2.elim
 | pan v => exact h2.elim
end
end Go.Proofs.Ytemfpemejagndaa.Fw

