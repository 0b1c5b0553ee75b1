/- Loops, weakening, a function's entry and end, sealed calls. -/
import Derived.Test.YtemfpemejagndaaFwG
set_option autoImplicit false
set_option linter.unusedVariables false
set_option linter.unusedSimpArgs false
namespace Go.Proofs.Ytemfpemejagndaa.Fw
open Go Go.RowKit Go.WideShapes

/-! ### 1. Forgetting -/
structure wk (x y : AV) : Prop where mk ::
 out : ∀ c v, VRel c v x → VRel c v y
theorem wk.refl (x : AV) : wk x x := ⟨fun _ _ h => h⟩
theorem wk.un (x : AV) : wk x .undef := ⟨fun _ _ _ => .undef _⟩
theorem wk.of_eq {x y : AV} (h : x = y) : wk x y := h ▸ wk.refl x
theorem wk.pure {x : AV} {y : D} (h : pure? x = some y) : wk x (.d y) := ⟨fun c v hv => .d _ _ (hv.pure y h)⟩
def WkEnv (m : Nat) (s : Env) : Env → Prop
 | [] => True
 | (t, y) :: r => wk (lookup t s) y ∧ y.okLoc m = true ∧ WkEnv m s r
def WkL (m : Nat) : List AV → List AV → Prop
 | [], [] => True
 | x :: xs, y :: ys => wk x y ∧ y.okLoc m = true ∧ y.leaf = true ∧ WkL m xs ys
 | _, _ => False
def WkBlk (m : Nat) : Blk → Blk → Prop
 | .cells cs, .cells cs' => WkL m cs cs'
 | .arr sz xs, .arr sz' xs' => sz = sz' ∧ xs = xs'
 | .grow sz n, .grow sz' n' => sz = sz' ∧ n = n'
 | .garr sz xs, .garr sz' xs' => sz = sz' ∧ xs = xs'
 | .map es, .map es' => es = es'
 | .frz x, .frz y => x = y
 | _, _ => False
def WkBlks (m : Nat) : List Blk → List Blk → Prop
 | _, [] => True
 | b :: bs, b' :: bs' => WkBlk m b b' ∧ WkBlks m bs bs'
 | [], _ :: _ => False
def Weak (s : Env) (fr : Frs) (s' : Env) (fr' : Frs) : Prop := match fr, fr' with
 | L :: r, L' :: r' => r = r' ∧ WkBlks L'.length L L' ∧ WkEnv L'.length s s'
 | _, _ => False
section
variable {T : TT} {P : Program} {N : Nat} {ds : Fix} {js : List Nat} {c : Ctx} {s : Env} {fr : Frs} {a : Act} {w : World}

theorem WkL.spec {m : Nat} : ∀ {xs ys : List AV}, WkL m xs ys → xs.length = ys.length ∧ (∀ y ∈ ys, y.leaf = true) ∧ ∀ j (h : j < xs.length) (h' : j < ys.length), wk xs[j] ys[j] ∧ ys[j].okLoc m = true
 | [], [], _ => ⟨rfl, by simp, fun j h => by simp at h⟩
 | x :: xs, y :: ys, h => by
  obtain ⟨h1, h2, h3, h4⟩ := h
  obtain ⟨k1, k2, k3⟩ := h4.spec
  refine ⟨by simp [k1], fun q hq => ?_, fun j hj hj' => ?_⟩
  ·rcases List.mem_cons.1 hq with rfl | hq
   ·exact h3
   ·exact k2 q hq
  ·cases j with
   | zero => exact ⟨h1, h2⟩
   | succ j => exact k3 j (by simpa using hj) (by simpa using hj')
 | [], _ :: _, h => h.elim
 | _ :: _, [], h => h.elim
theorem WkBlks.spec {m : Nat} : ∀ {bs bs' : List Blk}, WkBlks m bs bs' → bs'.length ≤ bs.length ∧ ∀ j (h : j < bs'.length) (h' : j < bs.length), WkBlk m bs[j] bs'[j]
 | bs, [], _ => ⟨by simp, fun j h => by simp at h⟩
 | b :: bs, b' :: bs', h => by
  obtain ⟨h1, h2⟩ := h
  obtain ⟨k1, k2⟩ := h2.spec
  refine ⟨by simpa using k1, fun j hj hj' => ?_⟩
  cases j with
  | zero => exact h1
  | succ j => exact k2 j (by simpa using hj) (by simpa using hj')
 | [], _ :: _, h => h.elim
theorem WkEnv.spec {m : Nat} : ∀ {s' : Env}, WkEnv m s s' → ∀ t, wk (lookup t s) (lookup t s') ∧ (lookup t s').okLoc m = true
 | [], _, t => ⟨wk.un _, rfl⟩
 | (u, y) :: r, h, t => by
  obtain ⟨h1, h2, h3⟩ := h
  simp only [lookup]
  split
  ·rename_i he
   have := Nat.eq_of_beq_eq_true he
   subst this
   exact ⟨h1, h2⟩
  ·exact h3.spec t
theorem weak_sound {s' : Env} {fr' : Frs} (h : Weak s fr s' fr') (hm : Nat.ble ds.m (fr'.headD []).length = true) (hs : St N ds c s fr a w) : ∃ c', c.out ds.m c' ∧ c'.H = c.H ∧ c'.B = c.B ∧ c'.w0 = c.w0 ∧ St N ds c' s' fr' a w := by
 unfold Weak at h
 split at h
 ·rename_i L r L' r'
  obtain ⟨rfl, hb, he⟩ := h
  obtain ⟨hl, hbl⟩ := hb.spec
  have hok := hs.ok
  obtain ⟨E, R, hc⟩ : ∃ E R, c.ents = E :: R := by
   have := hok.len
   cases hh : c.ents with
   | nil => rw [hh] at this; simp at this
   | cons E R => exact ⟨E, R, rfl⟩
  have hE : E.length = L.length := by have := hok.lens 0; rw [hc] at this; simpa using this
  let c' : Ctx := { c with ents := E.take L'.length :: R }
  have hraw : ∀ l i, c'.raw l i = if l = 0 ∧ L'.length ≤ i then none else c.raw l i := by
   intro l i
   cases l with
   | zero =>
    simp only [Ctx.raw, c', hc]
    simp only [List.getElem?_cons_zero, Option.bind_some, List.getElem?_take, true_and]
    split <;> split <;> first | rfl | omega
   | succ l => simp [Ctx.raw, c', hc]
  have hent : ∀ l i, c'.ent l i = if l = 0 ∧ L'.length ≤ i then none else c.ent l i := by
   intro l i
   unfold Ctx.ent
   rw [hraw]
   split <;> rfl
  have hsub : ∀ l i e, c'.ent l i = some e → c.ent l i = some e := fun l i e h => by
   rw [hent] at h; split at h
   ·cases h
   ·exact h
  have hfew : ∀ {v : Value} {x : AV}, VRel c v x → x.okLoc L'.length = true → VRel c' v x := fun {v x} hv ho =>
   VRel.fewer (c := c) (c' := c') (m := L'.length) (Imm.le.refl _) (fun l i e hli h => by rw [hent, if_neg (by rintro ⟨rfl, h2⟩; have := hli rfl; omega)]; exact h) hv ho
  have hdrop : ∀ l, c'.drop (l + 1) = c.drop (l + 1) := fun l => by simp [Ctx.drop, c', hc]
  have hrel : ∀ t, VRel c' (a.tmps.getD t undef) (lookup t s') := fun t => by
   obtain ⟨h1, h2⟩ := he.spec t
   exact hfew (h1.out c _ (hs.rel t)) h2
  have hm := Nat.le_of_ble_eq_true hm
  refine ⟨c', ⟨by rw [hdrop 0]; exact Ctx.le.refl _, fun i e hi he => ⟨e, by rw [hraw, if_neg (by rintro ⟨_, h2⟩; simp only [List.headD_cons] at hm; omega)]; exact he, Ent.le.refl e⟩⟩, rfl, rfl, rfl, ⟨⟨?_, fun l => ?_, fun l i e b h1 h2 => ?_, fun l i e b h1 hg h2 => ?_, fun l i e l' i' e' h1 h2 => hok.inj _ _ _ _ _ _ (hsub _ _ _ h1) (hsub _ _ _ h2), fun l i e h1 => hok.ge _ _ _ (hsub _ _ _ h1), fun l i e h1 hfz => hok.far _ _ _ (hsub _ _ _ h1) hfz, hok.mod, hok.below, hok.yng⟩, hs.B, hs.n, hs.ds, hrel⟩⟩
  ·have := hok.len; rw [hc] at this; simpa [c'] using this
  ·cases l with
   | zero => simp [c']; omega
   | succ l => have := hok.lens (l + 1); rw [hc] at this; simpa [c'] using this
  ·cases l with
   | zero =>
    rw [Ctx.drop_zero]
    simp only [List.getElem?_cons_zero, Option.bind_some] at h2
    obtain ⟨hi', rfl⟩ := List.getElem?_eq_some_iff.1 h2
    have hi : i < L.length := by omega
    have hbr := hok.blk 0 i e L[i] (hsub _ _ _ h1) (by simp [hi])
    rw [Ctx.drop_zero] at hbr
    have hw := hbl i hi' hi
    revert hw hbr
    generalize L[i] = b1
    generalize L'[i] = b2
    intro hbr hw
    cases hbr with
    | cells cs vs t hg hw0 hn hlf hr =>
     cases b2 with
     | cells cs' =>
      obtain ⟨k1, k2, k3⟩ := WkL.spec hw
      exact .cells cs' vs t hg hw0 (by omega) k2 fun j hj => hfew ((k3 j (by omega) hj).1.out c _ (hr j (by omega))) (k3 j (by omega) hj).2
     | _ => exact hw.elim
    | arr sz xs vs t hg hs' hw0 hn hsz hlf hr =>
     cases b2 with
     | arr sz' xs' => obtain ⟨rfl, rfl⟩ := hw; exact .arr sz xs vs t hg hs' hw0 hn hsz hlf hr
     | _ => exact hw.elim
    | grow sz n vs t hg hs' hn hw0 hv hcap =>
     cases b2 with
     | grow sz' n' => obtain ⟨rfl, rfl⟩ := hw; exact .grow sz n vs t hg hs' hn hw0 hv hcap
     | _ => exact hw.elim
    | garr sz xs vs t hg hn hw0 hv hcap hsz hlf hr =>
     cases b2 with
     | garr sz' xs' => obtain ⟨rfl, rfl⟩ := hw; exact .garr sz xs vs t hg hn hw0 hv hcap hsz hlf hr
     | _ => exact hw.elim
    | map es ms clock hg hw0 hn hk hv =>
     cases b2 with
     | map es' => cases hw; exact .map es ms clock hg hw0 hn hk hv
     | _ => exact hw.elim
    | frz x vs t hg hw0 hv hn hlf hk hr =>
     cases b2 with
     | frz y => cases hw; exact .frz x vs t hg hw0 hv hn hlf hk hr
     | _ => exact hw.elim
   | succ l =>
    rw [hdrop l]
    exact hok.blk (l + 1) i e b (hsub _ _ _ h1) (by simpa using h2)
  ·rw [hraw] at h1
   split at h1
   ·cases h1
   rename_i hh
   cases l with
   | zero =>
    simp only [List.getElem?_cons_zero, Option.bind_some] at h2
    obtain ⟨hi', rfl⟩ := List.getElem?_eq_some_iff.1 h2
    have hi : i < L.length := by omega
    obtain ⟨h3, h4⟩ := hok.gho 0 i e L[i] h1 hg (by simp [hi])
    have hw := hbl i hi' hi
    refine ⟨?_, h4⟩
    revert hw
    generalize L'[i] = b2
    intro hw
    rcases h3 with h3 | ⟨q, hq, h3⟩ | ⟨q, h3⟩ | h3
    ·rw [h3] at hw
     cases b2 with
     | grow sz' n' => obtain ⟨rfl, rfl⟩ := hw; exact .inl rfl
     | _ => exact hw.elim
    ·rw [h3] at hw
     cases b2 with
     | garr sz' n' => obtain ⟨rfl, rfl⟩ := hw; exact .inr (.inl ⟨_, hq, rfl⟩)
     | _ => exact hw.elim
    ·rw [h3] at hw
     cases b2 with
     | arr sz' n' => obtain ⟨rfl, rfl⟩ := hw; exact .inr (.inr (.inl ⟨_, rfl⟩))
     | _ => exact hw.elim
    ·rw [h3] at hw
     cases b2 with
     | frz y => cases hw; exact .inr (.inr (.inr rfl))
     | _ => exact hw.elim
   | succ l => exact hok.gho (l + 1) i e b h1 hg (by simpa using h2)
 ·exact h.elim
/-! ### 3. A function's end -/
def aresK (T : TT) (fr : Frs) (s : Env) (l : List ResultVar) : List AV → (List AV → Prop) → Prop :=
 List.rec (motive := fun _ => List AV → (List AV → Prop) → Prop) (fun acc K => K acc)
  (fun v _ ih acc K => match v with
  | .tmp t => fz (lookup t s) fun v => ih (acc ++ [v]) K
  | .cell t u => withT T u fun ti => match lookup t s with
   | .ptr l i off => aload ti fr (.ptr l i off) fun v => fz v fun v => ih (acc ++ [v]) K
   | _ => False) l
theorem aresK_nil (T : TT) (fr : Frs) (s : Env) (acc : List AV) (K : List AV → Prop) : aresK T fr s [] acc K = K acc := rfl
theorem aresK_cell (T : TT) (fr : Frs) (s : Env) (t : Tmp) (u : TypeId) (r : List ResultVar) (acc : List AV) (K : List AV → Prop) : aresK T fr s (.cell t u :: r) acc K = withT T u fun ti => match lookup t s with
  | .ptr l i off => aload ti fr (.ptr l i off) fun v => fz v fun v => aresK T fr s r (acc ++ [v]) K
  | _ => False := rfl
def ares (T : TT) (fr : Frs) (s : Env) (rs : List ResultVar) (K : AV → Prop) : Prop := aresK T fr s rs [] fun vs => match vs with
 | [v] => K v
 | vs => K (.tuple vs)
def resF (tmps : Array Value) : ResultVar → Sem Value
 | .tmp t => pure (tmps.getD t undef)
 | .cell q t => do loadVar t (← asAddr (tmps.getD q undef))
theorem results_eq (fn : Func) (tmps : Array Value) : results fn tmps = (do let vs ← fn.results.mapM (resF tmps); pure (if h : vs.size = 1 then vs[0] else .tuple vs)) := by
 unfold results
 have : (fun x : ResultVar => match x with | .tmp t => (pure (tmps.getD t undef) : Sem Value) | .cell q t => do loadVar t (← asAddr (tmps.getD q undef))) = resF tmps := by
  funext x; cases x <;> rfl
 rw [← this]
 rfl
theorem aresK_spec (hT : T.okB P = true) (hs : St N ds c s fr a w) : ∀ {rs : List ResultVar} {acc : List AV} {K : List AV → Prop}, aresK T fr s rs acc K →
  ∃ (vs : List Value) (xs : List AV), (rs.mapM (resF a.tmps)).run P w = .ok vs w ∧ vs.length = xs.length ∧ (∀ j (h : j < xs.length), VRel c (vs.getD j default) xs[j]) ∧ K (acc ++ xs)
 | [], acc, K, h => ⟨[], [], rfl, rfl, fun j h => by simp at h, by simpa [aresK_nil] using h⟩
 | .tmp t :: r, acc, K, h => by
  obtain ⟨vs, xs, h1, h2, h3, h4⟩ := aresK_spec hT hs (fz_spec (K := fun v => aresK T fr s r (acc ++ [v]) K) h)
  refine ⟨a.tmps.getD t undef :: vs, lookup t s :: xs, ?_, by simp [h2], fun j hj => ?_, by simpa using h4⟩
  ·simp only [List.mapM_cons, Sem.run_bind, resF, Sem.run_pure, Result.andThen_ok]; rw [h1]; rfl
  ·cases j with
   | zero => exact hs.rel t
   | succ j => exact h3 j (by simpa using hj)
 | .cell q u :: r, acc, K, h => by
  simp only [aresK_cell] at h
  obtain ⟨ti, i, d, z, F, h⟩ := withT_spec hT h
  split at h
  ·rename_i l k off he
   have hq := hs.rel q
   rw [he] at hq
   obtain ⟨v, x, k1, k2, k3⟩ := s_load F hs.ok hq h
   obtain ⟨vs, xs, h1, h2, h3, h4⟩ := aresK_spec hT hs (fz_spec k3)
   refine ⟨v :: vs, x :: xs, ?_, by simp [h2], fun j hj => ?_, by simpa using h4⟩
   ·have hload : (do loadVar u (← asAddr (a.tmps.getD q undef)) : Sem Value).run P w = .ok v w := by
     generalize a.tmps.getD q undef = vq at hq k1
     cases hq
     simpa [Instr.loadAt, Instr.sureAddr, asAddr] using k1
    have hload : (resF a.tmps (.cell q u)).run P w = .ok v w := hload
    rw [List.mapM_cons, Sem.run_bind, hload, Result.andThen_ok, Sem.run_bind, h1]; rfl
   ·cases j with
    | zero => exact k2
    | succ j => exact h3 j (by simpa using hj)
  ·exact h.elim
theorem ares_spec (hT : T.okB P = true) (hs : St N ds c s fr a w) {fn : Func} {K : AV → Prop} (h : ares T fr s fn.results.toList K) : ∃ v x, (results fn a.tmps).run P w = .ok v w ∧ VRel c v x ∧ K x := by
 obtain ⟨vs, xs, h1, h2, h3, h4⟩ := aresK_spec hT hs h
 have hrun : (results fn a.tmps).run P w = .ok (if h : vs.toArray.size = 1 then vs.toArray[0] else .tuple vs.toArray) w := by
  rw [results_eq, Array.mapM_eq_mapM_toList]
  simp only [Sem.run_bind, map_eq_pure_bind]
  rw [h1]
  simp
 simp only [List.nil_append] at h4
 split at h4
 ·rename_i x
  obtain ⟨v, rfl⟩ : ∃ v, vs = [v] := by
   cases vs with
   | nil => simp at h2
   | cons v vs => cases vs with | nil => exact ⟨v, rfl⟩ | cons _ _ => simp at h2
  exact ⟨v, x, by rw [hrun]; rfl, h3 0 (by simp), h4⟩
 ·rename_i hne
  refine ⟨.tuple vs.toArray, .tuple xs, ?_, .tuple vs xs h2 h3, h4⟩
  rw [hrun]
  have : vs.toArray.size ≠ 1 := fun e => by
   have : xs.length = 1 := by rw [← h2]; simpa using e
   cases xs with
   | nil => simp at this
   | cons x l => cases l with | nil => exact hne x rfl | cons _ _ => simp at this
  rw [dif_neg this]
end
end Go.Proofs.Ytemfpemejagndaa.Fw

