/- Soundness: calls, statements, code. -/
import Derived.Test.YtemfpemejagndaaFwF
set_option autoImplicit false
set_option linter.unusedVariables false
set_option linter.unusedSimpArgs false
namespace Go.Proofs.Ytemfpemejagndaa.Fw
open Go Go.RowKit Go.WideShapes

section
variable {T : TT} {P : Program} {N : Nat} {ds : Fix} {js : List Nat} {c : Ctx} {s : Env} {fr : Frs} {a : Act} {w : World}

theorem acts_wp (hs : St N ds c s fr a w) {o : Oper} {K : AV → Frs → Prop} {next : Act → World → Prop} {Q : Exit → Act → World → Prop} (h : Acts P c w (execOp a.eval o) K)
  (hK : ∀ c' fr' v r w', K r fr' → c.le c' → VRel c' v r → St N ds c' s fr' a w' → next (a.put o.dst v) w') : o.wp P a w next Q := by
 obtain ⟨nx, v, w', c', fr', r, h1, h2, h3, h4, h5, h6, h7⟩ := h
 unfold Oper.wp
 rw [h1]
 rcases h2 with rfl | ⟨rfl, rfl⟩
 ·exact hK c' fr' v r w' h7 h3 h6 (hs.mono h3 h4 h5)
 ·exact hK c' fr' undef r w' h7 h3 h6 (hs.mono h3 h4 h5)
theorem run_callFunc {f : FuncId} (h : fnOk P f = true) (args : Array Value) : (callFunc f args).run P w = .ok (.enter f args) w := by
 unfold fnOk at h
 split at h
 ·rename_i fn hf
  simp only [Bool.and_eq_true, bne_iff_ne, ne_eq] at h
  have h3 : fn.body ≠ none := by intro hb; rw [hb] at h; simp at h
  unfold callFunc
  simp [hf, h.2, h3]
 ·cases h
theorem call_wp (hT : T.okB P = true) (hs : St N ds c s fr a w) {dst : Option Tmp} {cl : Call} {ty : TypeId} {pos : String} {after : Array Edge} {guard : Option (Nat × Bool)} {K Qp : AV → Frs → Prop} {next : Act → World → Prop} {Q : Exit → Act → World → Prop} (h : acall T P cl s fr K Qp)
  (hK : ∀ c' fr' v r w', K r fr' → c.le c' → VRel c' v r → St N ds c' s fr' a w' → next (a.put dst v) w')
  (hQ : ∀ c' fr' v r w', Qp r fr' → c.le c' → VRel c' v r → St N ds c' s fr' a w' → Q (.panic [{ v, recovered := false }]) a w') : (Oper.mk dst (.call cl) ty pos after guard).wp P a w next Q := by
 obtain ⟨callee, args, argTypes⟩ := cl
 have hok := hs.ok
 unfold acall at h
 split at h
 ·-- len
  rename_i hc
  simp only at hc
  subst hc
  split at h
  ·rename_i x t hx ht
   obtain ⟨ti, i, d, z, F, h⟩ := withT_spec hT h
   have hx' : args = #[x] := Array.ext' (by simpa using hx)
   have ht' : argTypes = #[t] := Array.ext' (by simpa using ht)
   subst hx'; subst ht'
   refine acts_wp hs (K := K) ?_ hK
   have := acts_of (P := P) hok (s_lenM F hok (hs.ev x) ty h)
   simpa [execOp, resolve, invoke, builtin] using this
  ·exact h.elim
 ·-- append
  rename_i hc
  simp only at hc
  subst hc
  split at h
  ·rename_i x y t u hx ht
   split at h
   ·rename_i htu
    have htu := Nat.eq_of_beq_eq_true htu
    subst htu
    obtain ⟨ti, i, d, z, F, h⟩ := withT_spec hT h
    have hx' : args = #[x, y] := Array.ext' (by simpa using hx)
    have ht' : argTypes = #[t, t] := Array.ext' (by simpa using ht)
    subst hx'; subst ht'
    refine acts_wp hs (K := K) ?_ hK
    have := acts_does (s_append F hok hs.B (hs.ev x) (fixNil_rel (ti := ti) (hs.ev y)) ty h)
    simpa [execOp, resolve, invoke, builtin] using this
   ·exact h.elim
  ·exact h.elim
 ·rename_i hc
  simp only at hc
  subst hc
  split at h
  ·rename_i x y hx
   have hx' : args = #[x, y] := Array.ext' (by simpa using hx)
   subst hx'
   split at h
   ·rename_i k p k' q h1 h2
    have e1 := hs.ev x
    have e2 := hs.ev y
    rw [h1] at e1
    rw [h2] at e2
    refine acts_wp hs (K := K) ?_ hK
    refine ⟨.value (.int k (max p q)), _, w, c, fr, _, ?_, .inl rfl, Ctx.le.refl c, hok, Nat.le_refl _, .d _ _ (.int _ _), h⟩
    have : (if q > p then q else p) = max p q := by omega
    simp [execOp, resolve, invoke, builtin, Builtin.max_, Builtin.max2, e1.int_inv, e2.int_inv, this]
   ·exact h.elim
  ·exact h.elim
 ·rename_i hc
  simp only at hc
  subst hc
  split at h
  ·rename_i x y hx
   have hx' : args = #[x, y] := Array.ext' (by simpa using hx)
   subst hx'
   split at h
   ·rename_i k p k' q h1 h2
    have e1 := hs.ev x
    have e2 := hs.ev y
    rw [h1] at e1
    rw [h2] at e2
    refine acts_wp hs (K := K) ?_ hK
    refine ⟨.value (.int k (min p q)), _, w, c, fr, _, ?_, .inl rfl, Ctx.le.refl c, hok, Nat.le_refl _, .d _ _ (.int _ _), h⟩
    have : (if q < p then q else p) = min p q := by omega
    simp [execOp, resolve, invoke, builtin, Builtin.min_, Builtin.min2, e1.int_inv, e2.int_inv, this]
   ·exact h.elim
  ·exact h.elim
 ·-- copy
  rename_i hc
  simp only at hc
  subst hc
  split at h
  ·rename_i x y t u hx ht
   obtain ⟨ti, i, d, z, F, h⟩ := withT_spec hT h
   have hx' : args = #[x, y] := Array.ext' (by simpa using hx)
   have ht' : argTypes = #[t, u] := Array.ext' (by simpa using ht)
   subst hx'; subst ht'
   refine acts_wp hs (K := K) ?_ hK
   have := acts_does (s_copy F hok (u := u) (hs.ev x) (hs.ev y) ty h)
   simpa [execOp, resolve, invoke, builtin] using this
  ·exact h.elim
 ·-- a function
  rename_i f hc
  simp only at hc
  subst hc
  split at h
  ·rename_i g us cs hf
   have hfv := hs.ev f
   obtain ⟨us', vs', hfe, hm, hn, hq, hr⟩ := asFunc_rel hfv hf
   have hargs := fixArgs_rel (T := T) argTypes.toList _ _ (evs_rel hs args.toList)
   have hfl := fixArgs_len T argTypes.toList (args.toList.map (ev s))
   have hexec : ∀ R, (callFunc g (us' ++ (args.toList.map a.eval ++ vs')).toArray).run P w = R → (execOp a.eval (Oper.mk dst (.call ⟨.value f, args, argTypes⟩) ty pos after guard)).run P w = R := by
    intro R hR
    have e : (us'.toArray ++ args.map a.eval) ++ vs'.toArray = (us' ++ (args.toList.map a.eval ++ vs')).toArray := by apply Array.ext'; simp
    simp only [execOp, resolve, Sem.run_bind, hfe, Deferred.ofValue, Sem.run_pure, Result.andThen_ok, invoke, e]
    exact hR
   have hlen : (us' ++ (args.toList.map a.eval ++ vs')).length = (us ++ (fixArgs T argTypes.toList (args.toList.map (ev s)) ++ cs)).length := by simp [hm, hn, fixArgs_len]
   have hrel : ∀ j (h : j < (us ++ (fixArgs T argTypes.toList (args.toList.map (ev s)) ++ cs)).length), VRel c ((us' ++ (args.toList.map a.eval ++ vs')).getD j default) ((us ++ (fixArgs T argTypes.toList (args.toList.map (ev s)) ++ cs))[j]) := by
    have hap : ∀ {vs us : List Value} {p q : List AV}, vs.length = p.length → us.length = q.length → (∀ j (h : j < p.length), VRel c (vs.getD j default) p[j]) → (∀ j (h : j < q.length), VRel c (us.getD j default) q[j]) → ∀ j (h : j < (p ++ q).length), VRel c ((vs ++ us).getD j default) ((p ++ q)[j]) := by
     intro vs us p q e1 e2 r1 r2 j h
     rw [List.getElem_append, List.getD_eq_getElem?_getD]
     split
     ·rename_i hj; rw [List.getElem?_append_left (by omega), ← List.getD_eq_getElem?_getD]; exact r1 j hj
     ·rename_i hj; rw [List.getElem?_append_right (by omega), ← List.getD_eq_getElem?_getD, e1]; exact r2 _ (by simp at h; omega)
    exact hap hm (by simp [hn, fixArgs_len]) hq (hap (by simp [fixArgs_len]) hn hargs hr)
   rcases h.out c w (us' ++ (args.toList.map a.eval ++ vs')) hok hs.B hlen hrel with ⟨hfn, hcalls⟩ | ⟨v, w', hv, o, ls, fr', c', h1, hsz, h3, h4, h5⟩
   ·unfold Oper.wp
    rw [hexec _ (run_callFunc hfn _), Oper.upon_enter]
    refine hcalls.mono ?_
    rintro e w' ⟨o, ls, fr', c', h1, hsz, h3, h4, h5⟩
    cases o with
    | ret r =>
     obtain ⟨v, rfl, h6⟩ := h5
     obtain ⟨c'', fr'', r', k1, k2, k3, k4⟩ := s_merge h3 h4 h6 h1
     exact hK c'' fr'' v r' w' k1 k2 k4 (hs.mono k2 k3 hsz)
    | pan r =>
     obtain ⟨v, rfl, h6⟩ := h5
     cases ls with
     | cons b l => exact h1.elim
     | nil =>
      obtain ⟨c'', fr'', r', k1, k2, k3, k4⟩ := s_merge h3 h4 h6 h1
      exact hQ c'' fr'' v r' w' k1 k2 k4 (hs.mono k2 k3 hsz)
   ·unfold Oper.wp
    rw [hexec _ hv, Oper.upon_value]
    cases o with
    | ret r =>
     obtain ⟨v', h5, h6⟩ := h5
     injection h5 with h5
     subst h5
     obtain ⟨c'', fr'', r', k1, k2, k3, k4⟩ := s_merge h3 h4 h6 h1
     exact hK c'' fr'' v r' w' k1 k2 k4 (hs.mono k2 k3 hsz)
    | pan r =>
     obtain ⟨v', h5, h6⟩ := h5
     cases h5
  ·exact h.elim
 ·exact h.elim
theorem aop_wp (hT : T.okB P = true) (hs : St N ds c s fr a w) {o : Oper} {K Qp : AV → Frs → Prop} {next : Act → World → Prop} {Q : Exit → Act → World → Prop} (h : aop T P o.op o.type s fr K Qp)
  (hK : ∀ c' fr' v r w', K r fr' → c.le c' → VRel c' v r → St N ds c' s fr' a w' → next (a.put o.dst v) w')
  (hQ : ∀ c' fr' v r w', Qp r fr' → c.le c' → VRel c' v r → St N ds c' s fr' a w' → Q (.panic [{ v, recovered := false }]) a w') : o.wp P a w next Q := by
 by_cases hc : ∃ cl, o.op = .call cl
 ·obtain ⟨dst, op, ty, pos, after, guard⟩ := o
  obtain ⟨cl, rfl⟩ := hc
  exact call_wp hT hs h hK hQ
 ·exact acts_wp hs (op_sound hT hs o (fun cl e => hc ⟨cl, e⟩) h) hK
/-! ### statements -/
theorem wanted_spec {all : List Oper} {g : Option (Nat × Bool)} {A B : Prop} (hs : St N ds c s fr a w) {o : Oper} (hg : o.guard = g) (h : awanted all g s A B) :
  (Region.wanted o (yielded all.toArray a.tmps) = true ∧ A) ∨ (Region.wanted o (yielded all.toArray a.tmps) = false ∧ B) := by
 unfold awanted at h
 split at h
 ·exact .inl ⟨by simp [Region.wanted, hg], h⟩
 ·rename_i j want
  have hw : ∀ q t, all[j]? = some q → q.dst = some t → ∀ b, VRel c (a.tmps.getD t undef) (.d (.bool b)) → Region.wanted o (yielded all.toArray a.tmps) = (b == want) := by
   intro q t hq ht b hv
   have h1 := hv.bool_inv
   have h2 : a.tmps[t]? = some (.bool b) := by
    rw [Array.getD_eq_getD_getElem?] at h1
    cases ht2 : a.tmps[t]? with
    | none => rw [ht2] at h1; simp [undef] at h1
    | some v => rw [ht2] at h1; simpa using h1
   simp only [Region.wanted, hg, yielded, List.getElem?_toArray, hq, Option.bind_some, ht, h2]
   cases b <;> cases want <;> rfl
  split at h
  ·rename_i q hq
   split at h
   ·rename_i t ht
    have hr := hs.rel t
    split at h
    ·rename_i u he
     rw [he] at hr
     have := hw q t hq ht u hr
     cases u <;> cases want
     ·exact .inl ⟨this, h⟩
     ·exact .inr ⟨this, h⟩
     ·exact .inr ⟨this, h⟩
     ·exact .inl ⟨this, h⟩
    ·rename_i he
     rw [he] at hr
     refine .inr ⟨?_, h⟩
     have h2 : a.tmps[t]? = none ∨ a.tmps[t]? = some (.tuple #[]) := by
      rw [Array.getD_eq_getD_getElem?] at hr
      cases ht2 : a.tmps[t]? with
      | none => exact .inl rfl
      | some v =>
       rw [ht2] at hr
       right
       simp only [Option.getD_some] at hr
       cases hr with | tuple vs _ hn _ =>
       have : vs = [] := by simpa using hn
       subst this; rfl
     simp only [Region.wanted, hg, yielded, List.getElem?_toArray, hq, Option.bind_some, ht]
     rcases h2 with h2 | h2 <;> rw [h2] <;> rfl
    ·exact h.elim
   ·exact h.elim
  ·exact h.elim
theorem aops_wp (hT : T.okB P = true) (all : List Oper) {Q : Exit → Act → World → Prop} : ∀ (l : List Oper) {c : Ctx} {s : Env} {fr : Frs} {a : Act} {w : World} {K : Env → Frs → Prop} {Qp : AV → Env → Frs → Prop}, St N ds c s fr a w → aops T P N all l s fr K Qp →
  (∀ c' s' fr' a' w', K s' fr' → c.out ds.m c' → St N ds c' s' fr' a' w' → Q .normal a' w') →
  (∀ c' s' fr' v r a' w', Qp r s' fr' → c.out ds.m c' → VRel c' v r → St N ds c' s' fr' a' w' → Q (.panic [{ v, recovered := false }]) a' w') → wpList P all.toArray Q l a w
 | [], c, s, fr, a, w, K, Qp, hs, h, hK, hQ => hK c s fr a w h (Ctx.out.refl c _) hs
 | o :: rest, c, s, fr, a, w, K, Qp, hs, h, hK, hQ => by
  rw [aops_cons] at h
  rcases wanted_spec hs rfl h with ⟨hw, h⟩ | ⟨hw, h⟩
  ·unfold wpList
   rw [if_pos hw]
   refine .inl (aop_wp hT hs h (fun c' fr' v r w' hk hle hv hs' => ?_) fun c' fr' v r w' hq hle hv hs' => hQ c' s fr' v r a w' hq (hle.out _) hv hs')
   obtain ⟨s', hk, hs'⟩ := hs'.put hv hk
   exact aops_wp hT all rest hs' hk (fun c'' s'' fr'' a'' w'' k1 k2 k3 => hK c'' s'' fr'' a'' w'' k1 ((hle.out _).trans k2) k3) fun c'' s'' fr'' v r a'' w'' k1 k2 k3 k4 => hQ c'' s'' fr'' v r a'' w'' k1 ((hle.out _).trans k2) k3 k4
  ·unfold wpList
   rw [if_neg (by simp [hw])]
   obtain ⟨s', hk, hs'⟩ := hs.put (undef_rel c) h
   exact aops_wp hT all rest hs' hk hK hQ
/-! ### code -/
theorem Qc.mono {c0 c : Ctx} (h : c0.out ds.m c) {Q : Ex → Env → Frs → Prop} {e : Exit} {a : Act} {w : World} (hq : Qc N ds c Q e a w) : Qc N ds c0 Q e a w := by
 obtain ⟨ex, s, fr, c', h1, h2, h3, h4⟩ := hq
 exact ⟨ex, s, fr, c', h1, h2, h.trans h3, h4⟩
theorem awp_region {id : Nat} {ops : Array Oper} {draw : Bool} {Q : Ex → Env → Frs → Prop} {s : Env} {fr : Frs} (h : awp T P N ds js (.region id ops draw) Q s fr) :
  Runs P N ds (.region id ops draw) Q s fr ∨ (draw = false ∧ aops T P N ops.toList ops.toList s fr (Q .normal) fun v => Q (.pan v)) := by
 cases draw with
 | true =>
  have h0 : (match memNat id js with | true => Runs P N ds (.region id ops true) Q s fr | false => Runs P N ds (.region id ops true) Q s fr) := h
  split at h0 <;> exact .inl h0
 | false =>
  have h0 : (match memNat id js with | true => Runs P N ds (.region id ops false) Q s fr | false => aops T P N ops.toList ops.toList s fr (Q .normal) fun v => Q (.pan v)) := h
  split at h0
  ·exact .inl h0
  ·exact .inr ⟨rfl, h0⟩
theorem awp_sound (hT : T.okB P = true) : ∀ (x : Code) {Q : Ex → Env → Frs → Prop} {c : Ctx} {s : Env} {fr : Frs} {a : Act} {w : World}, awp T P N ds js x Q s fr → St N ds c s fr a w → x.wp P (Qc N ds c Q) a w := by
 intro x
 induction x with
 | skip => intro Q c s fr a w h hs; exact wp_skip ⟨.normal, s, fr, c, trivial, h, Ctx.out.refl c _, hs⟩
 | label l => intro Q c s fr a w h hs; exact wp_label ⟨.normal, s, fr, c, trivial, h, Ctx.out.refl c _, hs⟩
 | exit id => intro Q c s fr a w h hs; exact wp_exit ⟨.exit id, s, fr, c, rfl, h, Ctx.out.refl c _, hs⟩
 | ret => intro Q c s fr a w h hs; exact wp_ret ⟨.ret, s, fr, c, trivial, h, Ctx.out.refl c _, hs⟩
 | region id ops draw =>
  intro Q c s fr a w h hs
  have h' := awp_region h
  clear h
  rcases h' with h | ⟨rfl, h⟩
  ·exact Runs.out h c a w hs
  ·refine wp_region_list ?_
   have := aops_wp (Q := Qc N ds c Q) hT ops.toList ops.toList hs h (fun c' s' fr' a' w' k1 k2 k3 => ⟨.normal, s', fr', c', trivial, k1, k2, k3⟩) fun c' s' fr' v r a' w' k1 k2 k3 k4 => ⟨.pan r, s', fr', c', ⟨v, rfl, k3⟩, k1, k2, k4⟩
   simpa using this
 | seq x y ihx ihy =>
  intro Q c s fr a w h hs
  refine wp_seq (wp_mono (ihx h hs) ?_)
  rintro e a' w' ⟨ex, s', fr', c', h1, h2, h3, h4⟩
  cases ex with
  | normal =>
   cases e <;> simp [exRel] at h1
   exact wp_mono (ihy h2 h4) fun e a w hq => hq.mono h3
  | exit i =>
   cases e <;> simp [exRel] at h1
   subst h1
   exact ⟨.exit _, s', fr', c', rfl, h2, h3, h4⟩
  | goto i =>
   cases e <;> simp [exRel] at h1
   subst h1
   exact ⟨.goto _, s', fr', c', rfl, h2, h3, h4⟩
  | ret =>
   cases e <;> simp [exRel] at h1
   exact ⟨.ret, s', fr', c', trivial, h2, h3, h4⟩
  | pan r =>
   cases e <;> simp only [exRel] at h1
   exact ⟨.pan r, s', fr', c', h1, h2, h3, h4⟩
 | cond q x y ihx ihy =>
  intro Q c s fr a w h hs
  have hq := hs.ev q
  unfold awp at h
  simp only at h
  split at h
  ·rename_i u he
   rw [he] at hq
   cases u with
   | true => exact wp_cond_true hq.bool_inv (ihx h hs)
   | false => exact wp_cond_false hq.bool_inv (ihy h hs)
  ·exact h.elim
 | block id x ih =>
  intro Q c s fr a w h hs
  refine wp_block (wp_mono (ih h hs) ?_)
  rintro e a' w' ⟨ex, s', fr', c', h1, h2, h3, h4⟩
  cases ex with
  | normal =>
   cases e <;> simp [exRel] at h1
   exact ⟨.normal, s', fr', c', trivial, h2, h3, h4⟩
  | exit i =>
   cases e <;> simp [exRel] at h1
   subst h1
   simp only at h2
   simp only [Exit.inBlock]
   split at h2
   ·rename_i he
    rw [if_pos (Nat.eq_of_beq_eq_true he)]
    exact ⟨.normal, s', fr', c', trivial, h2, h3, h4⟩
   ·rename_i he
    rw [if_neg (fun e => by subst e; simp at he)]
    exact ⟨.exit _, s', fr', c', rfl, h2, h3, h4⟩
  | goto i =>
   cases e <;> simp [exRel] at h1
   subst h1
   exact ⟨.goto _, s', fr', c', rfl, h2, h3, h4⟩
  | ret =>
   cases e <;> simp [exRel] at h1
   exact ⟨.ret, s', fr', c', trivial, h2, h3, h4⟩
  | pan r =>
   cases e <;> simp only [exRel] at h1
   exact ⟨.pan r, s', fr', c', h1, h2, h3, h4⟩
 | loop x ih => intro Q c s fr a w h hs; exact Runs.out h c a w hs
 | rangeFunc => intro Q c s fr a w h hs; exact h.elim
 | scope => intro Q c s fr a w h hs; exact h.elim
 | goto => intro Q c s fr a w h hs; exact h.elim
 | refuse => intro Q c s fr a w h hs; exact h.elim
end
end Go.Proofs.Ytemfpemejagndaa.Fw

