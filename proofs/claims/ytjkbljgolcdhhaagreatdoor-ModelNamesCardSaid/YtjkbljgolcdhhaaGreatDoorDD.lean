/- Drawn regions: big operations; any order of the whole. -/
import Derived.Test.YtjkbljgolcdhhaaGreatDoorDC
import Derived.ProofKit
set_option autoImplicit false
set_option linter.unusedVariables false
set_option linter.constructorNameAsVariable false
set_option linter.unusedSimpArgs false
namespace Go.Proofs.YtjkbljgolcdhhaaGreatDoor.Fw.Cm
open Go Go.RowKit Go.WideShapes
variable {P : Program} {T : TT} {ops : Array Oper} {N sp sq : Nat} {st : Nat → S4}
variable {B A : Nat} {rnd : Option Nat} {κ0 : Kap} {w0 : World} {ds : List Deferred} {Lp : Nat → Prop} {k : Nat} {κ : Kap} {xs : List (Nat × Nat × Ob)} {a : Act} {w : World}
section
theorem Reg.bigk (R : Reg P T ops N sp sq st B A rnd κ0 w0 ds) (I : Inv T ops N st B κ0 w0 ds Lp k κ xs a w) (hcl : Closed ops Lp) {i : Nat} {o : Oper} (ho : ops[i]? = some o) (hn : ¬ Lp i) (he : ∀ o', ops[i]? = some o' → ∀ e ∈ o'.after, Region.binds .any e = true → Lp e.on) (hc : cls T o = 3) (hpq : i = sq → sp < i → Lp sp) : epF T ops i = k := by
  have hi : i < ops.size := (Array.getElem?_eq_some_iff.1 ho).1
  have h1 : ¬ epF T ops i < k := fun h => hn ((I.big i o ho hc).2 h)
  rcases Nat.lt_or_ge k (epF T ops i) with h | h
  · obtain ⟨j, oj, j0, j1, j2, j3⟩ := ep_exists (T := T) (ops := ops) (Nat.le_of_lt hi) h
    have hL : Lp j := by
      rcases R.S.big i o j oj ho j1 j0 hc (.inl j2) with hb | ⟨h1, h2, _⟩
      · exact (mask_cl R.S.fw i o ho j hb).2.done hcl he
      · subst h2; exact hpq h1 j0
    have := (I.big j oj j1 j2).1 hL
    omega
  · omega
/-- blocks that wait belong to later operations -/
theorem Reg.later (R : Reg P T ops N sp sq st B A rnd κ0 w0 ds) (I : Inv T ops N st B κ0 w0 ds Lp k κ xs a w) {i : Nat} {o : Oper} (ho : ops[i]? = some o) (hc : cls T o = 3) {p : Nat × Nat × Ob} (hm : p ∈ xs) (hle : (st i).t ≤ p.1) : ∃ j oj, Lp j ∧ ops[j]? = some oj ∧ cls T oj = 1 ∧ (st j).t = p.1 ∧ (st (j + 1)).t = p.1 + 1 ∧ i < j := by
  have hi : i < ops.size := (Array.getElem?_eq_some_iff.1 ho).1
  obtain ⟨o', b, l⟩ := p
  obtain ⟨j, oj, j1, j2, j3, j4, j5, j6⟩ := I.xin o' b l hm
  have hjs : j < ops.size := (Array.getElem?_eq_some_iff.1 j2).1
  refine ⟨j, oj, j1, j2, j3, j4, j5, ?_⟩
  rcases Nat.lt_trichotomy j i with h | h | h
  · have := top_mono R.hst (i := j + 1) (i' := i) (by omega) (Nat.le_of_lt hi)
    simp only at hle; omega
  · subst h; rw [ho] at j2; injection j2 with j2; subst j2; omega
  · exact h
theorem Reg.bigone (R : Reg P T ops N sp sq st B A rnd κ0 w0 ds) {i j : Nat} {o oj : Oper} (ho : ops[i]? = some o) (hc : cls T o = 3) (hoj : ops[j]? = some oj) (hcj : cls T oj = 3) (h : epF T ops j = epF T ops i) : j = i := by
  rcases Nat.lt_trichotomy j i with h' | h' | h'
  · have := epF_mono (T := T) (ops := ops) (i := j + 1) (j := i) (by omega)
    rw [epF_succ hoj, if_pos hcj] at this; omega
  · exact h'
  · have := epF_mono (T := T) (ops := ops) (i := i + 1) (j := j) (by omega)
    rw [epF_succ ho, if_pos hc] at this; omega
/-- what is known behind a big operation -/
theorem Reg.after (R : Reg P T ops N sp sq st B A rnd κ0 w0 ds) (I : Inv T ops N st B κ0 w0 ds Lp k κ xs a w) {i : Nat} {o : Oper} (ho : ops[i]? = some o) (hc : cls T o = 3) (hk : epF T ops i = k) {κ' : Kap} {xs' : List (Nat × Nat × Ob)} {w' : World} {u : Value} {v : W}
    (hr : HR B (κ'.below (st (i + 1)).t) (st (i + 1)).h (st (i + 1)).t w') (hx : Ex (st (i + 1)).t κ' B w' xs') (hle : κ.le κ') (hext : Ext κ0 κ' w0) (hfrm : Frm κ0 w0 w') (hsub : ∀ p ∈ xs', p ∈ xs ∧ (st i).t ≤ p.1) (hsup : ∀ p ∈ xs, (st i).t ≤ p.1 → p ∈ xs')
    (hv : EnvIs N o v (st i).e (st (i + 1)).e) (hu : ∀ t, o.dst = some t → WR κ' v u) : Inv T ops N st B κ0 w0 ds (fun j => Lp j ∨ j = i) (k + 1) κ' xs' (a.put o.dst u) w' := by
  have hi : i < ops.size := (Array.getElem?_eq_some_iff.1 ho).1
  have hek := Ek_big R.hst R.h0 ho hc
  rw [hk] at hek
  have hep1 : epF T ops (i + 1) = k + 1 := by rw [epF_succ ho, if_pos hc, hk]
  refine ⟨by rw [hek]; exact hr, by rw [hek]; exact hx, hext, hfrm, by rw [put_size]; exact I.n, by rw [put_defers]; exact I.dfs, fun o' b l hm => ?_, fun j oj hj hoj hcj htj hkj => ?_, R.envputG I.n I.env ho hle hv hu, R.oldputG I.old ho hle, fun j oj hoj hcj => ?_, .inr ⟨i, o, ho, hc, by rw [hk], .inr rfl⟩⟩
  · obtain ⟨m1, m2⟩ := hsub _ hm
    obtain ⟨j, oj, j1, j2, j3, j4, j5, j6⟩ := R.later I ho hc m1 m2
    refine ⟨j, oj, .inl j1, j2, j3, j4, j5, ?_⟩
    have := epF_mono (T := T) (ops := ops) (i := i + 1) (j := j) (by omega)
    omega
  · rcases hj with hj | hj
    · obtain ⟨b, l, m1, m2⟩ := I.xout j oj hj hoj hcj htj (by omega)
      refine ⟨b, l, hsup _ m1 ?_, m2⟩
      have hji : i < j := by
        rcases Nat.lt_or_ge i j with h | h
        · exact h
        · have := epF_mono (T := T) (ops := ops) (i := j) (j := i) h; omega
      exact top_mono R.hst (Nat.le_of_lt hji) (Nat.le_of_lt (Array.getElem?_eq_some_iff.1 hoj).1)
    · subst hj; rw [ho] at hoj; injection hoj with hoj; subst hoj; omega
  · constructor
    · rintro (h | h)
      · have := (I.big j oj hoj hcj).1 h; omega
      · subst h; omega
    · intro h
      rcases Nat.lt_or_ge (epF T ops j) k with h' | h'
      · exact .inl ((I.big j oj hoj hcj).2 h')
      · exact .inr (R.bigone ho hc hoj hcj (by omega))
theorem Reg.dr' (R : Reg P T ops N sp sq st B A rnd κ0 w0 ds) (I : Inv T ops N st B κ0 w0 ds Lp k κ xs a w) {i : Nat} (hi : i ≤ ops.size) : DR P A (κ.below (st i).t) w (getE 511 (st i).e) a.defers := by
  rw [I.dfs, slot_later R.hst R.hN hi (by omega) (by omega)]
  exact R.dr.keep ⟨le_below R.hr I.le.le (top_mono R.hst (Nat.zero_le _) hi), fun b hb => I.le.new b (im_le (Kap.below_le _ _) hb)⟩ I.frm
/-- a big operation in its frame -/
theorem Reg.bigstep (R : Reg P T ops N sp sq st B A rnd κ0 w0 ds) (I : Inv T ops N st B κ0 w0 ds Lp k κ xs a w) (hcl : Closed ops Lp) {i : Nat} {o : Oper} (ho : ops[i]? = some o) (hn : ¬ Lp i) (he : ∀ o', ops[i]? = some o' → ∀ e ∈ o'.after, Region.binds .any e = true → Lp e.on) (hc : cls T o = 3) (hpq : i = sq → sp < i → Lp sp)
    {v : W} (hv : EnvIs N o v (st i).e (st (i + 1)).e) (ht : (st i).t ≤ (st (i + 1)).t) (hb : Bls o (st i).t (st i).e) (hf : BF P o (st i).e v (st i).h (st i).t (st (i + 1)).h (st (i + 1)).t) {next : Act → World → Prop} {Q : Exit → Act → World → Prop}
    (hnext : ∀ k' κ' xs' a' w', Inv T ops N st B κ0 w0 ds (fun j => Lp j ∨ j = i) k' κ' xs' a' w' → next a' w') : o.uponIn (Fx rnd) 0 P a next Q ((o.semAt (Fx rnd).round a.eval).run P w) := by
  have hi : i < ops.size := (Array.getElem?_eq_some_iff.1 ho).1
  have hvals := R.vals I hcl ho hn he
  have hk := R.bigk I hcl ho hn he hc hpq
  obtain ⟨xs', h1, h2, h3, h4⟩ := I.adopt R.hst R.h0 (Nat.le_of_lt hi) hk fun j oj hj hoj hcj _ => by
    rcases R.S.big i o j oj ho hoj hj hc (.inr hcj) with hb | ⟨_, _, hb⟩
    · exact (mask_cl R.S.fw i o ho j hb).2.done hcl he
    · omega
  have ht0 : (st 0).t ≤ (st i).t := top_mono R.hst (Nat.zero_le _) (Nat.le_of_lt hi)
  have hva : Va (κ.below (st i).t) (st i).e (opTs o) a.tmps := ⟨R.x0' I ht0, fun t ht => (hvals t (opTs_sub t ht)).cut (hb t ht)⟩
  have hBw : B ≤ w.heap.size := Nat.le_trans R.hB I.frm.size
  have hrr : RR (κ.below (st i).t) (getE 510 (st i).e) rnd := by
    rw [slot_later R.hst R.hN (Nat.le_of_lt hi) (by omega) (by omega)]
    exact R.rr.mono (le_below R.hr I.le.le ht0)
  refine hf h1 hBw (Nat.le_trans R.hA I.frm.size) I.n R.hN hva (R.dr' I (Nat.le_of_lt hi)) hrr next Q fun κ1 u w1 x1 f1 hr1 hw1 => ?_
  have hxs : ∀ o' b l, (o', b, l) ∈ xs' → (st (i + 1)).t ≤ o' := by
    intro o' b l hm
    obtain ⟨j, oj, j1, j2, j3, j4, j5, j6⟩ := R.later I ho hc (h3 _ hm) (h2.lt o' b l hm)
    have := top_mono R.hst (i := i + 1) (i' := j) (by omega) (Nat.le_of_lt (Array.getElem?_eq_some_iff.1 j2).1)
    simp only at j4; omega
  obtain ⟨b1, b2, b3⟩ := big_ok h2 x1 f1 hr1 ht hxs
  have hk1 : κ1.le (κ1.join κ (st (i + 1)).t) := by
    have := Kap.below_le (κ1.join κ (st (i + 1)).t) (st (i + 1)).t
    rw [join_below hr1] at this; exact this
  have hxb : Ext κ0 (κ.below (st i).t) w0 := ⟨le_below R.hr I.le.le ht0, fun b hb => I.le.new b (im_le (Kap.below_le _ _) hb)⟩
  refine hnext (k + 1) _ xs' _ _ (R.after I ho hc hk b1 b3 b2 ⟨I.le.le.trans b2, fun b hb => ?_⟩ (I.frm.trans hxb f1) (fun p hp => ⟨h3 p hp, ?_⟩) h4 hv fun t _ => hw1.mono hk1)
  · rcases join_im' hb with hb | hb
    · rcases x1.new b hb with hb | hb
      · exact hxb.new b hb
      · exact .inr (Nat.le_trans I.frm.size hb)
    · exact I.le.new b hb
  · obtain ⟨o', b, l⟩ := p
    exact (h2.lt o' b l hp)
theorem Reg.bigskip (R : Reg P T ops N sp sq st B A rnd κ0 w0 ds) (I : Inv T ops N st B κ0 w0 ds Lp k κ xs a w) (hcl : Closed ops Lp) {i : Nat} {o : Oper} (ho : ops[i]? = some o) (hn : ¬ Lp i) (he : ∀ o', ops[i]? = some o' → ∀ e ∈ o'.after, Region.binds .any e = true → Lp e.on) (hc : cls T o = 3) (hpq : i = sq → sp < i → Lp sp)
    (hv : EnvIs N o .tn (st i).e (st (i + 1)).e) (hh : (st (i + 1)).h = (st i).h) (ht : (st (i + 1)).t = (st i).t) : ∃ xs', Inv T ops N st B κ0 w0 ds (fun j => Lp j ∨ j = i) (k + 1) κ xs' (a.put o.dst undef) w := by
  have hi : i < ops.size := (Array.getElem?_eq_some_iff.1 ho).1
  have hk := R.bigk I hcl ho hn he hc hpq
  obtain ⟨xs', h1, h2, h3, h4⟩ := I.adopt R.hst R.h0 (Nat.le_of_lt hi) hk fun j oj hj hoj hcj _ => by
    rcases R.S.big i o j oj ho hoj hj hc (.inr hcj) with hb | ⟨_, _, hb⟩
    · exact (mask_cl R.S.fw i o ho j hb).2.done hcl he
    · omega
  refine ⟨xs', R.after I ho hc hk (by rw [hh, ht]; exact h1) (by rw [ht]; exact h2) (Kap.le.refl κ) I.le I.frm (fun p hp => ⟨h3 p hp, ?_⟩) h4 hv fun t _ => WR.undef κ⟩
  obtain ⟨o', b, l⟩ := p
  exact (h2.lt o' b l hp)
/-- one operation, whichever it is -/
theorem Reg.step (R : Reg P T ops N sp sq st B A rnd κ0 w0 ds) (I : Inv T ops N st B κ0 w0 ds Lp k κ xs a w) (hcl : Closed ops Lp) {i : Nat} {o : Oper} (ho : ops[i]? = some o) (hn : ¬ Lp i) (he : ∀ e ∈ o.after, Region.binds .any e = true → Lp e.on) (hpq : i = sq → sp < i → Lp sp) {next : Act → World → Prop} {Q : Exit → Act → World → Prop}
    (hnext : ∀ k' κ' xs' a' w', Inv T ops N st B κ0 w0 ds (fun j => Lp j ∨ j = i) k' κ' xs' a' w' → next a' w') : oneIn (Fx rnd) P ops o a w next Q := by
  have he' : ∀ o', ops[i]? = some o' → ∀ e ∈ o'.after, Region.binds .any e = true → Lp e.on := by
    intro o' ho'; rw [ho] at ho'; injection ho' with ho'; subst ho'; exact he
  have hvals := R.vals I hcl ho hn he'
  have x0 : κ.x 0 = some (#[], #[]) := I.le.le.x _ _ R.x0
  have skip : GuardIs ops o (st i).e false → next (a.put o.dst undef) w → oneIn (Fx rnd) P ops o a w next Q := by
    intro hg h
    unfold oneIn
    rw [guard_wanted hg hvals]
    exact ⟨fun f _ => Fx.fn rnd f, h⟩
  have run : GuardIs ops o (st i).e true → o.wpIn (Fx rnd) 0 P a w next Q → oneIn (Fx rnd) P ops o a w next Q := by
    intro hg h
    unfold oneIn
    rw [guard_wanted hg hvals]
    exact h
  cases R.hst i o ho with
  | skip hc hg hv hh ht hs => exact skip hg (hnext _ _ _ _ _ (R.next1 I ho hc ht hv fun t _ => WR.undef κ))
  | pure v hd hc hg hv hh ht hs hf =>
    obtain ⟨h', top', hH⟩ := I.ex.all I.hr (Nat.le_refl _)
    obtain ⟨u, k1, k2⟩ := hf hH ⟨x0, fun t ht => hvals t (opTs_sub t ht)⟩
    exact run hg (wp_value hd k1 (hnext _ _ _ _ _ (R.next1 I ho (by omega) ht hv fun t _ => k2)))
  | look v hd hc hg hv hh ht hs hb hf =>
    obtain ⟨u, k1, k2⟩ := R.look I hcl ho hn he' hc hg hv hb @hf
    exact run hg (wp_value hd k1 (hnext _ _ _ _ _ (R.next1 I ho (by omega) ht hv k2)))
  | alloc v ob hd hc hg hv hh ht hs hb hf =>
    obtain ⟨u, w', κ', xs', k1, k2⟩ := R.alloc I hcl ho hn he' hc hv hh ht hb @hf
    exact run hg (wp_value hd k1 (hnext _ _ _ _ _ k2))
  | bigskip hc hg hv hh ht hs hr =>
    obtain ⟨xs', k1⟩ := R.bigskip I hcl ho hn he' hc hpq hv hh ht
    exact skip hg (hnext _ _ _ _ _ k1)
  | big v hc hg hv ht hs hr hb hf _ =>
    exact run hg ⟨fun f _ => Fx.fn rnd f, R.bigstep I hcl ho hn he' hc hpq hv ht hb @hf hnext⟩
/-- at the end -/
theorem Reg.fin (R : Reg P T ops N sp sq st B A rnd κ0 w0 ds) (I : Inv T ops N st B κ0 w0 ds Lp k κ xs a w) (hall : ∀ i, i < ops.size → Lp i) : Ext κ0 κ w0 ∧ Frm κ0 w0 w ∧ St P B A κ (st ops.size).e (st ops.size).h (st ops.size).t rnd N a w := by
  have hk : epF T ops ops.size = k := by
    have h1 := I.kle R.hst R.h0
    rcases Nat.lt_or_ge k (epF T ops ops.size) with h | h
    · obtain ⟨j, oj, j0, j1, j2, j3⟩ := ep_exists (T := T) (ops := ops) (Nat.le_refl _) h
      have := (I.big j oj j1 j2).1 (hall j j0)
      omega
    · omega
  obtain ⟨xs', h1, h2, h3, h4⟩ := I.adopt R.hst R.h0 (Nat.le_refl _) hk fun j oj hj _ _ _ => hall j hj
  have hnil : xs' = [] := by
    cases xs' with
    | nil => rfl
    | cons p r =>
      obtain ⟨o', b, l⟩ := p
      obtain ⟨j, oj, j1, j2, j3, j4, j5, j6⟩ := I.xin o' b l (h3 _ (List.mem_cons_self ..))
      have h5 := (h2.lt o' b l (List.mem_cons_self ..))
      have := top_mono R.hst (i := j + 1) (i' := ops.size) (Array.getElem?_eq_some_iff.1 j2).1 (Nat.le_refl _)
      omega
  subst hnil
  rw [below_all h2] at h1
  refine ⟨I.le, I.frm, h1, Nat.le_trans R.hB I.frm.size, Nat.le_trans R.hA I.frm.size, I.n, R.hN, ⟨I.le.le.x _ _ R.x0, fun t ht => I.env t ht fun j o ho _ => hall j (Array.getElem?_eq_some_iff.1 ho).1⟩, ?_, ?_⟩
  · rw [I.dfs, slot_later R.hst R.hN (Nat.le_refl _) (by omega) (by omega)]
    exact R.dr.keep I.le I.frm
  · rw [slot_later R.hst R.hN (Nat.le_refl _) (by omega) (by omega)]
    exact R.rr.mono I.le.le
/-- at the start -/
theorem Reg.start (R : Reg P T ops N sp sq st B A rnd κ0 w0 ds) {a : Act} (hn : a.tmps.size = N) (hd : a.defers = ds) (hv : ∀ t, t < 510 → WR κ0 (getE t (st 0).e) (a.tmps.getD t undef)) : Inv T ops N st B κ0 w0 ds (fun _ => False) 0 κ0 [] a w0 := by
  have h1 : κ0.below (st 0).t = κ0 := below_all fun o ho => by
    refine ⟨fun g => ?_, ?_, ?_⟩
    · cases hm : κ0.m o g with
      | none => rfl
      | some r => have := R.hr.topm _ _ _ hm; omega
    · cases hm : κ0.x o with
      | none => rfl
      | some r => have := R.hr.topx _ _ hm; omega
    · cases hm : κ0.q o with
      | none => rfl
      | some r => have := R.hr.topq _ _ hm; omega
  have h2 : Ex (st 0).t κ0 B w0 [] := fun o ho => by
    refine ⟨fun g => ?_, ?_, ?_⟩
    · cases hm : κ0.m o g with
      | none => rfl
      | some r => have := R.hr.topm _ _ _ hm; omega
    · cases hm : κ0.x o with
      | none => rfl
      | some r => have := R.hr.topx _ _ hm; omega
    · cases hm : κ0.q o with
      | none => rfl
      | some r => have := R.hr.topq _ _ hm; omega
  refine ⟨by rw [Ek_zero R.hst R.h0, h1]; exact R.hr, by rw [Ek_zero R.hst R.h0]; exact h2, Ext.refl _ _, Frm.refl _ _, hn, hd, fun o b l hm => (by cases hm), fun j oj hj => hj.elim, fun t ht hall => ?_, fun t ht _ => hv t ht, fun j oj _ _ => ⟨fun h => h.elim, fun h => by omega⟩, .inl rfl⟩
  rw [env_later R.hst (Nat.zero_le _) (Nat.le_refl _) (by omega) fun j oj _ _ q3 q4 => hall j oj q3 q4]
  exact hv t ht
end
/-- the operations of an order, and what comes behind them -/
def wpN (F : Fence) (n : Nat) (P : Program) (ops : Array Oper) (fin : Act → World → Prop) (Q : Exit → Act → World → Prop) : List Nat → Act → World → Prop
  | [], a, w => fin a w
  | i :: rest, a, w => match ops[i]? with
    | none => wpN F n P ops fin Q rest a w
    | some o => oneIn F P ops o a w (wpN F n P ops fin Q rest) Q
theorem wpN_eq {F : Fence} {ops : Array Oper} {Q : Exit → Act → World → Prop} {τ : List Nat} : ∀ (σ : List Nat), wpN F 0 P ops (wpOpsIn F 0 P ops Q τ) Q σ = wpOpsIn F 0 P ops Q (σ ++ τ)
  | [] => rfl
  | i :: σ => by
    funext a w
    rw [List.cons_append]
    unfold wpN wpOpsIn
    rw [wpN_eq σ]
    cases ops[i]? <;> rfl
theorem lin_any (R : Reg P T ops N sp sq st B A rnd κ0 w0 ds) (hno : sp = sq) {fin : Act → World → Prop} {Q : Exit → Act → World → Prop} (hQ : ∀ κ' a' w', Ext κ0 κ' w0 → Frm κ0 w0 w' → St P B A κ' (st ops.size).e (st ops.size).h (st ops.size).t rnd N a' w' → fin a' w') :
    ∀ {Lp : Nat → Prop} {σ : List Nat}, Lin ops Lp σ → Closed ops Lp → ∀ {k : Nat} {κ : Kap} {xs : List (Nat × Nat × Ob)} {a : Act} {w : World}, Inv T ops N st B κ0 w0 ds Lp k κ xs a w → wpN (Fx rnd) 0 P ops fin Q σ a w := by
  intro Lp σ hL
  induction hL with
  | nil h =>
    intro hcl k κ xs a w I
    obtain ⟨h1, h2, h3⟩ := R.fin I h
    exact hQ κ a w h1 h2 h3
  | @cons Lp Lp' i o σ ho hn he hLp _ ih =>
    intro hcl k κ xs a w I
    have hcl' : Closed ops Lp' := by
      intro j hj oj hoj e hem hb
      rcases (hLp j).1 hj with h | h
      · exact (hLp _).2 (.inl (hcl j h oj hoj e hem hb))
      · subst h; rw [ho] at hoj; injection hoj with hoj; subst hoj; exact (hLp _).2 (.inl (he e hem hb))
    have hstep := R.step (rnd := rnd) I hcl ho hn he (fun h1 h2 => by omega) (Q := Q) (next := wpN (Fx rnd) 0 P ops fin Q σ) fun k' κ' xs' a' w' I' => ih hcl' (by
      have : (fun j => Lp j ∨ j = i) = Lp' := by funext j; exact propext (hLp j).symm
      rw [this] at I'; exact I')
    unfold wpN
    rw [ho]
    exact hstep
end Go.Proofs.YtjkbljgolcdhhaaGreatDoor.Fw.Cm

/- Drawn regions: two stores at the end, in either order. -/
namespace Go.Proofs.YtjkbljgolcdhhaaGreatDoor.Fw.Cm
open Go Go.RowKit Go.WideShapes
theorem HR.same {B : Nat} {κ : Kap} {h h' : H} {top : Nat} {w : World} (hr : HR B κ h top w) (he : ∀ o, obj o h' = obj o h) : HR B κ h' top w := by
  have ha : ∀ o g, alive h' o g = alive h o g := fun o g => by unfold alive; rw [he]
  exact ⟨fun o g b d n hm => by rw [he]; exact hr.cell o g b d n hm, fun o g b d n o' g' d' n' h1 h2 h3 h4 => hr.inj _ _ _ _ _ _ _ _ _ h1 h2 (by rw [← ha]; exact h3) (by rw [← ha]; exact h4), hr.ge, fun o us cs hc => by rw [he]; exact hr.clo o us cs hc, fun o b hq => by rw [he]; exact hr.que o b hq, hr.qinj, hr.topm, hr.topx, hr.topq⟩
theorem HR.non {B : Nat} {κ : Kap} {h : H} {top : Nat} {w : World} (hr : HR B κ h top w) : ∀ o, top ≤ o → κ.non o := fun o ho => by
  refine ⟨fun g => ?_, ?_, ?_⟩
  · cases hm : κ.m o g with
    | none => rfl
    | some r => have := hr.topm _ _ _ hm; omega
  · cases hm : κ.x o with
    | none => rfl
    | some r => have := hr.topx _ _ hm; omega
  · cases hm : κ.q o with
    | none => rfl
    | some r => have := hr.topq _ _ hm; omega
variable {P : Program} {T : TT} {ops : Array Oper} {N sp sq : Nat} {st : Nat → S4}
variable {B A : Nat} {rnd : Option Nat} {κ0 : Kap} {w0 : World} {ds : List Deferred} {Lp : Nat → Prop} {k : Nat} {κ : Kap} {xs : List (Nat × Nat × Ob)} {a : Act} {w : World}
theorem Stp.flat {i : Nat} {o : Oper} {s s' : S4} (h : Stp P T ops N i o s s') (hc : cls T o = 0) : s'.h = s.h ∧ s'.t = s.t := by
  cases h with
  | skip _ _ _ hh ht _ => exact ⟨hh, ht⟩
  | pure _ _ _ _ _ hh ht _ _ => exact ⟨hh, ht⟩
  | look _ _ _ _ _ hh ht _ _ _ => exact ⟨hh, ht⟩
  | bigskip h => omega
  | big _ h => omega
  | alloc _ _ _ h => omega
theorem flat (hst : ∀ j o, ops[j]? = some o → Stp P T ops N j o (st j) (st (j + 1))) {i i' : Nat} (hii : i ≤ i') (hi : i' ≤ ops.size) (h0 : ∀ j o, i ≤ j → j < i' → ops[j]? = some o → cls T o = 0) : (st i').h = (st i).h ∧ (st i').t = (st i).t ∧ epF T ops i' = epF T ops i := by
  induction hii with
  | refl => exact ⟨rfl, rfl, rfl⟩
  | @step m hm ih =>
    have ho : ops[m]? = some ops[m] := Array.getElem?_eq_getElem (by omega)
    have hc := h0 m _ hm (by omega) ho
    obtain ⟨h1, h2⟩ := (hst m _ ho).flat hc
    obtain ⟨h3, h4, h5⟩ := ih (by omega) fun j o a b => h0 j o a (by omega)
    exact ⟨h1.trans h3, h2.trans h4, by rw [epF_succ ho, hc]; simpa using h5⟩
/-- the two stores -/
structure Swap (P : Program) (T : TT) (ops : Array Oper) (sp sq : Nat) (st : Nat → S4) (op oq : Oper) (o1 o2 : Nat) (x1 x2 : Ob) : Prop where
  lt : sp < sq
  hp : ops[sp]? = some op
  hq : ops[sq]? = some oq
  cp : cls T op = 3
  cq : cls T oq = 3
  dp : op.dst = none
  dq : oq.dst = none
  gp : op.guard = none
  gq : oq.guard = none
  np : ∀ c, op.op ≠ .defer c
  nq : ∀ c, oq.op ≠ .defer c
  oth : ∀ j o, ops[j]? = some o → j ≠ sp → j ≠ sq → cls T o ≠ 0 → j < sp ∧ tb (mkF T ops sp op) j = true ∧ tb (mkF T ops sq oq) j = true
  h1 : (st (sp + 1)).h = seto o1 x1 (st sp).h
  t1 : (st (sp + 1)).t = (st sp).t
  f1 : SF P op (st sp).e o1 (obj o1 (st sp).h) x1
  h2 : (st (sq + 1)).h = seto o2 x2 (st sq).h
  t2 : (st (sq + 1)).t = (st sq).t
  f2 : SF P oq (st sq).e o2 (obj o2 (st sq).h) x2
  ne : o1 ≠ o2
/-- the later one has run, the earlier one has not -/
structure InvS (ops : Array Oper) (N : Nat) (st : Nat → S4) (B : Nat) (κ0 : Kap) (w0 : World) (ds : List Deferred) (sp o2 : Nat) (x2 : Ob) (Lp : Nat → Prop) (κ : Kap) (a : Act) (w : World) : Prop where
  hr : HR B κ (seto o2 x2 (st sp).h) (st sp).t w
  le : Ext κ0 κ w0
  frm : Frm κ0 w0 w
  n : a.tmps.size = N
  dfs : a.defers = ds
  env : ∀ t, t < 510 → (∀ j o, ops[j]? = some o → o.dst = some t → Lp j) → WR κ (getE t (st ops.size).e) (a.tmps.getD t undef)
  old : ∀ t, t < 510 → (∀ j o, ops[j]? = some o → o.dst = some t → ¬ Lp j) → WR κ (getE t (st 0).e) (a.tmps.getD t undef)
theorem wp_nx {o : Oper} (hd : ∀ c, o.op ≠ .defer c) {u : Value} {nx : Next} {w w' : World} {a : Act} {next : Act → World → Prop} {Q : Exit → Act → World → Prop} (hrun : (execOp a.eval o).run P w = .ok nx w') (hnx : nx = .value u ∨ (nx = .skip ∧ u = undef)) (hn : next (a.put o.dst u) w') : o.wpIn (Fx rnd) 0 P a w next Q :=
  ⟨fun f _ => Fx.fn rnd f, by
    rw [Oper.semAt_eq _ _ _ hd, hrun]
    rcases hnx with rfl | ⟨rfl, rfl⟩
    · rw [Oper.uponIn_value]; exact hn
    · rw [Oper.uponIn_skip]; exact hn⟩
theorem one_none {o : Oper} (hg : o.guard = none) {a : Act} {w : World} {next : Act → World → Prop} {Q : Exit → Act → World → Prop} (h : o.wpIn (Fx rnd) 0 P a w next Q) : oneIn (Fx rnd) P ops o a w next Q := by
  unfold oneIn
  have : Region.wanted o (yielded ops a.tmps) = true := by unfold Region.wanted; rw [hg]
  rw [if_pos this]; exact h
section
variable {op oq : Oper} {o1 o2 : Nat} {x1 x2 : Ob}
theorem Swap.mid (R : Reg P T ops N sp sq st B A rnd κ0 w0 ds) (Z : Swap P T ops sp sq st op oq o1 o2 x1 x2) : (st sq).h = seto o1 x1 (st sp).h ∧ (st sq).t = (st sp).t := by
  have hq : sq < ops.size := (Array.getElem?_eq_some_iff.1 Z.hq).1
  obtain ⟨h1, h2, _⟩ := flat R.hst (i := sp + 1) (i' := sq) Z.lt (Nat.le_of_lt hq) fun j o q1 q2 q3 => by
    rcases Nat.eq_zero_or_pos (cls T o) with h | h
    · exact h
    · have := (Z.oth j o q3 (by omega) (by omega) (by omega)).1; omega
  exact ⟨h1.trans Z.h1, h2.trans Z.t1⟩
theorem Swap.last (R : Reg P T ops N sp sq st B A rnd κ0 w0 ds) (Z : Swap P T ops sp sq st op oq o1 o2 x1 x2) : epF T ops ops.size = epF T ops sq + 1 := by
  have hq : sq < ops.size := (Array.getElem?_eq_some_iff.1 Z.hq).1
  obtain ⟨_, _, h⟩ := flat R.hst (i := sq + 1) (i' := ops.size) hq (Nat.le_refl _) fun j o q1 q2 q3 => by
    rcases Nat.eq_zero_or_pos (cls T o) with h | h
    · exact h
    · have := Z.lt; have := (Z.oth j o q3 (by omega) (by omega) (by omega)).1; omega
  rw [h, epF_succ Z.hq, if_pos Z.cq]
theorem Swap.enter (R : Reg P T ops N sp sq st B A rnd κ0 w0 ds) (Z : Swap P T ops sp sq st op oq o1 o2 x1 x2) (I : Inv T ops N st B κ0 w0 ds Lp k κ xs a w) (hcl : Closed ops Lp) (hn : ¬ Lp sq) (hnp : ¬ Lp sp) (he : ∀ o', ops[sq]? = some o' → ∀ e ∈ o'.after, Region.binds .any e = true → Lp e.on) :
    ∃ κ' u w' nx, (execOp a.eval oq).run P w = .ok nx w' ∧ (nx = .value u ∨ (nx = .skip ∧ u = undef)) ∧ InvS ops N st B κ0 w0 ds sp o2 x2 (fun j => Lp j ∨ j = sq) κ' (a.put oq.dst u) w' := by
  have hlt := Z.lt
  have hq : sq < ops.size := (Array.getElem?_eq_some_iff.1 Z.hq).1
  have hoth : ∀ j o, ops[j]? = some o → j ≠ sp → j ≠ sq → cls T o ≠ 0 → j < sp ∧ Lp j := fun j o q1 q2 q3 q4 => by
    obtain ⟨r1, _, r2⟩ := Z.oth j o q1 q2 q3 q4
    exact ⟨r1, (mask_cl R.S.fw sq oq Z.hq j r2).2.done hcl he⟩
  have hk : epF T ops sp = k := by
    have h1 : ¬ epF T ops sp < k := fun h => hnp ((I.big sp op Z.hp Z.cp).2 h)
    rcases Nat.lt_or_ge k (epF T ops sp) with h | h
    · obtain ⟨j, oj, j0, j1, j2, j3⟩ := ep_exists (T := T) (ops := ops) (by omega) h
      have := (I.big j oj j1 j2).1 (hoth j oj j1 (by omega) (by omega) (by omega)).2
      omega
    · omega
  obtain ⟨xs', h1, h2, h3, h4⟩ := I.adopt R.hst R.h0 (i := sp) (by omega) hk fun j oj q1 q2 q3 _ => (hoth j oj q2 (by omega) (by omega) (by omega)).2
  have hnil : xs' = [] := by
    cases xs' with
    | nil => rfl
    | cons p r =>
      obtain ⟨o', b, l⟩ := p
      obtain ⟨j, oj, j1, j2, j3, j4, j5, j6⟩ := I.xin o' b l (h3 _ (List.mem_cons_self ..))
      have h5 := (h2.lt o' b l (List.mem_cons_self ..))
      have hjp : j ≠ sp := fun e => hnp (e ▸ j1)
      have hjq : j ≠ sq := fun e => hn (e ▸ j1)
      have := (hoth j oj j2 hjp hjq (by omega)).1
      have := top_mono R.hst (i := j + 1) (i' := sp) (by omega) (by omega)
      omega
  subst hnil
  rw [below_all h2] at h1
  have hvals := R.vals I hcl Z.hq hn he
  obtain ⟨m1, m2⟩ := Z.mid R
  have hob : obj o2 (st sp).h = obj o2 (st sq).h := by rw [m1, obj_seto, if_neg (fun e => Z.ne e.symm)]
  obtain ⟨κ', u, w', nx, p1, p2, p3, p4, p5, p6⟩ := Z.f2 h1 (Nat.le_trans R.hB I.frm.size) hob ⟨I.le.le.x _ _ R.x0, fun t ht => hvals t (opTs_sub t ht)⟩
  obtain ⟨v, hv⟩ := (R.hst sq oq Z.hq).env
  exact ⟨κ', u, w', nx, p1, p2, p3, I.le.trans I.frm.size p4, I.frm.trans I.le p5, by rw [put_size]; exact I.n, by rw [put_defers]; exact I.dfs, R.envputG I.n I.env Z.hq p4.le hv fun t ht => (by rw [Z.dq] at ht; cases ht), R.oldputG I.old Z.hq p4.le⟩
theorem Swap.step (R : Reg P T ops N sp sq st B A rnd κ0 w0 ds) (Z : Swap P T ops sp sq st op oq o1 o2 x1 x2) (J : InvS ops N st B κ0 w0 ds sp o2 x2 Lp κ a w) (hcl : Closed ops Lp) (hLq : Lp sq) {i : Nat} {o : Oper} (ho : ops[i]? = some o) (hn : ¬ Lp i) (hip : i ≠ sp) (he : ∀ e ∈ o.after, Region.binds .any e = true → Lp e.on) {next : Act → World → Prop} {Q : Exit → Act → World → Prop}
    (hnext : ∀ a', InvS ops N st B κ0 w0 ds sp o2 x2 (fun j => Lp j ∨ j = i) κ a' w → next a' w) : oneIn (Fx rnd) P ops o a w next Q := by
  have he' : ∀ o', ops[i]? = some o' → ∀ e ∈ o'.after, Region.binds .any e = true → Lp e.on := by
    intro o' ho'; rw [ho] at ho'; injection ho' with ho'; subst ho'; exact he
  have hiq : i ≠ sq := fun e => hn (e ▸ hLq)
  have hc : cls T o = 0 := by
    rcases Nat.eq_zero_or_pos (cls T o) with h | h
    · exact h
    · exact absurd ((mask_cl R.S.fw sq oq Z.hq i (Z.oth i o ho hip hiq (by omega)).2.2).2.done hcl fun o' ho' e => hcl sq hLq o' ho' e) hn
  have hvals := R.valsG J.env J.old hcl ho hn he'
  have put : ∀ {v : W} {u : Value}, EnvIs N o v (st i).e (st (i + 1)).e → WR κ v u → next (a.put o.dst u) w := fun hv hu =>
    hnext _ ⟨J.hr, J.le, J.frm, by rw [put_size]; exact J.n, by rw [put_defers]; exact J.dfs, R.envputG J.n J.env ho (Kap.le.refl κ) hv fun _ _ => hu, R.oldputG J.old ho (Kap.le.refl κ)⟩
  cases R.hst i o ho with
  | skip _ hg hv hh ht hs =>
    unfold oneIn
    rw [guard_wanted hg hvals]
    exact ⟨fun f _ => Fx.fn rnd f, put hv (WR.undef κ)⟩
  | pure v hd _ hg hv hh ht hs hf =>
    obtain ⟨u, k1, k2⟩ := hf J.hr ⟨J.le.le.x _ _ R.x0, fun t ht => hvals t (opTs_sub t ht)⟩
    unfold oneIn
    rw [guard_wanted hg hvals]
    exact wp_value hd k1 (put hv k2)
  | look _ _ h => omega
  | alloc _ _ _ h => omega
  | bigskip h => omega
  | big _ h => omega
theorem Swap.leave (R : Reg P T ops N sp sq st B A rnd κ0 w0 ds) (Z : Swap P T ops sp sq st op oq o1 o2 x1 x2) (J : InvS ops N st B κ0 w0 ds sp o2 x2 Lp κ a w) (hcl : Closed ops Lp) (hLq : Lp sq) (hn : ¬ Lp sp) (he : ∀ o', ops[sp]? = some o' → ∀ e ∈ o'.after, Region.binds .any e = true → Lp e.on) :
    ∃ κ' u w' nx, (execOp a.eval op).run P w = .ok nx w' ∧ (nx = .value u ∨ (nx = .skip ∧ u = undef)) ∧ Inv T ops N st B κ0 w0 ds (fun j => Lp j ∨ j = sp) (epF T ops ops.size) κ' [] (a.put op.dst u) w' := by
  have hlt := Z.lt
  have hq : sq < ops.size := (Array.getElem?_eq_some_iff.1 Z.hq).1
  have hvals := R.valsG J.env J.old hcl Z.hp hn he
  have hoth : ∀ j o, ops[j]? = some o → j ≠ sp → cls T o ≠ 0 → Lp j := fun j o q1 q2 q4 => by
    by_cases hj : j = sq
    · rw [hj]; exact hLq
    · exact (mask_cl R.S.fw sq oq Z.hq j (Z.oth j o q1 q2 hj q4).2.2).2.done hcl fun o' ho' e => hcl sq hLq o' ho' e
  have hob : obj o1 (seto o2 x2 (st sp).h) = obj o1 (st sp).h := by rw [obj_seto, if_neg Z.ne]
  obtain ⟨κ', u, w', nx, p1, p2, p3, p4, p5, p6⟩ := Z.f1 J.hr (Nat.le_trans R.hB J.frm.size) hob ⟨J.le.le.x _ _ R.x0, fun t ht => hvals t (opTs_sub t ht)⟩
  obtain ⟨v, hv⟩ := (R.hst sp op Z.hp).env
  obtain ⟨m1, m2⟩ := Z.mid R
  have hlast := Z.last R
  have hek := Ek_big R.hst R.h0 Z.hq Z.cq
  rw [← hlast] at hek
  have hH : HR B κ' (st (sq + 1)).h (st (sq + 1)).t w' := by
    rw [Z.t2, m2, Z.h2, m1]
    refine p3.same fun o => ?_
    rw [obj_seto, obj_seto, obj_seto, obj_seto]
    by_cases h1 : o = o1
    · subst h1; simp [Z.ne]
    · by_cases h2 : o = o2
      · subst h2; simp [h1]
      · simp [h1, h2]
  refine ⟨κ', u, w', nx, p1, p2, ?_, ?_, J.le.trans J.frm.size p4, J.frm.trans J.le p5, by rw [put_size]; exact J.n, by rw [put_defers]; exact J.dfs, fun o b l hm => (by cases hm), fun j oj hj hoj hcj htj hkj => ?_, R.envputG J.n J.env Z.hp p4.le hv fun t ht => (by rw [Z.dp] at ht; cases ht), R.oldputG J.old Z.hp p4.le, fun j oj hoj hcj => ⟨fun _ => ?_, fun _ => ?_⟩, .inr ⟨sq, oq, Z.hq, Z.cq, hlast.symm, .inl hLq⟩⟩
  · rw [hek]
    show HR B (κ'.below (st (sq + 1)).t) _ _ w'
    rw [below_all hH.non]; exact hH
  · rw [hek]; exact hH.non
  · exfalso
    have hjs := (Array.getElem?_eq_some_iff.1 hoj).1
    have hjp : j ≠ sp := fun e => by subst e; rw [Z.hp] at hoj; injection hoj with hoj; subst hoj; have := Z.cp; omega
    have hjq : j ≠ sq := fun e => by subst e; rw [Z.hq] at hoj; injection hoj with hoj; subst hoj; have := Z.cq; omega
    have hj' := (Z.oth j oj hoj hjp hjq (by omega)).1
    have := epF_mono (T := T) (ops := ops) (i := j) (j := sq) (by omega)
    omega
  · have hjs := (Array.getElem?_eq_some_iff.1 hoj).1
    have := epF_mono (T := T) (ops := ops) (i := j + 1) (j := ops.size) (by omega)
    rw [epF_succ hoj, if_pos hcj] at this; omega
  · by_cases hj : j = sp
    · exact .inr hj
    · exact .inl (hoth j oj hoj hj (by omega))
theorem lin_swap (R : Reg P T ops N sp sq st B A rnd κ0 w0 ds) (Z : Swap P T ops sp sq st op oq o1 o2 x1 x2) {fin : Act → World → Prop} {Q : Exit → Act → World → Prop} (hQ : ∀ κ' a' w', Ext κ0 κ' w0 → Frm κ0 w0 w' → St P B A κ' (st ops.size).e (st ops.size).h (st ops.size).t rnd N a' w' → fin a' w') :
    ∀ {Lp : Nat → Prop} {σ : List Nat}, Lin ops Lp σ → Closed ops Lp → ∀ {a : Act} {w : World}, ((∃ k κ xs, Inv T ops N st B κ0 w0 ds Lp k κ xs a w) ∧ (Lp sq → Lp sp)) ∨ ((∃ κ, InvS ops N st B κ0 w0 ds sp o2 x2 Lp κ a w) ∧ Lp sq ∧ ¬ Lp sp) → wpN (Fx rnd) 0 P ops fin Q σ a w := by
  have hlt := Z.lt
  have hps : sp < ops.size := (Array.getElem?_eq_some_iff.1 Z.hp).1
  intro Lp σ hL
  induction hL with
  | nil h =>
    intro hcl a w hm
    rcases hm with ⟨⟨k, κ, xs, I⟩, _⟩ | ⟨_, _, h2⟩
    · obtain ⟨h1, h2, h3⟩ := R.fin I h
      exact hQ κ a w h1 h2 h3
    · exact absurd (h sp hps) h2
  | @cons Lp Lp' i o σ ho hn he hLp _ ih =>
    intro hcl a w hm
    have hcl' : Closed ops Lp' := by
      intro j hj oj hoj e hem hb
      rcases (hLp j).1 hj with h | h
      · exact (hLp _).2 (.inl (hcl j h oj hoj e hem hb))
      · subst h; rw [ho] at hoj; injection hoj with hoj; subst hoj; exact (hLp _).2 (.inl (he e hem hb))
    have he' : ∀ o', ops[i]? = some o' → ∀ e ∈ o'.after, Region.binds .any e = true → Lp e.on := by
      intro o' ho'; rw [ho] at ho'; injection ho' with ho'; subst ho'; exact he
    have hfun : (fun j => Lp j ∨ j = i) = Lp' := by funext j; exact propext (hLp j).symm
    unfold wpN
    rw [ho]
    show oneIn (Fx rnd) P ops o a w (wpN (Fx rnd) 0 P ops fin Q σ) Q
    rcases hm with ⟨⟨k, κ, xs, I⟩, hqp⟩ | ⟨⟨κ, J⟩, hLq, hnp⟩
    · by_cases hi : i = sq ∧ ¬ Lp sp
      · obtain ⟨rfl, hnp⟩ := hi
        rw [Z.hq] at ho; injection ho with ho; subst ho
        obtain ⟨κ', u, w', nx, p1, p2, p3⟩ := Z.enter R I hcl hn hnp he'
        rw [hfun] at p3
        exact one_none Z.gq (wp_nx Z.nq p1 p2 (ih hcl' (.inr ⟨⟨κ', p3⟩, (hLp _).2 (.inr rfl), fun h => ((hLp _).1 h).elim hnp fun h => by omega⟩)))
      · have hpq : i = sq → Lp sp := fun h => by
          by_cases hp : Lp sp
          · exact hp
          · exact absurd ⟨h, hp⟩ hi
        refine R.step I hcl ho hn he (fun h _ => hpq h) fun k' κ' xs' a' w' I' => ih hcl' (.inl ⟨⟨k', κ', xs', by rw [hfun] at I'; exact I'⟩, fun h => ?_⟩)
        rcases (hLp _).1 h with h | h
        · exact (hLp _).2 (.inl (hqp h))
        · exact (hLp _).2 (.inl (hpq h.symm))
    · by_cases hi : i = sp
      · subst hi
        rw [Z.hp] at ho; injection ho with ho; subst ho
        obtain ⟨κ', u, w', nx, p1, p2, p3⟩ := Z.leave R J hcl hLq hn he'
        rw [hfun] at p3
        exact one_none Z.gp (wp_nx Z.np p1 p2 (ih hcl' (.inl ⟨⟨_, κ', _, p3⟩, fun _ => (hLp _).2 (.inr rfl)⟩)))
      · refine Z.step R J hcl hLq ho hn hi he fun a' J' => ih hcl' (.inr ⟨⟨κ, by rw [hfun] at J'; exact J'⟩, (hLp _).2 (.inl hLq), fun h => ((hLp _).1 h).elim hnp fun h => hi h.symm⟩)
end
end Go.Proofs.YtjkbljgolcdhhaaGreatDoor.Fw.Cm

/- Drawn regions: the evaluator of a region tells the truth in every order (of the order that it was evaluated in). -/
namespace Go.Proofs.YtjkbljgolcdhhaaGreatDoor.Fw.Cm
open Go Go.RowKit Go.WideShapes
variable {P : Program} {T : TT} {ops : Array Oper} {N sp sq : Nat} {st : Nat → S4}
theorem infoL_eq : ∀ (l : List Oper) (i : Nat), ops.toList.drop i = l → infoL T ops.toList l i (preF T ops i) = preF T ops (i + l.length)
  | [], i, _ => rfl
  | o :: l, i, hd => by
    have ho : ops[i]? = some o := by
      have : ops.toList[i]? = some o := by
        have := congrArg List.head? hd
        simpa [List.head?_drop] using this
      simpa using this
    have hd' : ops.toList.drop (i + 1) = l := by
      have := congrArg List.tail hd
      simpa [List.tail_drop] using this
    have := infoL_eq l (i + 1) hd'
    rw [preF_succ ho] at this
    show infoL T ops.toList l (i + 1) (piF T ops i o :: preF T ops i) = _
    rw [this]
    congr 1
    simp only [List.length_cons]; omega
theorem lenL_eq : ∀ (l : List Oper), lenL l = l.length
  | [] => rfl
  | _ :: l => congrArg Nat.succ (lenL_eq l)
theorem preM_get {i j : Nat} {o : Oper} (hi : i ≤ ops.size) (hj : j < i) (ho : ops[j]? = some o) : preM (preF T ops i) (i - 1 - j) = mkF T ops j o ∧ preT (preF T ops i) (i - 1 - j) = gTs ops.toList o := by
  have h := (preF_get (T := T) (ops := ops) hi).2 j o hj ho
  unfold preM preT
  rw [nth_eq, h]
  exact ⟨rfl, rfl⟩
theorem isStore_ok {o : Oper} (h : isStore o = true) : (∃ ty x y, o.op = .store ty x y) ∧ o.guard = none ∧ o.dst = none := by
  unfold isStore at h
  split at h
  · rename_i h1 h2 h3; exact ⟨⟨_, _, _, h1⟩, h2, h3⟩
  · cases h
theorem store_cls {o : Oper} {ty : TypeId} {x y : Operand} (h : o.op = .store ty x y) : cls T o = 3 := by
  unfold cls pureO allocO lookO
  rw [h]
theorem swL_ok {mp mq : Nat} {tp tq : List Nat} : ∀ {i : Nat}, i ≤ ops.size → swL mp mq tp tq sp sq (preF T ops i) i = true → ∀ j o, j < i → ops[j]? = some o →
    ((j = sp ∨ j = sq) → isStore o = true) ∧ (¬ (j = sp ∨ j = sq) → cls T o = 0 ∨ (j < sp ∧ tb mp j = true ∧ tb mq j = true)) ∧ (sp ≤ j → ∀ t, o.dst = some t → t ∉ tp) ∧ (sq ≤ j → ∀ t, o.dst = some t → t ∉ tq)
  | 0, _, _, j, o, hj, _ => by omega
  | i + 1, hi, h, j, o, hj, ho => by
    have hoi : ops[i]? = some ops[i] := Array.getElem?_eq_getElem (by omega)
    rw [preF_succ hoi] at h
    obtain ⟨h1, h⟩ := and'_iff.1 (show and' (match or' (Nat.beq i sp) (Nat.beq i sq) with
      | true => isStore ops[i]
      | false => or' (Nat.beq (cls T ops[i]) 0) (and' (Nat.blt i sp) (and' (tb mp i) (tb mq i))))
      (and' (imp' (Nat.ble sp i) (not' (hit ops[i].dst tp))) (and' (imp' (Nat.ble sq i) (not' (hit ops[i].dst tq))) (swL mp mq tp tq sp sq (preF T ops i) i))) = true from h)
    obtain ⟨h2, h⟩ := and'_iff.1 h
    obtain ⟨h3, h4⟩ := and'_iff.1 h
    by_cases hji : j = i
    · subst hji
      rw [hoi] at ho; injection ho with ho; subst ho
      refine ⟨fun hp => ?_, fun hp => ?_, fun hp t ht hm => ?_, fun hp t ht hm => ?_⟩
      · have : or' (Nat.beq j sp) (Nat.beq j sq) = true := or'_iff.2 (hp.imp beq_iff.2 beq_iff.2)
        rw [this] at h1; exact h1
      · have : or' (Nat.beq j sp) (Nat.beq j sq) = false := by
          cases hb : or' (Nat.beq j sp) (Nat.beq j sq) with
          | false => rfl
          | true => exact absurd ((or'_iff.1 hb).imp beq_iff.1 beq_iff.1) hp
        rw [this] at h1
        rcases or'_iff.1 h1 with h1 | h1
        · exact .inl (beq_iff.1 h1)
        · obtain ⟨k1, k2⟩ := and'_iff.1 h1
          exact .inr ⟨blt_iff.1 k1, and'_iff.1 k2⟩
      · have := not'_iff.1 (imp'_iff.1 h2 (Nat.ble_eq_true_of_le hp))
        rw [hit_of ht hm] at this; cases this
      · have := not'_iff.1 (imp'_iff.1 h3 (Nat.ble_eq_true_of_le hp))
        rw [hit_of ht hm] at this; cases this
    · exact swL_ok (by omega) h4 j o (by omega) ho
theorem evb_same {x : Operand} {g : E → W} (h : evb x = .mk g) {e e' : E} (ht : ∀ t, x = .tmp t → getE t e = getE t e') : g e = g e' := by
  cases x with
  | tmp t => obtain ⟨rfl, _⟩ := evb_tmp h; exact ht t rfl
  | const v =>
    unfold evb at h
    simp only at h
    split at h
    · injection h with h; subst h; rfl
    · cases h
  | func f => unfold evb at h; injection h with h; subst h; rfl
  | global _ => unfold evb at h; cases h
theorem swK_ok {all : List Oper} {c : E → R → R} (h : swK all sp sq = .mk c) {e : E} {k r : R} (hr : Good r) (he : c e k = r) : ∃ f g o1 g1 f1 o2 g2 f2, adr all sp = .mk f ∧ adr all sq = .mk g ∧ f e = .o (.p o1 g1 f1) ∧ g e = .o (.p o2 g2 f2) ∧ o1 ≠ o2 ∧ k = r := by
  unfold swK at h
  cases hf : adr all sp with
  | no => rw [hf] at h; cases h
  | mk f =>
    rw [hf] at h
    cases hg : adr all sq with
    | no => rw [hg] at h; cases h
    | mk g =>
      rw [hg] at h
      injection h with h; subst h
      obtain ⟨v, h1, he⟩ := W.v_ok he hr
      replace he := V.ptr_ok he hr; obtain ⟨o1, g1, f1, rfl, he⟩ := he
      obtain ⟨v2, h2, he⟩ := W.v_ok he hr
      replace he := V.ptr_ok he hr; obtain ⟨o2, g2, f2, rfl, he⟩ := he
      obtain ⟨h3, he⟩ := gd_ok he hr
      refine ⟨f, g, o1, g1, f1, o2, g2, f2, rfl, rfl, h1, h2, fun e => ?_, he⟩
      have := not'_iff.1 h3
      rw [beq_iff.2 e] at this; cases this
theorem adr_ok {i : Nat} {o : Oper} (ho : ops[i]? = some o) {ty : TypeId} {x y : Operand} (hop : o.op = .store ty x y) {f : E → W} (h : adr ops.toList i = .mk f) : evb x = .mk f := by
  unfold adr at h
  rw [nth_eq, Array.getElem?_toList, ho] at h
  simp only [hop] at h
  exact h
theorem Stp.store {i : Nat} {o : Oper} {s s' : S4} (h : Stp P T ops N i o s s') (hs : isStore o = true) : SFact P o s s' := by
  obtain ⟨⟨ty, x, y, hop⟩, hg, hd⟩ := isStore_ok hs
  have hc : cls T o = 3 := store_cls hop
  cases h with
  | big v _ _ _ _ _ _ _ _ hsf => exact hsf
  | skip h => exact absurd hc h
  | pure _ _ h => omega
  | alloc _ _ _ h => omega
  | look _ _ h => omega
  | bigskip _ hgf =>
    unfold GuardIs at hgf
    rw [hg] at hgf; cases hgf
theorem regS_ok (hT : T.okB P = true) (hN : N ≤ 500) {F : Rc → E → H → Nat → HL → KD → R} (h : regS P T N ops.toList (infoL T ops.toList ops.toList 0 []) (lenL ops.toList) = .mk F) {rc : Rc} {e : E} {hh : H} {top : Nat} {r : R} (hrc : RcS P rc) (hr : Good r)
    {K0 : KD} (he : F rc e hh top (.cons hh top .nil) K0 = r) {B A : Nat} {κ : Kap} {rnd : Option Nat} {a : Act} {w : World} (s : St P B A κ e hh top rnd N a w) :
    ∃ e' h' top' hs', K0 e' h' top' hs' = r ∧ ∀ {a1 : Act} {w1 : World}, a1 = a → St P B A κ e hh top rnd N a1 w1 → ∀ {fin : Act → World → Prop} {Q : Exit → Act → World → Prop}, (∀ κ' a' w', Ext κ κ' w1 → Frm κ w1 w' → St P B A κ' e' h' top' rnd N a' w' → fin a' w') → ∀ σ, Lin ops (fun _ => False) σ → wpN (Fx rnd) 0 P ops fin Q σ a1 w1 := by
  have hinfo : infoL T ops.toList ops.toList 0 [] = preF T ops ops.size := by
    have := infoL_eq (T := T) (ops := ops) ops.toList 0 rfl
    rw [Nat.zero_add, Array.length_toList] at this
    exact this
  have hlen : lenL ops.toList = ops.size := by rw [lenL_eq]; simp
  rw [hinfo, hlen] at h
  have main : ∀ {sp sq : Nat} {f : Rc → E → H → Nat → HL → KD → R}, regD P T N ops.toList sp sq ops.toList 0 [] = .mk f → ∀ {K : KD} {r : R}, Good r → f rc e hh top (.cons hh top .nil) K = r →
      ∃ st : Nat → S4, K (st ops.size).e (st ops.size).h (st ops.size).t (st ops.size).hs = r ∧ ∀ {a : Act} {w : World}, St P B A κ e hh top rnd N a w → Reg P T ops N sp sq st B A rnd κ w a.defers ∧ (∀ t, t < 510 → WR κ (getE t (st 0).e) (a.tmps.getD t undef)) := by
    intro sp sq f hf K r hr he
    obtain ⟨h1, h2⟩ := regD_ok hT hN (sp := sp) (sq := sq) ops.toList 0 rfl (fun j o hj => by omega) hf
    obtain ⟨st, q1, q2, q3⟩ := h2 (s := ⟨e, hh, top, .cons hh top .nil⟩) hrc hr he
    refine ⟨st, q2, fun {a w} s => ⟨⟨fun j o ho => q3 j o (Nat.zero_le _) ho, by rw [q1], stat_of fun j o ho => h1 j o (Nat.zero_le _) ho, hN, by rw [q1]; exact s.hr, s.er.x0, by rw [q1]; exact s.df, by rw [q1]; exact s.rd, s.hB, s.hA⟩, fun t ht => by rw [q1]; exact s.er.env t ht⟩⟩
  have hcl0 : Closed ops (fun _ => False) := fun j hj => hj.elim
  unfold regS at h
  generalize two3 (preF T ops ops.size) ops.size 0 = pq at h
  obtain ⟨sp, sq⟩ := pq
  simp only at h
  split at h
  · obtain ⟨st, q1, hRR⟩ := main h hr he
    refine ⟨_, _, _, _, q1, fun {a1 w1} _ s1 fin Q hQ σ hσ => ?_⟩
    obtain ⟨R, q2⟩ := hRR s1
    exact lin_any R rfl hQ hσ hcl0 (R.start s1.n rfl q2)
  · split at h
    · rename_i hsw
      cases hc : swK ops.toList sp sq with
      | no => rw [hc] at h; cases h
      | mk c =>
        rw [hc] at h
        cases hf : regD P T N ops.toList sp sq ops.toList 0 [] with
        | no => rw [hf] at h; cases h
        | mk f =>
          rw [hf] at h
          injection h with h; subst h
          obtain ⟨st, q1, hRR⟩ := main hf hr he
          obtain ⟨R, _⟩ := hRR s
          obtain ⟨fp, fq, o1, g1, d1, o2, g2, d2, k1, k2, k3, k4, k5, q1⟩ := swK_ok hc hr q1
          obtain ⟨s1, hsw⟩ := and'_iff.1 hsw
          obtain ⟨s2, hsw⟩ := and'_iff.1 hsw
          have s1 := blt_iff.1 s1
          have s2 := blt_iff.1 s2
          have hop : ops[sp]? = some ops[sp] := Array.getElem?_eq_getElem (by omega)
          have hoq : ops[sq]? = some ops[sq] := Array.getElem?_eq_getElem s2
          rw [(preM_get (T := T) (Nat.le_refl _) (by omega) hop).1, (preM_get (T := T) (Nat.le_refl _) s2 hoq).1, (preM_get (T := T) (Nat.le_refl _) (by omega) hop).2, (preM_get (T := T) (Nat.le_refl _) s2 hoq).2] at hsw
          have sw := swL_ok (T := T) (Nat.le_refl _) hsw
          have hsp := (sw sp _ (by omega) hop).1 (.inl rfl)
          have hsq := (sw sq _ s2 hoq).1 (.inr rfl)
          obtain ⟨⟨ty1, x1, y1, e1⟩, e2, e3⟩ := isStore_ok hsp
          obtain ⟨⟨ty2, x2, y2, f1⟩, f2, f3⟩ := isStore_ok hsq
          obtain ⟨ob1, gg1, oo1, v1, ff1, m1, m2, m3, m4, m5⟩ := (R.hst sp _ hop).store hsp _ _ _ e1
          obtain ⟨ob2, gg2, oo2, v2, ff2, n1, n2, n3, n4, n5⟩ := (R.hst sq _ hoq).store hsq _ _ _ f1
          have a1 := adr_ok hop e1 k1
          have a2 := adr_ok hoq f1 k2
          rw [m1] at a1; injection a1 with a1; subst a1
          rw [n1] at a2; injection a2 with a2; subst a2
          have b1 : ff1 (st sp).e = ff1 (st ops.size).e := evb_same m1 fun t ht => by
            have htm : t ∈ opTs ops[sp] := opTs_mem.2 (by rw [e1, ht]; simp [Op.operands])
            have hlt := R.S.lt sp _ hop t (opTs_sub t htm)
            exact (env_later R.hst (i := sp) (by omega) (Nat.le_refl _) (by omega) fun j o p1 p2 p3 p4 => (sw j o p2 p3).2.2.1 p1 t p4 (opTs_sub t htm)).symm
          have b2 : ff2 (st sq).e = ff2 (st ops.size).e := evb_same n1 fun t ht => by
            have htm : t ∈ opTs ops[sq] := opTs_mem.2 (by rw [f1, ht]; simp [Op.operands])
            have hlt := R.S.lt sq _ hoq t (opTs_sub t htm)
            exact (env_later R.hst (i := sq) (by omega) (Nat.le_refl _) (by omega) fun j o p1 p2 p3 p4 => (sw j o p2 p3).2.2.2 p1 t p4 (opTs_sub t htm)).symm
          rw [b1, k3] at m2
          rw [b2, k4] at n2
          injection m2 with m2; injection m2 with m2; subst m2
          injection n2 with n2; injection n2 with n2; subst n2
          have Z : Swap P T ops sp sq st ops[sp] ops[sq] o1 o2 v1 v2 := by
            refine ⟨s1, hop, hoq, store_cls e1, store_cls f1, e3, f3, e2, f2, fun c => by rw [e1]; simp, fun c => by rw [f1]; simp, fun j o p1 p2 p3 p4 => ?_, m3, m4, @m5, n3, n4, @n5, k5⟩
            rcases (sw j o (Array.getElem?_eq_some_iff.1 p1).1 p1).2.1 (fun h => h.elim p2 p3) with h | h
            · exact absurd h p4
            · exact h
          refine ⟨_, _, _, _, q1, fun {a1 w1} _ s1 fin Q hQ σ hσ => ?_⟩
          obtain ⟨R1, q2⟩ := hRR s1
          exact lin_swap R1 Z hQ hσ hcl0 (.inl ⟨⟨_, _, _, R1.start s1.n rfl q2⟩, fun h => h.elim⟩)
    · cases h
end Go.Proofs.YtjkbljgolcdhhaaGreatDoor.Fw.Cm

/- Drawn regions: the order in which a region was evaluated, and the order in which it is listed. -/
namespace Go.Proofs.YtjkbljgolcdhhaaGreatDoor.Fw.Cm
open Go Go.RowKit Go.WideShapes
theorem fcN_eq : ∀ (l : List Nat) (k : List Nat → GD), fcN l k = k l
  | [], k => rfl
  | a :: l, k => by
    show fcN l (fun r => Nat.rec (motive := fun _ => GD) (k (0 :: r)) (fun n _ => k (Nat.succ n :: r)) a) = _
    rw [fcN_eq l]
    cases a <;> rfl
theorem fcL_eq : ∀ (l : List Oper) (k : List Oper → GD), fcL l k = k l
  | [], k => rfl
  | a :: l, k => by
    show fcL l (fun r => k (a :: r)) = _
    rw [fcL_eq l]
theorem idx_cons (i a : Nat) (l : List Nat) : idx i (a :: l) = if a = i then 0 else idx i l + 1 := by
  show (match Nat.beq a i with | true => 0 | false => Nat.succ (idx i l)) = _
  have hb : Nat.beq a i = true ↔ a = i := beq_iff
  by_cases h : a = i
  · rw [if_pos h, hb.2 h]
  · rw [if_neg h]
    cases hq : Nat.beq a i with
    | true => exact absurd (hb.1 hq) h
    | false => rfl
theorem idx_get : ∀ {l : List Nat} {i : Nat}, idx i l < l.length → l[idx i l]? = some i
  | [], i, h => by simp at h
  | a :: l, i, h => by
    rw [idx_cons] at h ⊢
    by_cases hai : a = i
    · rw [if_pos hai]; simp [hai]
    · rw [if_neg hai] at h ⊢
      rw [List.getElem?_cons_succ]
      exact idx_get (by simpa using h)
theorem idx_le : ∀ (l : List Nat) (i : Nat), idx i l ≤ l.length
  | [], i => Nat.le_refl _
  | a :: l, i => by
    rw [idx_cons]
    have := idx_le l i
    split <;> simp only [List.length_cons] <;> omega
/-- an order of the numbers below n -/
structure PermOk (perm : List Nat) (n : Nat) : Prop where
  len : perm.length = n
  get : ∀ q i, perm[q]? = some i → i < n ∧ idx i perm = q
  all : ∀ i, i < n → idx i perm < n
theorem permB_ok {perm : List Nat} {n : Nat} (h : permB perm n = true) : PermOk perm n := by
  obtain ⟨h1, h⟩ := and'_iff.1 h
  obtain ⟨h2, h3⟩ := and'_iff.1 h
  have pos : ∀ (l : List Nat) (q0 : Nat), posB perm n l q0 = true → ∀ q i, l[q]? = some i → i < n ∧ idx i perm = q0 + q := by
    intro l
    induction l with
    | nil => intro q0 _ q i hq; simp at hq
    | cons a l ih =>
      intro q0 h q i hq
      obtain ⟨k1, k⟩ := and'_iff.1 (show and' (Nat.blt a n) (and' (Nat.beq (idx a perm) q0) (posB perm n l (q0 + 1))) = true from h)
      obtain ⟨k2, k3⟩ := and'_iff.1 k
      cases q with
      | zero => simp at hq; subst hq; exact ⟨blt_iff.1 k1, beq_iff.1 k2⟩
      | succ q =>
        have := ih (q0 + 1) k3 q i (by simpa using hq)
        exact ⟨this.1, by rw [this.2]; omega⟩
  have all : ∀ (m : Nat), (Nat.rec (motive := fun _ => Bool) true (fun i ih => and' (Nat.blt (idx i perm) n) ih) m : Bool) = true → ∀ i, i < m → idx i perm < n := by
    intro m
    induction m with
    | zero => intro _ i hi; omega
    | succ m ih =>
      intro h i hi
      obtain ⟨k1, k2⟩ := and'_iff.1 (show and' (Nat.blt (idx m perm) n) ((Nat.rec (motive := fun _ => Bool) true (fun i ih => and' (Nat.blt (idx i perm) n) ih) m : Bool)) = true from h)
      by_cases him : i = m
      · subst him; exact blt_iff.1 k1
      · exact ih k2 i (by omega)
  refine ⟨by rw [← nLen_eq]; exact beq_iff.1 h1, fun q i hq => ?_, fun i hi => all n h3 i hi⟩
  have := pos perm 0 h2 q i hq
  exact ⟨this.1, by rw [this.2]; omega⟩
theorem renL_ok {os : List Oper} {perm : List Nat} : ∀ {ks : List Nat} {l : List Oper}, renL os perm ks = some l → l.length = ks.length ∧ ∀ (q i : Nat), ks[q]? = some i → ∃ o : Oper, os[i]? = some o ∧ l[q]? = some (ren perm o)
  | [], l, h => by
    injection h with h; subst h
    exact ⟨rfl, fun q i h => by simp at h⟩
  | a :: ks, l, h => by
    have h : (match nth os a, renL os perm ks with | some o, some r => some (ren perm o :: r) | _, _ => none) = some l := h
    rw [nth_eq] at h
    split at h
    · rename_i o r h1 h2
      injection h with h; subst h
      obtain ⟨k1, k2⟩ := renL_ok h2
      refine ⟨by simp [k1], fun q i hq => ?_⟩
      cases q with
      | zero => simp at hq; subst hq; exact ⟨o, h1, rfl⟩
      | succ q => exact k2 q i (by simpa using hq)
    · cases h
variable {P : Program} {T : TT} {ops : Array Oper} {N : Nat} {perm : List Nat} {l : List Oper}
/-- the same operations in another order -/
structure Same (ops : Array Oper) (perm : List Nat) (l : List Oper) : Prop where
  pm : PermOk perm ops.size
  len : l.length = ops.size
  get : ∀ i o, ops[i]? = some o → l.toArray[idx i perm]? = some (ren perm o)
theorem same_of (hp : PermOk perm ops.size) (h : renL ops.toList perm perm = some l) : Same ops perm l := by
  obtain ⟨h1, h2⟩ := renL_ok h
  refine ⟨hp, by rw [h1, hp.len], fun i o ho => ?_⟩
  have hi : i < ops.size := (Array.getElem?_eq_some_iff.1 ho).1
  have hx := idx_get (l := perm) (i := i) (by rw [hp.len]; exact hp.all i hi)
  obtain ⟨o', k1, k2⟩ := h2 _ _ hx
  rw [Array.getElem?_toList, ho] at k1
  injection k1 with k1; subst k1
  simpa using k2
theorem Same.out (S : Same ops perm l) {i : Nat} (h : ops[i]? = none) : l.toArray[idx i perm]? = none := by
  have hi : ¬ i < ops.size := fun hlt => by rw [Array.getElem?_eq_getElem hlt] at h; cases h
  have : ¬ idx i perm < ops.size := fun hlt => by
    have hx := idx_get (l := perm) (i := i) (by rw [S.pm.len]; exact hlt)
    exact hi (S.pm.get _ _ hx).1
  rw [Array.getElem?_eq_none]
  simp only [List.size_toArray, S.len]; omega
theorem Same.yielded (S : Same ops perm l) (tmps : Array Value) (j : Nat) : yielded l.toArray tmps (idx j perm) = Go.yielded ops tmps j := by
  unfold Go.yielded
  cases ho : ops[j]? with
  | none => rw [S.out ho]
  | some o => rw [S.get j o ho]; rfl
theorem Same.wanted (S : Same ops perm l) (o : Oper) (tmps : Array Value) : Region.wanted (ren perm o) (Go.yielded l.toArray tmps) = Region.wanted o (Go.yielded ops tmps) := by
  unfold Region.wanted ren
  cases hg : o.guard with
  | none => rfl
  | some q =>
    simp only
    rw [S.yielded]
theorem Same.wp (S : Same ops perm l) {F : Fence} {n : Nat} {fin : Act → World → Prop} {Q : Exit → Act → World → Prop} : ∀ (σ : List Nat), wpN F n P l.toArray fin Q (σ.map fun i => idx i perm) = wpN F n P ops fin Q σ
  | [] => rfl
  | i :: σ => by
    funext a w
    have ih := S.wp (F := F) (n := n) (fin := fin) (Q := Q) σ
    rw [List.map_cons]
    unfold wpN
    rw [ih]
    cases ho : ops[i]? with
    | none => rw [S.out ho]
    | some o =>
      rw [S.get i o ho]
      simp only
      unfold oneIn
      rw [S.wanted]
      rfl
theorem binds_ren (e : Edge) : Region.binds .any (renE perm e) = Region.binds .any e := rfl
theorem Same.lin (S : Same ops perm l) {Lp : Nat → Prop} {σ : List Nat} (h : Lin ops Lp σ) : (∀ i, Lp i → i < ops.size) → Lin l.toArray (fun q => ∃ i, perm[q]? = some i ∧ Lp i) (σ.map fun i => idx i perm) := by
  induction h with
  | nil h =>
    intro _
    refine .nil fun q hq => ?_
    have hq' : q < perm.length := by rw [S.pm.len, ← S.len]; simpa using hq
    refine ⟨perm[q], List.getElem?_eq_getElem hq', h _ (S.pm.get q _ (List.getElem?_eq_getElem hq')).1⟩
  | @cons Lp Lp' i o σ ho hn he hLp _ ih =>
    intro hb
    have hi : i < ops.size := (Array.getElem?_eq_some_iff.1 ho).1
    have hx : perm[idx i perm]? = some i := idx_get (by rw [S.pm.len]; exact S.pm.all i hi)
    rw [List.map_cons]
    refine .cons (S.get i o ho) (fun ⟨i', h1, h2⟩ => ?_) (fun e' he' hb' => ?_) (fun q => ?_) (ih fun j hj => ?_)
    · rw [hx] at h1; injection h1 with h1; subst h1; exact hn h2
    · have he' : e' ∈ (⟨o.after.toList.map (renE perm)⟩ : Array Edge) := he'
      have he' : e' ∈ o.after.toList.map (renE perm) := by simpa using he'
      obtain ⟨e, h1, rfl⟩ := List.mem_map.1 he'
      have hL := he e (by simpa using h1) hb'
      refine ⟨e.on, ?_, hL⟩
      exact idx_get (by rw [S.pm.len]; exact S.pm.all _ (hb _ hL))
    · constructor
      · rintro ⟨j, h1, h2⟩
        rcases (hLp j).1 h2 with h2 | h2
        · exact .inl ⟨j, h1, h2⟩
        · subst h2; exact .inr (S.pm.get q j h1).2.symm
      · rintro (⟨j, h1, h2⟩ | rfl)
        · exact ⟨j, h1, (hLp j).2 (.inl h2)⟩
        · exact ⟨i, hx, (hLp i).2 (.inr rfl)⟩
    · rcases (hLp j).1 hj with h | h
      · exact hb j h
      · subst h; exact hi
theorem fwdL_ok : ∀ {l : List Oper} {i : Nat}, fwdL l i = true → ∀ j o, l[j]? = some o → ∀ e ∈ o.after, Region.binds .any e = true → e.on < i + j
  | [], i, _, j, o, h => by simp at h
  | a :: l, i, h, j, o, ho => by
    obtain ⟨h1, h2⟩ := and'_iff.1 (show and' (fwdB i a) (fwdL l (i + 1)) = true from h)
    cases j with
    | zero => simp at ho; subst ho; exact fwdB_ok h1
    | succ j =>
      intro e he hb
      have := fwdL_ok h2 j o (by simpa using ho) e he hb
      omega
theorem lin_lt {ops : Array Oper} {Lp : Nat → Prop} {σ : List Nat} (h : Lin ops Lp σ) : ∀ i ∈ σ, i < ops.size := by
  induction h with
  | nil _ => intro i hi; cases hi
  | cons ho _ _ _ _ ih =>
    intro j hj
    rcases List.mem_cons.1 hj with rfl | hj
    · exact (Array.getElem?_eq_some_iff.1 ho).1
    · exact ih j hj
theorem regP_ok (hT : T.okB P = true) {F : Rc → E → H → Nat → HL → KD → R} (h : regP P T N ops.toList = .mk F) {rc : Rc} {e : E} {hh : H} {top : Nat} {r : R} (hrc : RcS P rc) (hr : Good r)
    {K0 : KD} (he : F rc e hh top (.cons hh top .nil) K0 = r) {B A : Nat} {κ : Kap} {rnd : Option Nat} {a : Act} {w : World} (s : St P B A κ e hh top rnd N a w) :
    fwd ops ∧ ∃ e' h' top' hs', K0 e' h' top' hs' = r ∧ ∀ {w1 : World}, St P B A κ e hh top rnd N a w1 → ∀ {fin : Act → World → Prop} {Q : Exit → Act → World → Prop}, (∀ κ' a' w', Ext κ κ' w1 → Frm κ w1 w' → St P B A κ' e' h' top' rnd N a' w' → fin a' w') → ∀ σ, Lin ops (fun _ => False) σ → wpN (Fx rnd) 0 P ops fin Q σ a w1 := by
  have first : regI P T N ops.toList = .mk F → fwd ops ∧ ∃ e' h' top' hs', K0 e' h' top' hs' = r ∧ ∀ {w1 : World}, St P B A κ e hh top rnd N a w1 → ∀ {fin : Act → World → Prop} {Q : Exit → Act → World → Prop}, (∀ κ' a' w', Ext κ κ' w1 → Frm κ w1 w' → St P B A κ' e' h' top' rnd N a' w' → fin a' w') → ∀ σ, Lin ops (fun _ => False) σ → wpN (Fx rnd) 0 P ops fin Q σ a w1 := by
    intro h
    unfold regI at h
    rw [fcL_eq] at h
    split at h
    · rename_i hb
      have hf : fwd ops := fun i o ho => by
        have := fwdL_ok hb i o (by simpa using ho)
        simpa using this
      obtain ⟨e', h1, top', hs', q1, q2⟩ := regS_ok hT s.hN h hrc hr he s
      exact ⟨hf, e', h1, top', hs', q1, fun {w1} s1 fin Q hQ σ hσ => q2 rfl s1 hQ σ hσ⟩
    · cases h
  unfold regP at h
  cases hI : regI P T N ops.toList with
  | mk f =>
    rw [hI] at h
    injection h with h
    subst h
    exact first hI
  | no =>
  rw [hI] at h
  replace h : (fcN (canon T ops.toList) fun perm => match and' (fwdL ops.toList 0) (permB perm (lenL ops.toList)) with
    | true => (match renL ops.toList perm perm with
      | some l => fcL l fun l => regS P T N l (infoL T l l 0 []) (lenL l)
      | none => .no)
    | false => .no) = .mk F := h
  rw [fcN_eq] at h
  have hlen : lenL ops.toList = ops.size := by rw [lenL_eq]; simp
  rw [hlen] at h
  split at h
  · rename_i hb
    obtain ⟨hb1, hb2⟩ := and'_iff.1 hb
    split at h
    · rename_i l hl
      rw [fcL_eq] at h
      have S := same_of (permB_ok hb2) hl
      have hf : fwd ops := fun i o ho => by
        have := fwdL_ok hb1 i o (by simpa using ho)
        simpa using this
      have h' : regS P T N l.toArray.toList (infoL T l.toArray.toList l.toArray.toList 0 []) (lenL l.toArray.toList) = .mk F := h
      obtain ⟨e', h1, top', hs', q1, q2⟩ := regS_ok hT s.hN h' hrc hr he s
      refine ⟨hf, e', h1, top', hs', q1, fun {w1} s1 fin Q hQ σ hσ => ?_⟩
      have hlin := S.lin hσ fun i h => h.elim
      have e1 : (fun (q : Nat) => ∃ i : Nat, (canon T ops.toList)[q]? = some i ∧ False) = fun _ => False := by funext q; simp
      rw [e1] at hlin
      rw [← S.wp]
      exact q2 rfl s1 hQ _ hlin
    · cases h
  · cases h
/-! ### A deferred call comes last -/
theorem lastO_ok : ∀ {os l : List Oper} {o : Oper}, lastO os = some (l, o) → os = l ++ [o]
  | [], l, o, h => by cases h
  | [x], l, o, h => by
    have h : some ([], x) = some (l, o) := h
    injection h with h; injection h with h1 h2; subst h1; subst h2; rfl
  | x :: y :: r, l, o, h => by
    have h : (match lastO (y :: r) with | some q => some (x :: q.1, q.2) | none => none) = some (l, o) := h
    cases hq : lastO (y :: r) with
    | none => rw [hq] at h; cases h
    | some q =>
      rw [hq] at h
      injection h with h; injection h with h1 h2; subst h1; subst h2
      rw [lastO_ok (l := q.1) (o := q.2) hq]; rfl
theorem lin_last {l : List Oper} {o : Oper} (hall : ∀ j, j < l.length → Cl (l ++ [o]).toArray l.length j) {Lp : Nat → Prop} {σ : List Nat} (h : Lin (l ++ [o]).toArray Lp σ) :
    Closed (l ++ [o]).toArray Lp → ¬ Lp l.length → ∃ σ', σ = σ' ++ [l.length] ∧ Lin l.toArray Lp σ' := by
  induction h with
  | nil h =>
    intro _ hn
    exact absurd (h l.length (by simp)) hn
  | @cons Lp Lp' i oi σ ho hn he hLp hrest ih =>
    intro hcl hnl
    have hcl' : Closed (l ++ [o]).toArray Lp' := by
      intro j hj oj hoj e hem hb
      rcases (hLp j).1 hj with h | h
      · exact (hLp _).2 (.inl (hcl j h oj hoj e hem hb))
      · subst h; rw [ho] at hoj; injection hoj with hoj; subst hoj; exact (hLp _).2 (.inl (he e hem hb))
    by_cases hi : i = l.length
    · subst hi
      have hL : ∀ j, j < l.length → Lp j := fun j hj => (hall j hj).done hcl fun o' ho' e hem hb => by rw [ho] at ho'; injection ho' with ho'; subst ho'; exact he e hem hb
      cases hrest with
      | nil h => exact ⟨[], rfl, .nil fun j hj => hL j (by simpa using hj)⟩
      | @cons _ _ i2 o2 _ ho2 hn2 _ _ _ =>
        exfalso
        have : i2 < l.length + 1 := by have := (Array.getElem?_eq_some_iff.1 ho2).1; simpa using this
        rcases Nat.lt_or_ge i2 l.length with h | h
        · exact hn2 ((hLp i2).2 (.inl (hL i2 h)))
        · exact hn2 ((hLp i2).2 (.inr (by omega)))
    · have hlt : i < l.length := by
        have : i < l.length + 1 := by have := (Array.getElem?_eq_some_iff.1 ho).1; simpa using this
        omega
      obtain ⟨σ', h1, h2⟩ := ih hcl' (fun h => ((hLp _).1 h).elim hnl fun h => hi h.symm)
      refine ⟨i :: σ', by rw [h1]; rfl, .cons ?_ hn he hLp h2⟩
      have : (l ++ [o])[i]? = some oi := by simpa using ho
      rw [List.getElem?_append_left hlt] at this
      simpa using this
theorem wpN_pre {l : List Oper} {o : Oper} (hd : o.dst = none) {F : Fence} {n : Nat} {fin : Act → World → Prop} {Q : Exit → Act → World → Prop} : ∀ (σ : List Nat), (∀ i ∈ σ, i < l.length) → wpN F n P (l ++ [o]).toArray fin Q σ = wpN F n P l.toArray fin Q σ
  | [], _ => rfl
  | i :: σ, hi => by
    funext a w
    have ih := wpN_pre (F := F) (n := n) (fin := fin) (Q := Q) hd σ fun j hj => hi j (List.mem_cons_of_mem _ hj)
    have hlt := hi i (List.mem_cons_self ..)
    have hg : (l ++ [o]).toArray[i]? = l.toArray[i]? := by simp [List.getElem?_append_left hlt]
    have hy : ∀ tmps j, yielded (l ++ [o]).toArray tmps j = yielded l.toArray tmps j := by
      intro tmps j
      unfold yielded
      simp only [List.getElem?_toArray]
      rcases Nat.lt_trichotomy j l.length with h | h | h
      · rw [List.getElem?_append_left h]
      · subst h
        have h1 : (l ++ [o])[l.length]? = some o := by simp
        have h2 : l[l.length]? = none := by simp
        rw [h1, h2]; simp [hd]
      · have h1 : (l ++ [o])[j]? = none := by rw [List.getElem?_eq_none]; simp; omega
        have h2 : l[j]? = none := by rw [List.getElem?_eq_none]; omega
        rw [h1, h2]
    unfold wpN
    rw [ih, hg]
    cases l.toArray[i]? with
    | none => rfl
    | some oi =>
      simp only
      unfold oneIn Region.wanted
      simp only [hy]
theorem pow2_all {n j : Nat} (h : j < n) : tb (Nat.sub (Nat.shiftLeft 1 n) 1) j = true := by
  rw [tb_eq]
  show (1 <<< n - 1).testBit j = true
  rw [Nat.one_shiftLeft, Nat.testBit_two_pow_sub_one]
  simpa using h
theorem mask_all {l : List Oper} {o : Oper} (hf : fwd l.toArray) (hfo : ∀ e ∈ o.after, Region.binds .any e = true → e.on < l.length) {j : Nat} (h : tb (maskOf l.length (preF T l.toArray l.length) o) j = true) : Cl (l ++ [o]).toArray l.length j := by
  have up : ∀ {i k : Nat}, Cl l.toArray i k → Cl (l ++ [o]).toArray i k := by
    intro i k hc
    induction hc with
    | @one i oi e ho he hb =>
      have hi := (Array.getElem?_eq_some_iff.1 ho).1
      refine .one (o := oi) ?_ he hb
      simp only [List.getElem?_toArray] at ho ⊢
      rw [List.getElem?_append_left (by simpa using hi)]; exact ho
    | @more i k oi e ho he hb _ ih =>
      have hi := (Array.getElem?_eq_some_iff.1 ho).1
      refine .more (o := oi) ?_ he hb ih
      simp only [List.getElem?_toArray] at ho ⊢
      rw [List.getElem?_append_left (by simpa using hi)]; exact ho
  rw [tb_eq] at h
  obtain ⟨e, h1, h2, h3⟩ := maskL (show (List.rec (motive := fun _ => Nat) 0 _ o.after.toList : Nat).testBit j = true from h)
  have h1 : e ∈ o.after := by simpa using h1
  have hlt := hfo e h1 h2
  have ho : (l ++ [o]).toArray[l.length]? = some o := by simp
  rcases h3 with rfl | h3
  · exact .one ho h1 h2
  · have ho' : l.toArray[e.on]? = some l.toArray[e.on] := Array.getElem?_eq_getElem (by simpa using hlt)
    have hg := (preF_get (T := T) (ops := l.toArray) (i := l.length) (by simp)).2 e.on _ hlt ho'
    have hm : preM (preF T l.toArray l.length) (l.length - 1 - e.on) = mkF T l.toArray e.on l.toArray[e.on] := by
      unfold preM
      rw [nth_eq, hg]; rfl
    rw [hm, ← tb_eq] at h3
    exact .more ho h1 h2 (up (mask_cl hf e.on _ ho' j h3).2)
theorem draw_ok (hT : T.okB P = true) (hM : P.follows .mixedOrders = true) {id : Nat} {F : Rc → E → H → Nat → HL → KD → R} (h : regQ P T N ops.toList = .mk F) {rc : Rc} {e : E} {hh : H} {top : Nat} {r : R} (hrc : RcS P rc) (hr : Good r)
    (he : (F rc e hh top (.cons hh top .nil) fun e h top _ => .nrm e h top) = r) {B A : Nat} {κ : Kap} {rnd : Option Nat} {a : Act} {w : World} (s : St P B A κ e hh top rnd N a w) : (Code.region id ops true).wpIn (Fx rnd) 0 P (Qr P B A κ N rnd w r) a w := by
  have hfr : Frm κ w { w with drawn := w.drawn + 1 } := ⟨rfl, rfl, rfl, Nat.le_refl _, fun _ _ _ => rfl⟩
  have hw : St P B A κ e hh top rnd N a { w with drawn := w.drawn + 1 } := s.next (s.hr.drawn _) ⟨Kap.le.refl κ, fun k hk => .inl hk⟩ hfr
  have plain : regP P T N ops.toList = .mk F → (Code.region id ops true).wpIn (Fx rnd) 0 P (Qr P B A κ N rnd w r) a w := by
    intro h
    obtain ⟨hf, e', h1, top', hs', q1, q2⟩ := regP_ok hT h hrc hr he s
    refine wpIn_region_draw fun t => ?_
    rw [hM]
    have := q2 (fin := wpOpsIn (Fx rnd) 0 P ops (Qr P B A κ N rnd w r) []) (Q := Qr P B A κ N rnd w r) hw (fun κ' a' w' x1 f1 s1 => by
      show Qr P B A κ N rnd w r .normal a' w'
      refine Qr.after (Ext.refl κ w) hfr ?_
      subst q1
      exact ⟨rfl, κ', x1, f1, s1⟩) _ (lin_schedule hf t)
    rw [wpN_eq, List.append_nil] at this
    exact this
  unfold regQ at h
  split at h
  · rename_i l o hlast
    split at h
    · rename_i hdef
      rw [fcL_eq] at h
      simp only at h
      split at h
      · rename_i hb
        obtain ⟨hb1, hb2⟩ := and'_iff.1 hb
        cases hf : regP P T N l with
        | no => rw [hf] at h; cases h
        | mk f =>
          rw [hf] at h
          cases hg : pushB T o with
          | no => rw [hg] at h; cases h
          | mk g =>
            rw [hg] at h
            injection h with h; subst h
            have hos := lastO_ok hlast
            have hops : ops = (l ++ [o]).toArray := by apply Array.ext'; simpa using hos
            obtain ⟨hfw, e', h1, top', hs', q1, q2⟩ := regP_ok (ops := l.toArray) hT hf hrc hr he s
            have hinfo : infoL T l l 0 [] = preF T l.toArray l.length := by
              have := infoL_eq (T := T) (ops := l.toArray) l 0 rfl
              rw [Nat.zero_add] at this
              exact this
            have hlen := lenL_eq l
            rw [hlen, hinfo] at hb2
            rw [hlen] at hb1
            have hfo := fwdB_ok hb1
            have hall : ∀ j, j < l.length → Cl (l ++ [o]).toArray l.length j := fun j hj => mask_all hfw hfo (by
              rw [beq_iff.1 hb2]; exact pow2_all hj)
            have hfw' : fwd ops := by
              rw [hops]
              intro i oi hoi
              have hi : i < l.length + 1 := by have := (Array.getElem?_eq_some_iff.1 hoi).1; simpa using this
              simp only [List.getElem?_toArray] at hoi
              rcases Nat.lt_or_ge i l.length with h | h
              · rw [List.getElem?_append_left h] at hoi
                exact hfw i oi (by simpa using hoi)
              · have : i = l.length := by omega
                subst this
                have h2 : (l ++ [o])[l.length]? = some o := by simp
                rw [h2] at hoi; injection hoi with hoi; subst hoi
                exact hfo
            have hdst : o.dst = none := by
              unfold pushB at hg
              split at hg
              · assumption
              · cases hg
            obtain ⟨e2, h2, top2, k1, k2⟩ := (pushB_ok (P := P) (ops := ops) (N := N) hT hg).out hrc hr q1
            refine wpIn_region_draw fun t => ?_
            rw [hM]
            have hlin := lin_schedule hfw' t
            rw [hops] at hlin ⊢
            obtain ⟨σ', t1, t2⟩ := lin_last hall hlin (fun j hj => hj.elim) (fun h => h)
            rw [t1, ← wpN_eq, wpN_pre hdst σ' (fun i hi => by simpa using lin_lt t2 i hi)]
            refine q2 hw (fun κ' a' w' x1 f1 s1 => ?_) _ t2
            unfold wpOpsIn
            have h3 : (l ++ [o]).toArray[l.length]? = some o := by simp
            rw [h3]
            have := k2 s1 (wpOpsIn (Fx rnd) 0 P (l ++ [o]).toArray (Qr P B A κ N rnd w r) []) (Qr P B A κ N rnd w r) fun κ2 a2 w2 x2 f2 s2 => by
              show Qr P B A κ N rnd w r .normal a2 w2
              refine Qr.after (Ext.refl κ w) hfr ?_
              subst k1
              exact ⟨rfl, κ2, x1.trans f1.size x2, f1.trans x1 f2, s2⟩
            rw [hops] at this
            exact this
      · cases h
    · exact plain h
  · exact plain h
end Go.Proofs.YtjkbljgolcdhhaaGreatDoor.Fw.Cm

/- The concrete evaluator and the world: code. -/
namespace Go.Proofs.YtjkbljgolcdhhaaGreatDoor.Fw.Cm
open Go Go.RowKit Go.WideShapes
variable {P : Program} {T : TT}
theorem DR.lt {A : Nat} {κ : Kap} {w : World} : ∀ {x : W} {ds : List Deferred}, DR P A κ w x ds → ∀ d ∈ ds, ∀ b, d.target = .collected b → b < w.heap.size
  | .tn, _, h, d, hd, _, _ => by have h : _ = [] := h; subst h; cases hd
  | .tu (.o _) y, _, ⟨b', ds', h2, h3, h4, h5, h6, h7, h8⟩, d, hd, b, hb => by
    subst h2
    rcases List.mem_cons.1 hd with rfl | hd
    · injection hb with hb; omega
    · exact h8.lt d hd b hb
  | .tu (.tu m k) y, _, ⟨d', ds', h2, h3, h4⟩, d, hd, b, hb => by
    subst h2
    rcases List.mem_cons.1 hd with rfl | hd
    · rcases h3 with ⟨t, u, kt, et, ty, cn, vm, vk, _, e1, _⟩ | ⟨fn, _, e1, _⟩
      · rw [e1] at hb; cases hb
      · rw [e1] at hb; cases hb
    · exact h4.lt d hd b hb
  | .tu (.ag _) _, _, h, _, _, _, _ => h.elim
  | .tu .tn _, _, h, _, _, _, _ => h.elim
  | .tu .un _, _, h, _, _, _, _ => h.elim
  | .o _, _, h, _, _, _, _ => h.elim
  | .ag _, _, h, _, _, _, _ => h.elim
  | .un, _, h, _, _, _, _ => h.elim
theorem range_ok (hT : T.okB P = true) {g : Operand} {ps : Array Tmp} {x y : Code} {f : E → W} (hg : evb g = .mk f) {N : Nat} {rc : Rc} {e : E} {h : H} {top : Nat} {r : R} (hrc : RcS P rc) (hr : Good r)
    (he : rangeF P T N f ps.toList x y rc e h top = r) {B A : Nat} {κ : Kap} {rnd : Option Nat} {a : Act} {w : World} (st : St P B A κ e h top rnd N a w) :
    (Code.rangeFunc g ps x y).wpIn (Fx rnd) 0 P (Qr P B A κ N rnd w r) a w := by
  unfold rangeF at he
  obtain ⟨h510, he⟩ := noRound_ok he hr
  have hrnd : rnd = none := by
    rcases st.rd with ⟨_, h⟩ | ⟨l, b, h, _⟩
    · exact h
    · rw [show getE 510 e = .un from h510] at h; cases h
  subst hrnd
  replace he := W.v_ok he hr; obtain ⟨v, hv, he⟩ := he
  replace he := V.fn_ok he hr
  rcases he with ⟨fn, o, rfl, he⟩ | ⟨l, rfl, he⟩
  · rw [sNat_eq'] at he
    replace he := Ob.clo_ok he hr; obtain ⟨n, u, hob, he⟩ := he
    replace he := two'_ok he hr; obtain ⟨us, cs, rfl, he⟩ := he
    replace he := runF_ok hT hrc hr he
    obtain ⟨v1, h1, top1, he, hcall⟩ := he
    replace he := Ob.loopK_ok he hr; obtain ⟨e4, ps4, x4, y4, st4, j4, hob4, he⟩ := he
    replace he := gd_ok he hr; obtain ⟨hnb, he⟩ := he
    have hnb : st4 ≠ 1 := by
      intro e; subst e; cases hnb
    refine wpIn_rangeFunc fun fn0 _ => ?_
    -- the world with the block of marks and the record
    have hf := evb_rel hg st.er
    rw [hv] at hf
    obtain ⟨fs, ds, k1, k2⟩ := hf
    obtain ⟨nf, p, q, k3, k4, k5⟩ := st.hr.clo _ _ _ k1
    rw [hob] at k3
    injection k3 with k3 k6
    injection k6 with k6 k7
    subst k6; subst k7
    generalize hw0 : w.alloc (.deferred (some [])) = w0
    have hp0 : Pushed w w0 (.deferred (some [])) := by rw [← hw0]; exact Pushed.alloc _ _
    have hr0 : HR B κ h top w0 := st.hr.world (by rw [hp0.size]; omega) fun k hk => hp0.old (st.hr.ge k hk).2
    generalize hrec : ({ state := .ready, pending := none, fn := fn0, tmps := a.tmps, params := ps, assign := x, body := y, defers := w.heap.size } : Loop) = rec
    have hp1 : Pushed w0 (w0.alloc (.loop rec)) (.loop rec) := Pushed.alloc _ _
    have hle : κ.le (κ.putq top w0.heap.size) := Kap.putq_le hr0.freshq
    have hQ : QR (κ.putq top w0.heap.size) (w0.alloc (.loop rec)) w0.heap.size (.lp e (N :: ps.toList) x y 0 none) := by
      subst hrec
      exact ⟨_, hp1.new, st.er.mono hle, h510, by rw [← st.n], rfl, rfl, .inl ⟨rfl, rfl, rfl, rfl⟩⟩
    obtain ⟨hr1, x1, f1⟩ := hr0.newQ (by rw [hp0.size]; have := st.hB; omega) hp1 hQ
    generalize hw1 : w0.alloc (.loop rec) = w1 at hp1 hQ hr1 x1 f1
    have hs0 : w0.heap.size = w.heap.size + 1 := hp0.size
    have hs1 : w1.heap.size = w.heap.size + 2 := by rw [hp1.size, hs0]
    have x01 : Ext κ (κ.putq top w0.heap.size) w := ⟨hle, fun k hk => (x1.new k hk).imp id fun hl => by omega⟩
    have f01 : Frm κ w w1 := (hp0.frm κ).trans (Ext.refl κ w) f1
    have hq1 : (κ.putq top w0.heap.size).q top = some w0.heap.size := by simp [Kap.putq]
    have henter := run_enterLoop_outer (P := P) (w := w) fn0 a.tmps ps x y
    rw [hw0] at henter
    rw [show w.heap.size + 1 = w0.heap.size from hs0.symm, hrec, hw1] at henter
    have hx0 := x1.le.x _ _ st.er.x0
    have ht : TR (κ.putq top w0.heap.size) (wCat us (.tu (.o (.y top)) cs)) (fs.toList ++ (.func (.yield w0.heap.size) #[] #[] :: ds.toList)) :=
      wCat_rel (k4.mono hle) ⟨_, _, rfl, ⟨_, hq1, rfl⟩, k5.mono hle⟩
    obtain ⟨hc, hok⟩ := hcall hr1 (by have := st.hB; omega) hx0 ht
    have hok : fnOk P fn = true := by
      rcases hok with h | h
      · exact h
      · obtain ⟨s, hs⟩ := h (.func (.yield w0.heap.size) #[] #[]) (by simp)
        cases hs
    have hc : Calls P fn (fs.toList ++ (.func (.yield w0.heap.size) #[] #[] :: ds.toList)).toArray w1 (CallQ B (κ.putq top w0.heap.size) w1 v1 h1 top1) := by
      rcases hc with ⟨_, h⟩ | ⟨v, w', h, _⟩
      · exact h
      · rw [run_callFunc' hok] at h; cases h
    have e2 : (fs.toList ++ (.func (.yield w0.heap.size) #[] #[] :: ds.toList)).toArray = fs ++ #[.func (.yield w0.heap.size) #[] #[]] ++ ds := by apply Array.ext'; simp
    refine ⟨w0.heap.size, [{ target := .collected w.heap.size, args := #[] }], w1, { target := .fn (.func fn) ds, args := fs ++ #[.func (.yield w0.heap.size) #[] #[]] }, w1, fn, (fs.toList ++ (.func (.yield w0.heap.size) #[] #[] :: ds.toList)).toArray, w1, henter, ?_, fun _ _ => trivial, ?_, (fun hd => by rw [Fx.depth] at hd; cases hd), Fx.calls (rnd := none) (hc.mono fun en w3 q => ?_)⟩
    · simp [resolve, rangeCall, k2, Deferred.ofValue]
      rfl
    · rw [e2]
      show (callFunc fn (fs ++ #[.func (.yield w0.heap.size) #[] #[]] ++ ds)).run P w1 = _
      rw [run_callFunc' hok]
    · obtain ⟨u, κ3, rfl, x3, f3, hr3, _⟩ := q
      have hq3 := x3.le.q _ _ hq1
      have q3 := hr3.que top _ hq3
      rw [hob4] at q3
      obtain ⟨rec3, c1, c2, c3, c4, c5, c6, c7⟩ := q3
      have hnb3 : rec3.state ≠ .busy := by
        rcases c7 with ⟨_, c, _⟩ | ⟨c, _⟩ | ⟨_, c, _⟩
        · rw [c]; simp
        · exact absurd c hnb
        · rw [c]; simp
      have hpend : rec3.pending = j4 := by
        rcases c7 with ⟨_, _, c, c'⟩ | ⟨c, _⟩ | ⟨_, _, c⟩
        · rw [c, c']
        · exact absurd c hnb
        · exact c
      have hend := run_endLoop (P := P) c1 hnb3
      obtain ⟨hr4, f4⟩ := loop_put hr3 hq3 (x := .no) (o := .loop { rec3 with state := .exhausted }) ⟨_, World.putObj_heap_same ((hr3.ge _ (.inr ⟨top, hq3⟩)).2)⟩
      generalize hw4 : w3.putObj w0.heap.size (.loop { rec3 with state := .exhausted }) = w4 at hend hr4 f4
      have x03 : Ext κ κ3 w := x01.trans f01.size x3
      have f03 : Frm κ w w3 := f01.trans x01 f3
      have f04 : Frm κ w w4 := f03.trans x03 f4
      have hst : St P B A κ3 (setD' (.tu (.o (.y top)) (getD' e)) e) (seto top .no h1) top1 none N { a with defers := [{ target := .collected w.heap.size, args := #[] }] ++ a.defers } w4 := by
        refine ⟨hr4, Nat.le_trans st.hB f04.size, Nat.le_trans st.hA f04.size, st.n, st.hN, ⟨x03.le.x _ _ st.er.x0, fun t ht => ?_⟩, ?_, .inl ⟨?_, rfl⟩⟩
        · show WR κ3 (getE t (setE 511 _ e)) _
          rw [getE_setE (by omega) (by omega), if_neg (by omega)]
          exact (st.er.env t ht).mono x03.le
        · show DR P A κ3 w4 (getE 511 (setE 511 _ e)) _
          rw [getE_setE (by omega) (by omega), if_pos rfl]
          have hni1 : ¬ (κ.putq top w0.heap.size).im w.heap.size := fun hi => by
            rcases Kap.putq_im hi with hi | hi
            · have := (st.hr.ge _ hi).2; omega
            · omega
          have hni3 : ¬ κ3.im w.heap.size := fun hi => by
            rcases x3.new _ hi with hi | hi
            · exact hni1 hi
            · omega
          have hkeep : w4.heap[w.heap.size]? = some (.deferred (some [])) := by
            rw [f4.keep _ (by have := f3.size; omega) hni3, f3.keep _ (by omega) hni1, hp1.old (by omega), hp0.new]
          exact ⟨w.heap.size, a.defers, rfl, hkeep, hni3, st.hA, by have := f3.size; have := f4.size; omega, fun d hd hb => absurd (st.df.lt d hd _ hb) (by omega), st.df.keep x03 f04⟩
        · show getE 510 (setE 511 _ e) = _
          rw [getE_setE (by omega) (by omega), if_neg (by omega)]; exact h510
      rw [hpend] at hend
      refine ⟨j4, w4, hend, ?_⟩
      cases j4 with
      | none =>
        have he : R.nrm _ _ _ = r := he
        subst he
        exact ⟨rfl, κ3, x03, f04, hst⟩
      | some c =>
        simp only at he ⊢
        split at he
        · subst he
          exact wpIn_ret ⟨rfl, κ3, x03, f04, hst⟩
        · subst he
          exact wpIn_exit ⟨rfl, κ3, x03, f04, hst⟩
        · subst he; exact hr.bad
  · subst he; exact hr.bad
/-! ### Code -/
theorem thn_ok {r0 r : R} {k : K2} (h : thn r0 k = r) (hr : Good r) : (∃ e hh top, r0 = .nrm e hh top ∧ k e hh top = r) ∨ ((∀ e hh top, r0 ≠ .nrm e hh top) ∧ r0 = r) := by
  cases r0 with
  | nrm e hh top => exact .inl ⟨e, hh, top, rfl, h⟩
  | ext _ _ _ _ => exact .inr ⟨fun _ _ _ h => (by cases h), h⟩
  | ret _ _ _ => exact .inr ⟨fun _ _ _ h => (by cases h), h⟩
  | fin _ _ _ => exact .inr ⟨fun _ _ _ h => (by cases h), h⟩
  | bad _ => exact .inr ⟨fun _ _ _ h => (by cases h), h⟩
/-- from within a loop on -/
def loopIn (F : Fence) (P : Program) (c : Code) (Q : Exit → Act → World → Prop) (a : Act) (w : World) : Prop :=
  ∀ (b : Frame) (k : List Item) (cs : List Frame), b.roundOf = F.round → F.fn b.fn → F.room (cs.length + 1 + 0) →
    ∃ e a' w', Q e a' w' ∧ ArrivesIn (Machine.fenced P F) P (lone (b.atR a (.code c :: .inLoop c :: k)) cs w) b k cs e a' w'
theorem loop_of {F : Fence} {c : Code} {Q : Exit → Act → World → Prop} {a : Act} {w : World} (h : loopIn F P c Q a w) : (Code.loop c).wpIn F 0 P Q a w := by
  intro b k cs hro hb hr
  obtain ⟨e, a', w', hq, harr⟩ := h b k cs hro hb hr
  exact ⟨e, a', w', hq, .of_steps (.one (fenced_calm hb hr rfl) stepR_loop) harr⟩
theorem loopIn_step {F : Fence} {c : Code} {Q : Exit → Act → World → Prop} {a : Act} {w : World} (h : c.wpIn F 0 P (Exit.then (fun a w => loopIn F P c Q a w) Q) a w) : loopIn F P c Q a w := by
  intro b k cs hro hb hr
  obtain ⟨e, a₁, w₁, hq, harr⟩ := h b (.inLoop c :: k) cs hro hb hr
  cases e with
  | normal =>
    obtain ⟨e₂, a₂, w₂, hq₂, harr₂⟩ := hq b k cs hro hb hr
    exact ⟨e₂, a₂, w₂, hq₂, .of_steps (StepsIn.trans harr (.one (fenced_calm hb hr rfl) stepR_inLoop)) harr₂⟩
  | exit id => exact ⟨_, a₁, w₁, hq, .pass (x := .inLoop c) rfl (fun _ _ => .inl (by simp)) harr⟩
  | goto l => exact ⟨_, a₁, w₁, hq, .pass (x := .inLoop c) rfl (fun _ _ => .inl (by simp)) harr⟩
  | ret => exact ⟨_, a₁, w₁, hq, .pass (x := .inLoop c) rfl (fun _ _ => .inl (by simp)) harr⟩
  | panic ch => exact ⟨_, a₁, w₁, hq, .pass (x := .inLoop c) rfl (fun _ _ => .inl (by simp)) harr⟩
  | outgrown => exact ⟨_, a₁, w₁, hq, .pass (x := .inLoop c) rfl (fun _ _ => .inl (by simp)) harr⟩
def LoopS (P : Program) (rc : Rc) : Prop := ∀ {N : Nat} {c : Code} {e : E} {h : H} {top : Nat} {r : R}, Good r → rc N (.loop c) e h top = r →
  ∀ {B A : Nat} {κ : Kap} {rnd : Option Nat} {a : Act} {w : World}, St P B A κ e h top rnd N a w → loopIn (Fx rnd) P c (Qr P B A κ N rnd w r) a w
theorem Good.nrm {e : E} {h : H} {top : Nat} : Good (.nrm e h top) := by intro _ h; cases h
/-- what comes after normal ends -/
theorem qr_then {B A : Nat} {κ : Kap} {N : Nat} {rnd : Option Nat} {w : World} {r0 r : R} {k : K2} (h : thn r0 k = r) (hr : Good r) {K : Act → World → Prop}
    (hk : ∀ e hh top, k e hh top = r → ∀ κ' a' w', Ext κ κ' w → Frm κ w w' → St P B A κ' e hh top rnd N a' w' → K a' w') :
    ∀ x a' w', Qr P B A κ N rnd w r0 x a' w' → Exit.then K (Qr P B A κ N rnd w r) x a' w' := by
  intro x a' w' q
  rcases thn_ok h hr with ⟨e, hh, top, rfl, h⟩ | ⟨hne, rfl⟩
  · obtain ⟨rfl, κ', x1, f1, s1⟩ := q
    exact hk e hh top h κ' a' w' x1 f1 s1
  · cases r0 with
    | nrm e hh top => exact absurd rfl (hne e hh top)
    | ext i e hh top => obtain ⟨rfl, q⟩ := q; exact ⟨rfl, q⟩
    | ret e hh top => obtain ⟨rfl, q⟩ := q; exact ⟨rfl, q⟩
    | fin _ _ _ => exact q.elim
    | bad _ => exact q.elim
theorem Good.thn {r0 r : R} {k : K2} (h : thn r0 k = r) (hr : Good r) : Good r0 := by
  rcases thn_ok h hr with ⟨e, hh, top, rfl, _⟩ | ⟨_, rfl⟩
  · exact Good.nrm
  · exact hr
/-- decoded code tells the truth -/
def SndC (P : Program) (rc : Rc) (N : Nat) (c : Code) (f : Rc → E → H → Nat → R) : Prop := ∀ {e : E} {h : H} {top : Nat} {r : R}, Good r → f rc e h top = r →
  ∀ {B A : Nat} {κ : Kap} {rnd : Option Nat} {a : Act} {w : World}, St P B A κ e h top rnd N a w → c.wpIn (Fx rnd) 0 P (Qr P B A κ N rnd w r) a w
theorem loop_step {rc : Rc} {N : Nat} {c : Code} {f : Rc → E → H → Nat → R} (hf : SndC P rc N c f) (hl : LoopS P rc) {e : E} {h : H} {top : Nat} {r : R} (hr : Good r) (he : thn (f rc e h top) (rc N (.loop c)) = r)
    {B A : Nat} {κ : Kap} {rnd : Option Nat} {a : Act} {w : World} (st : St P B A κ e h top rnd N a w) : loopIn (Fx rnd) P c (Qr P B A κ N rnd w r) a w := by
  refine loopIn_step (wpIn_mono (hf (Good.thn he hr) rfl st) (qr_then he hr fun e1 h1 top1 h2 κ1 a1 w1 x1 f1 s1 => ?_))
  intro b k cs hro hb hr'
  obtain ⟨ex, a', w', hq, harr⟩ := hl hr h2 s1 b k cs hro hb hr'
  exact ⟨ex, a', w', Qr.after x1 f1 hq, harr⟩
theorem bx_loop {N : Nat} {c : Code} {g : Rc → E → H → Nat → R} (h : bx P T N (.loop c) = .mk g) : ∃ f, bx P T N c = .mk f ∧ g = fun rc e h top => thn (f rc e h top) (rc N (.loop c)) := by
  have h : Bx.rec (motive := fun _ => Bx) (fun f => .mk fun rc e h top => thn (f rc e h top) (rc N (.loop c))) (bx P T N c) = Bx.mk g := h
  cases hc : bx P T N c with
  | mk f => rw [hc] at h; injection h with h; exact ⟨f, rfl, h.symm⟩
theorem bx_ok (hT : T.okB P = true) (hM : P.follows .mixedOrders = true) {rc : Rc} (hrc : RcS P rc) (hl : LoopS P rc) {N : Nat} : ∀ (c : Code) {g : Rc → E → H → Nat → R}, bx P T N c = .mk g → SndC P rc N c g := by
  intro c
  induction c with
  | skip => intro g h; injection h with h; subst h; intro e h top r hr he B A κ rnd a w st; subst he; exact wpIn_skip ⟨rfl, κ, Ext.refl _ _, Frm.refl _ _, st⟩
  | exit i => intro g h; injection h with h; subst h; intro e h top r hr he B A κ rnd a w st; subst he; exact wpIn_exit ⟨rfl, κ, Ext.refl _ _, Frm.refl _ _, st⟩
  | ret => intro g h; injection h with h; subst h; intro e h top r hr he B A κ rnd a w st; subst he; exact wpIn_ret ⟨rfl, κ, Ext.refl _ _, Frm.refl _ _, st⟩
  | seq x y ihx ihy =>
    intro g h
    have h : Bx.rec (motive := fun _ => Bx) (fun f => Bx.rec (motive := fun _ => Bx) (fun g => .mk fun rc e h top => thn (f rc e h top) (g rc)) (bx P T N y)) (bx P T N x) = Bx.mk g := h
    cases hx : bx P T N x with
    | mk f1 =>
      cases hy : bx P T N y with
      | mk f2 =>
        rw [hx, hy] at h
        injection h with h; subst h
        intro e h top r hr he B A κ rnd a w st
        refine wpIn_seq (wpIn_mono (ihx hx (Good.thn he hr) rfl st) (qr_then he hr fun e1 h1 top1 h2 κ1 a1 w1 x1 f1 s1 => ?_))
        exact wpIn_mono (ihy hy hr h2 s1) fun _ _ _ q => Qr.after x1 f1 q
  | loop c ih =>
    intro g h
    obtain ⟨f, hf, rfl⟩ := bx_loop h
    intro e h top r hr he B A κ rnd a w st
    exact loop_of (loop_step (ih hf) hl hr he st)
  | cond c x y ihx ihy =>
    intro g h
    have h : GBo.rec (motive := fun _ => Bx) (fun q => Bx.rec (motive := fun _ => Bx) (fun f => Bx.rec (motive := fun _ => Bx) (fun g => .mk fun rc e h top => (q e).v fun x => x.bool (f rc e h top) (g rc e h top)) (bx P T N y)) (bx P T N x)) (.mk fun _ _ _ _ => .bad 85) (evb c) = Bx.mk g := h
    cases hc : evb c with
    | no => rw [hc] at h; injection h with h; subst h; intro e h top r hr he; subst he; exact hr.bad
    | mk q =>
      cases hx : bx P T N x with
      | mk f1 =>
        cases hy : bx P T N y with
        | mk f2 =>
          rw [hc, hx, hy] at h
          injection h with h; subst h
          intro e h top r hr he B A κ rnd a w st
          replace he := W.v_ok he hr; obtain ⟨v, hv, he⟩ := he
          replace he := V.bool_ok he hr; obtain ⟨b, rfl, he⟩ := he
          have hf := evb_rel hc st.er
          rw [hv] at hf
          have hf : a.eval c = .bool b := hf
          refine wpIn_cond hf ?_
          cases b with
          | true => exact ihx hx hr he st
          | false => exact ihy hy hr he st
  | block i c ih =>
    intro g h
    have h : Bx.rec (motive := fun _ => Bx) (fun f => .mk fun rc e h top => blkR i (f rc e h top)) (bx P T N c) = Bx.mk g := h
    cases hc : bx P T N c with
    | mk f =>
      rw [hc] at h
      injection h with h; subst h
      intro e h top r hr he B A κ rnd a w st
      replace he : blkR i (f rc e h top) = r := he
      have hg : Good (f rc e h top) := by
        intro n hn; rw [hn] at he; subst he; exact hr.bad
      refine wpIn_block (wpIn_mono (ih hc hg rfl st) fun x a' w' q => ?_)
      generalize f rc e h top = r0 at he q
      cases r0 with
      | nrm e1 h1 top1 =>
        have he : R.nrm e1 h1 top1 = r := he
        subst he
        obtain ⟨rfl, q⟩ := q
        exact ⟨rfl, q⟩
      | ext j e1 h1 top1 =>
        have he : ifB (Nat.beq j i) (.nrm e1 h1 top1) (.ext j e1 h1 top1) = r := he
        obtain ⟨rfl, q⟩ := q
        rw [ifB_eq] at he
        by_cases hji : j = i
        · rw [if_pos (beq_iff.2 hji)] at he
          subst he
          show Exit.inBlock i _ (.exit j) a' w'
          simp only [Exit.inBlock, hji, if_true]
          exact ⟨rfl, q⟩
        · rw [if_neg (fun h => hji (beq_iff.1 h))] at he
          subst he
          show Exit.inBlock i _ (.exit j) a' w'
          simp only [Exit.inBlock, hji, if_false]
          exact ⟨rfl, q⟩
      | ret e1 h1 top1 =>
        have he : R.ret e1 h1 top1 = r := he
        subst he
        obtain ⟨rfl, q⟩ := q
        exact ⟨rfl, q⟩
      | fin _ _ _ => exact q.elim
      | bad _ => exact q.elim
  | rangeFunc q ps x y _ _ =>
    intro g h
    have h : GBo.rec (motive := fun _ => Bx) (fun g => .mk (rangeF P T N g ps.toList x y)) (.mk fun _ _ _ _ => .bad 86) (evb q) = Bx.mk g := h
    cases hc : evb q with
    | no => rw [hc] at h; injection h with h; subst h; intro e h top r hr he; subst he; exact hr.bad
    | mk f =>
      rw [hc] at h
      injection h with h; subst h
      intro e h top r hr he B A κ rnd a w st
      exact range_ok hT hc hrc hr he st
  | region id os d =>
    intro g h
    cases d with
    | true =>
      injection h with h; subst h
      intro e h top r hr he B A κ rnd a w st
      have he : GD.rec (motive := fun _ => R) (fun f => f rc e h top (.cons h top .nil) fun e h top _ => .nrm e h top) (.bad 88) (regQ P T N os.toList) = r := he
      cases hc : regQ P T N os.toList with
      | no => rw [hc] at he; subst he; exact hr.bad
      | mk f =>
        rw [hc] at he
        exact draw_ok hT hM hc hrc hr he st
    | false =>
      injection h with h; subst h
      intro e h top r hr he B A κ rnd a w st
      have he : GO.rec (motive := fun _ => R) (fun f => f rc e h top fun e h top => .nrm e h top) (.bad 84) (regB P T N os.toList os.toList) = r := he
      cases hc : regB P T N os.toList os.toList with
      | no => rw [hc] at he; subst he; exact hr.bad
      | mk f =>
        rw [hc] at he
        exact region_ok hT (fun o f h => op_g hT h) hc hrc hr he st
  | _ => intro g h; injection h with h; subst h; intro e h top r hr he; subst he; exact hr.bad
theorem step_ok (hT : T.okB P = true) (hM : P.follows .mixedOrders = true) {rc : Rc} (hrc : RcS P rc) (hl : LoopS P rc) : RcS P (fun N c => step P T N c rc) ∧ LoopS P (fun N c => step P T N c rc) := by
  refine ⟨?_, ?_⟩
  · unfold RcS
    intro N c e h top r hr he B A κ rnd a w st
    have he : Bx.rec (motive := fun _ => R) (fun f => f rc e h top) (bx P T N c) = r := he
    cases hc : bx P T N c with
    | mk f => rw [hc] at he; exact bx_ok hT hM hrc hl c hc hr he st
  · unfold LoopS
    intro N c e h top r hr he B A κ rnd a w st
    have he : Bx.rec (motive := fun _ => R) (fun f => f rc e h top) (bx P T N (.loop c)) = r := he
    cases hc : bx P T N (.loop c) with
    | mk g =>
      rw [hc] at he
      obtain ⟨f, hf, rfl⟩ := bx_loop hc
      exact loop_step (bx_ok hT hM hrc hl c hf) hl hr he st
theorem run_ok (hT : T.okB P = true) (hM : P.follows .mixedOrders = true) : ∀ n, RcS P (run P T n) ∧ LoopS P (run P T n)
  | 0 => ⟨fun {N c e h top r} hr he => (by have he : R.bad 99 = r := he; subst he; exact hr.bad), fun {N c e h top r} hr he => by have he : R.bad 99 = r := he; subst he; exact hr.bad⟩
  | n + 1 => step_ok hT hM (run_ok hT hM n).1 (run_ok hT hM n).2
end Go.Proofs.YtjkbljgolcdhhaaGreatDoor.Fw.Cm

/- A law without arguments, from its evaluation: it returns true. -/
namespace Go.Proofs.YtjkbljgolcdhhaaGreatDoor.Fw.Cm
open Go Go.RowKit Go.WideShapes Go.ChangeShapes
/-- nothing is known but the empty closure -/
def kap0 : Kap := ⟨fun _ _ => none, fun o => if o = 0 then some (#[], #[]) else none, fun _ => none⟩
theorem hr0 (w : World) : HR w.heap.size kap0 H.zero 1 w := by
  have him : ∀ k, ¬ kap0.im k := by
    rintro k (⟨o, g, d, n, h⟩ | ⟨o, h⟩) <;> cases h
  refine ⟨fun o g b d n h => (by cases h), fun o g b d n o' g' d' n' h => (by cases h), fun k hk => absurd hk (him k), fun o us cs h => ?_, fun o b h => (by cases h), fun o o' b h => (by cases h), fun o g r h => (by cases h), fun o r h => ?_, fun o b h => (by cases h)⟩
  · simp only [kap0] at h
    split at h
    · rename_i ho
      subst ho
      injection h with h
      injection h with h1 h2
      subst h1; subst h2
      exact ⟨0, .tn, .tn, by unfold H.zero; rw [obj_seto, if_pos rfl], rfl, rfl⟩
    · cases h
  · simp only [kap0] at h
    split at h
    · omega
    · cases h
theorem isTrue_fin {r : R} (h : isTrue r = true) : ∃ hh top, r = .fin (.o (.b true)) hh top := by
  cases r with
  | fin w hh top =>
    cases w with
    | o v =>
      cases v with
      | b x => have h : x = true := h; subst h; exact ⟨hh, top, rfl⟩
      | _ => cases h
    | _ => cases h
  | _ => cases h
theorem closed_ok {P : Program} {T : TT} (hT : T.okB P = true) (hM : P.follows .mixedOrders = true) {fuel : Nat} {fn : FuncId} (hok : fnOk P fn = true) (h : isTrue (evalF P T fuel fn) = true) (w : World) :
    Calls P fn #[] w fun en w' => en = .returned (.bool true) ∧ Below w.heap.size w w' := by
  obtain ⟨hh, top, he⟩ := isTrue_fin h
  have hg : Good (evalF P T fuel fn) := by rw [he]; intro n h; cases h
  obtain ⟨v, h', top', h1, h2⟩ := runF_ok hT (run_ok hT hM fuel).1 hg (show runF P T fn (run P T fuel) .tn H.zero 1 (fun w h top => .fin w h top) = evalF P T fuel fn from rfl)
  rw [he] at h1
  injection h1 with h1 _ _
  subst h1
  obtain ⟨hc, _⟩ := h2 (vs := []) (hr0 w) (Nat.le_refl _) (by simp [kap0]) rfl
  have hc : Calls P fn #[] w (CallQ w.heap.size kap0 w (.o (.b true)) h' top') := by
    rcases hc with ⟨_, h⟩ | ⟨v, w', h, _⟩
    · exact h
    · rw [run_callFunc' hok] at h; cases h
  refine hc.mono fun en w' q => ?_
  obtain ⟨u, κ', rfl, x1, f1, _, hu⟩ := q
  have hu : u = .bool true := hu
  subst hu
  refine ⟨rfl, f1.os, f1.tape, f1.output, f1.size, fun k hk => f1.keep k hk ?_⟩
  rintro (⟨o, g, d, n, h⟩ | ⟨o, h⟩) <;> cases h
section
variable {H : Type} {enc : TypeId × Value → H} {P : Program} {W W' : World}
theorem post_closed {f : Func} {s : ChangeSpec} (hvars : s.vars = []) {tb : TypeId} (hparams : f.params = #[]) (hres : f.resultTypes = #[tb]) (hb : P.underlying tb = some .bool)
    {ds gs : List (DataW H)} {before : List MemPlace} (hW : DataW.Whole enc P f.params.toList s.vars false W [] ds gs before) (hfn : s.fn H (ds ++ gs) = { results := [.lit (.bool true)], args := ds })
    (hbl : Below W.heap.size W W') : s.post enc P f false true false false W #[] (.bool true) W' := by
  have hW0 := hW
  obtain ⟨p, q, hA, hV, rfl, hz, hn⟩ := hW
  rw [hvars] at hV
  obtain ⟨rfl, rfl⟩ := trodVars_none hV
  rw [hparams] at hA
  obtain ⟨_, rfl, rfl⟩ := trodAll_nil hA
  refine ⟨[], [], [] ++ [], [], [], [], hW0, ?_, ?_, ?_, ?_, fun h => by cases h⟩
  · rw [hfn, hres]
    exact trodAll_mk1 (shut_bool hb _)
  · rw [hfn, hparams]; rfl
  · rw [hfn, hvars]; rfl
  · exact hbl.frame _
end
end Go.Proofs.YtjkbljgolcdhhaaGreatDoor.Fw.Cm
