/- Statements whose order is open: a plan. -/
import Derived.Test.YtemfpemejagndaaFwL
set_option autoImplicit false
set_option linter.unusedVariables false
set_option linter.unusedSimpArgs false
namespace Go.Proofs.Ytemfpemejagndaa.Fw
open Go Go.RowKit Go.WideShapes

section
variable {T : TT} {P : Program} {X : List Nat} {N : Nat} {ds : Fix} {c : Ctx} {s : Env} {fr : Frs} {a : Act} {w : World} {md : Region.Mode} {ops : Array Oper}

theorem lookup_putE {dst : Option Tmp} {v : AV} {s : Env} {t : Nat} (h : dst ≠ some t) : lookup t (putE s dst v) = lookup t s := by
 cases dst with
 | none => rfl
 | some u => rw [putE, lookup_cons, if_neg fun e => h (by rw [e])]
/-- what operation i yields, now and later -/
def AYields (T : TT) (P : Program) (X : List Nat) (ops : Array Oper) (o : Oper) (r : AV) (s : Env) (fr : Frs) : Prop :=
 (wantedA ops o.guard s = some true ∧ (Solid o.op s fr ∧ NotX X o.op s) ∧ ∀ fr' K', Sees o.op s fr fr' → K' r fr' → adop T P X o.op o.type s fr' K') ∨ (wantedA ops o.guard s = some false ∧ r = .tuple [])
/-- what has come between is of no weight for o -/
def Calms (X : List Nat) (ops : Array Oper) (o : Oper) (s : Env) (fr fr' : Frs) : Prop := wantedA ops o.guard s = some true → Solid o.op s fr ∧ NotX X o.op s → Sees o.op s fr fr'
theorem AYields.later {o : Oper} {r : AV} {s s' : Env} {fr fr' : Frs} (h : AYields T P X ops o r s fr) (hk : Calms X ops o s fr fr') (hs : ∀ t ∈ o.looksAt ops, lookup t s' = lookup t s) : AYields T P X ops o r s' fr' := by
 unfold AYields at h ⊢
 rw [wantedA_eq o hs]
 rcases h with ⟨h1, h0, h2⟩ | h
 ·have hk := hk h1 h0
  exact .inl ⟨h1, ⟨(h0.1.see hk).env (ev_eq hs), h0.2.env (ev_eq hs)⟩, fun fr'' K' hk' hK' => by
   rw [adop_congr (ev_eq hs)]
   exact h2 fr'' K' (hk.trans (hk'.env fun x hx => (ev_eq hs x hx).symm)) hK'⟩
 ·exact .inr h
theorem AYields.step {i : Nat} {o : Oper} {r : AV} {K : Env → Frs → Prop} (hi : ops[i]? = some o) (hd : dstOk N o.dst) (h : AYields T P X ops o r s fr) (hK : K (putE s o.dst r) fr) : astep T P X N ops i K s fr := by
 unfold astep
 simp only [hi]
 rcases h with ⟨h1, _, h2⟩ | ⟨h1, rfl⟩
 ·exact .inl ⟨h1, h2 fr _ (Sees.refl _ _ _) ⟨hd, hK⟩⟩
 ·exact .inr ⟨h1, hd, hK⟩
/-- two values that do not lead to the same block -/
def Disj (a b : AV) : Prop := match a, b with
 | .ptr l i _, .ptr l' i' _ => ¬ (l = l' ∧ i = i')
 | .ptr l i _, .eptr l' i' _ _ => ¬ (l = l' ∧ i = i')
 | .eptr l i _ _, .ptr l' i' _ => ¬ (l = l' ∧ i = i')
 | .eptr l i _ _, .eptr l' i' _ _ => ¬ (l = l' ∧ i = i')
 | .ptr _ _ _, _ => False
 | .eptr _ _ _ _, _ => False
 | _, _ => True
/-- the store oj, if it is one, does not write what oi reads -/
def Safe (oi oj : Op) (s : Env) : Prop := match oj with
 | .store _ y _ => match oi with
  | .load _ x => Disj (ev s x) (ev s y)
  | _ => True
 | .call cl => match cl.callee with
  | .builtin .copy => match oi with
   | .load _ _ => False
   | _ => True
  | _ => True
 | _ => True
theorem setBlk_sees {l' i' : Nat} {b : Blk} {v : AV} (hne : ∀ l i, (∃ o, v = .ptr l i o) ∨ (∃ k o, v = .eptr l i k o) → ¬ (l = l' ∧ i = i')) {K : Frs → Prop} (h : setBlkK fr l' i' b K) : setBlkK fr l' i' b fun fr' => K fr' ∧ SeesV v fr fr' := by
 unfold setBlkK at h ⊢
 split at h
 ·rename_i L hL
  obtain ⟨h1, h2⟩ := setK_spec' h
  obtain ⟨h3, h4⟩ := setK_spec' h2
  refine setK_mk h1 (setK_mk h3 ⟨h4, ?_⟩)
  have key : ∀ l i, ¬ (l = l' ∧ i = i') → blk (fr.set l' (L.set i' b)) l i = blk fr l i := by
   intro l i hn
   unfold blk
   by_cases hl : l = l'
   ·subst hl
    have hi : i ≠ i' := fun e => hn ⟨rfl, e⟩
    rw [List.getElem?_set_self h3, hL]
    simp only
    rw [List.getElem?_set_ne (Ne.symm hi)]
   ·rw [List.getElem?_set_ne (Ne.symm hl)]
  cases v with
  | ptr l i o => exact key l i (hne l i (.inl ⟨o, rfl⟩))
  | eptr l i k o => exact key l i (hne l i (.inr ⟨k, o, rfl⟩))
  | _ => trivial
 ·exact h.elim
theorem astore_sees {ti : TI} {x y v : AV} (hd : Disj x y) {K : Frs → Prop} (h : astore ti fr y v K) : astore ti fr y v fun fr' => K fr' ∧ SeesV x fr fr' := by
 have hne : ∀ l' i', ((∃ o, y = .ptr l' i' o) ∨ ∃ k o, y = .eptr l' i' k o) → ∀ l i, (∃ o, x = .ptr l i o) ∨ (∃ k o, x = .eptr l i k o) → ¬ (l = l' ∧ i = i') := by
  rintro l' i' (⟨o, rfl⟩ | ⟨k, o, rfl⟩) l i (⟨o', rfl⟩ | ⟨k', o', rfl⟩) <;> exact hd
 unfold astore at h ⊢
 split at h
 ·rename_i l' i' off
  split at h
  ·refine dnK_mono (fun v h => ?_) h
   split at h
   ·exact cellsK_mono (fun l h => setBlk_sees (hne l' i' (.inl ⟨off, rfl⟩)) h) h
   ·exact h.elim
  ·exact h.elim
 ·rename_i l' i' k off
  split at h
  ·rcases h with ⟨h0, h1, h2, h3, h4⟩ | ⟨cs, h1, h2, h3, h4, h5⟩
   ·exact .inl ⟨h0, h1, h2, h3, setBlk_sees (hne l' i' (.inr ⟨k, off, rfl⟩)) h4⟩
   ·exact .inr ⟨cs, h1, h2, h3, h4, setBlk_sees (hne l' i' (.inr ⟨k, off, rfl⟩)) h5⟩
  ·exact h.elim
 ·exact h.elim
theorem adop_sees {oi oj : Op} {ty : TypeId} {K : AV → Frs → Prop} (hs : Safe oi oj s) (hso : Solid oi s fr ∧ NotX X oi s) (h : adop T P X oj ty s fr K) : adop T P X oj ty s fr fun v fr' => K v fr' ∧ Sees oi s fr fr' := by
 by_cases hk : akeep oj = true
 ·exact adop_mono' (fun v fr' hh => ⟨hh.1, hso.1.keeps hso.2 hh.2⟩) (adop_keeps hk h)
 ·cases oj <;> try (exact absurd rfl hk)
  case insert t m k x =>
   refine withT_mono (fun ti h => ?_) h
   split at h
   ·rename_i kt et hkd
    refine withT_mono (fun te h => withT_mono (fun tk h => ?_) h) h
    split at h
    ·rename_i l i hm
     split at h
     ·rename_i es kd xd hb hkd hxd
      refine ⟨h.key, ?_⟩
      by_cases hl : ∃ u z, oi = .load u z
      ·obtain ⟨u, z, rfl⟩ := hl
       refine setBlk_sees (v := ev s z) (fun l' i' hv hh => ?_) h.out
       obtain ⟨rfl, rfl⟩ := hh
       have hso1 : SolidV (ev s z) fr := hso.1
       rcases hv with ⟨o, hv⟩ | ⟨k, o, hv⟩
       ·rw [hv] at hso1
        obtain ⟨b, h1, _, h3⟩ := hso1
        rw [hb] at h1; injection h1 with h1
        exact h3 _ h1.symm
       ·rw [hv] at hso1
        obtain ⟨b, h1, _, h3⟩ := hso1
        rw [hb] at h1; injection h1 with h1
        exact h3 _ h1.symm
      ·refine setBlkK_mono (fun fr hh => ⟨hh, ?_⟩) h.out
       cases oi <;> first | trivial | exact absurd ⟨_, _, rfl⟩ hl
     ·exact h.elim
    ·exact h.elim
   ·exact h.elim
  case mapUpdate t m k x =>
   refine withT_mono (fun ti h => ?_) h
   split at h
   ·rename_i kt et hkd
    refine withT_mono (fun te h => withT_mono (fun tk h => ?_) h) h
    split at h
    ·rename_i l i hm
     split at h
     ·rename_i es kd xd hb hkd hxd
      refine ⟨h.key, ?_⟩
      by_cases hl : ∃ u z, oi = .load u z
      ·obtain ⟨u, z, rfl⟩ := hl
       refine setBlk_sees (v := ev s z) (fun l' i' hv hh => ?_) h.out
       obtain ⟨rfl, rfl⟩ := hh
       have hso1 : SolidV (ev s z) fr := hso.1
       rcases hv with ⟨o, hv⟩ | ⟨k, o, hv⟩
       ·rw [hv] at hso1
        obtain ⟨b, h1, _, h3⟩ := hso1
        rw [hb] at h1; injection h1 with h1
        exact h3 _ h1.symm
       ·rw [hv] at hso1
        obtain ⟨b, h1, _, h3⟩ := hso1
        rw [hb] at h1; injection h1 with h1
        exact h3 _ h1.symm
      ·refine setBlkK_mono (fun fr hh => ⟨hh, ?_⟩) h.out
       cases oi <;> first | trivial | exact absurd ⟨_, _, rfl⟩ hl
     ·exact h.elim
    ·exact h.elim
   ·exact h.elim
  case call cl =>
   obtain ⟨callee, args, argTypes⟩ := cl
   cases callee <;> try (exact absurd rfl hk)
   rename_i b
   cases b <;> try (exact absurd rfl hk)
   refine adop_mono' (fun v fr' hh => ⟨hh, ?_⟩) h
   cases oi <;> first | trivial | exact hs.elim
  rename_i t y v
  by_cases hl : ∃ u x, oi = .load u x
  ·obtain ⟨u, x, rfl⟩ := hl
   have h : withT T t fun ti => astore ti fr (ev s y) (ev s v) fun fr => K .undef fr := h
   exact withT_mono (fun ti h => astore_sees (x := ev s x) hs h) h
  ·refine adop_mono' (fun v fr' hh => ⟨hh, ?_⟩) h
   cases oi <;> first | trivial | exact absurd ⟨_, _, rfl⟩ hl
theorem astep_comm {j : Nat} {oi oj : Oper} {r : AV} {K : Env → Frs → Prop} (hj : ops[j]? = some oj) (hsafe : Safe oi.op oj.op s) (hap : oi.apart ops oj = true) (hK : ∀ s s' fr, EqE s s' → K s fr → K s' fr)
  (hy : AYields T P X ops oi r s fr) (h : astep T P X N ops j K (putE s oi.dst r) fr) : astep T P X N ops j (fun s' fr' => (∃ v, s' = putE s oj.dst v) ∧ AYields T P X ops oi r s' fr' ∧ K (putE s' oi.dst r) fr') s fr := by
 obtain ⟨h1, h2, h3⟩ := Oper.apart_spec hap
 unfold astep at h ⊢
 simp only [hj] at h ⊢
 have hlook : ∀ t ∈ oj.looksAt ops, lookup t (putE s oi.dst r) = lookup t s := fun t ht => lookup_putE fun e => h1 t e ht
 rw [wantedA_eq oj hlook] at h
 have hlook' : ∀ (x : AV), ∀ t ∈ oi.looksAt ops, lookup t (putE s oj.dst x) = lookup t s := fun x t ht => lookup_putE fun e => h3 t e ht
 rcases h with ⟨hw, h⟩ | ⟨hw, hd, h⟩
 ·refine .inl ⟨hw, ?_⟩
  rw [adop_congr (ev_eq hlook)] at h
  have hy' := hy
  rcases hy' with ⟨_, hso, _⟩ | ⟨hwi, _⟩
  ·refine adop_mono' (fun v fr' hh => ?_) (adop_sees hsafe hso h)
   obtain ⟨⟨hd, hh⟩, hk⟩ := hh
   exact ⟨hd, ⟨v, rfl⟩, hy.later (fun _ _ => hk) (hlook' v), hK _ _ _ (EqE.put_swap h2 _ _) hh⟩
  ·refine adop_mono' (fun v fr' hh => ?_) h
   obtain ⟨hd, hh⟩ := hh
   exact ⟨hd, ⟨v, rfl⟩, hy.later (fun e _ => by rw [hwi] at e; cases e) (hlook' v), hK _ _ _ (EqE.put_swap h2 _ _) hh⟩
 ·exact .inr ⟨hw, hd, ⟨_, rfl⟩, hy.later (fun _ _ => Sees.refl _ _ _) (hlook' _), hK _ _ _ (EqE.put_swap h2 _ _) h⟩
theorem astep_mono {i : Nat} {K K' : Env → Frs → Prop} (hK : ∀ s fr, K s fr → K' s fr) (h : astep T P X N ops i K s fr) : astep T P X N ops i K' s fr := by
 unfold astep at h ⊢
 split at h
 ·exact hK _ _ h
 ·rcases h with ⟨h2, h3⟩ | ⟨h2, hd, h3⟩
  ·exact .inl ⟨h2, adop_mono' (fun v fr h => ⟨h.1, hK _ _ h.2⟩) h3⟩
  ·exact .inr ⟨h2, hd, hK _ _ h3⟩
theorem Safe.put {oi oj : Op} {dst : Option Tmp} {v : AV} (h : Safe oi oj s) (h1 : ∀ d, dst = some d → ∀ u x, oi = .load u x → x ≠ .tmp d) (h2 : ∀ d, dst = some d → ∀ u x t y w, oi = .load u x → oj = .store t y w → y ≠ .tmp d) : Safe oi oj (putE s dst v) := by
 have hev : ∀ x : Operand, (∀ d, dst = some d → x ≠ .tmp d) → ev (putE s dst v) x = ev s x := by
  intro x hx
  cases x with
  | tmp t => exact lookup_putE fun e => hx t e rfl
  | _ => rfl
 cases oj <;> first | trivial | exact h | skip
 cases oi <;> first | trivial | skip
 rename_i t y w u x
 show Disj (ev (putE s dst v) x) (ev (putE s dst v) y)
 rw [hev x fun d hd => h1 d hd _ _ rfl, hev y fun d hd => h2 d hd _ _ _ _ _ rfl rfl]
 exact h
theorem AAny_first {K : Env → Frs → Prop} (hK : ∀ s s' fr, EqE s s' → K s fr → K s' fr) {i : Nat} {oi : Oper} {r : AV} (hi : ops[i]? = some oi) (hd : dstOk N oi.dst) :
  ∀ (fuel : Nat) (listed : Array Bool) (s : Env) (fr : Frs),
   (∀ j oj, ops[j]? = some oj → j ≠ i → listed.getD j true = false → (∀ e ∈ oj.after, Region.binds md e = true → e.on ≠ i) → oi.apart ops oj = true ∧ Safe oi.op oj.op s ∧
    ∀ u x t y w, oi.op = .load u x → oj.op = .store t y w → ∀ k ok d, ops[k]? = some ok → k ≠ i → listed.getD k true = false → ok.dst = some d → y ≠ .tmp d) →
   i ∈ Region.ready md ops listed → AYields T P X ops oi r s fr →
   AAny T P X N md ops K fuel (listed.setIfInBounds i true) (putE s oi.dst r) fr → AAny T P X N md ops K (fuel + 1) listed s fr := by
 intro fuel
 induction fuel with
 | zero =>
  intro listed s fr _ hr hy H
  refine ⟨fun h => (by rw [h] at hr; cases hr), fun j hj => ?_⟩
  by_cases hji : j = i
  ·subst hji; exact hy.step hi hd H
  ·have := ready_mono hj hji
   rw [H.1] at this
   cases this
 | succ fuel ih =>
  intro listed s fr hfree hr hy H
  refine ⟨fun h => (by rw [h] at hr; cases hr), fun j hj => ?_⟩
  by_cases hji : j = i
  ·subst hji; exact hy.step hi hd H
  ·have h1 := H.2 j (ready_mono hj hji)
   obtain ⟨hjun, oj, hoj, hall⟩ := mem_ready.1 hj
   have hnot : ∀ e ∈ oj.after, Region.binds md e = true → e.on ≠ i := fun e he hb heq => by
    have h1 := hall e he hb
    have h0 := (mem_ready.1 hr).1
    rw [heq] at h1
    rcases Nat.lt_or_ge i listed.size with h' | h'
    ·simp [h'] at h0 h1; rw [h0] at h1; cases h1
    ·simp [Array.getElem?_eq_none h'] at h1
   obtain ⟨hap, hsf, hst⟩ := hfree j oj hoj hji hjun hnot
   have h2 := astep_comm (K := AAny T P X N md ops K fuel ((listed.setIfInBounds i true).setIfInBounds j true)) hoj hsf hap (fun s s' fr he h => AAny.eqE hK _ _ _ _ _ he h) hy h1
   obtain ⟨a1, a2, a3⟩ := Oper.apart_spec hap
   refine astep_mono (fun s' fr' h3 => ?_) h2
   obtain ⟨⟨v, rfl⟩, h4, h5⟩ := h3
   have hfree' : ∀ k ok, ops[k]? = some ok → k ≠ i → (listed.setIfInBounds j true).getD k true = false →
     (∀ e ∈ ok.after, Region.binds md e = true → e.on ≠ i) → oi.apart ops ok = true ∧ Safe oi.op ok.op (putE s oj.dst v) ∧
      ∀ u x t y w, oi.op = .load u x → ok.op = .store t y w → ∀ k ok d, ops[k]? = some ok → k ≠ i → (listed.setIfInBounds j true).getD k true = false → ok.dst = some d → y ≠ .tmp d := fun k ok hk hki hun hno => by
    have hun' : listed.getD k true = false := by
     by_cases hjk : j = k
     ·subst hjk; exact hjun
     ·rw [getD_set_ne true hjk] at hun; exact hun
    obtain ⟨b1, b2, b3⟩ := hfree k ok hk hki hun' hno
    refine ⟨b1, b2.put (fun d hd u x e hx => a3 d hd ?_) fun d hd u x t y w e1 e2 => b3 u x t y w e1 e2 j oj d hoj hji hjun hd, fun u x t y w e1 e2 k' ok' d g1 g2 g3 g4 => b3 u x t y w e1 e2 k' ok' d g1 g2 ?_ g4⟩
    ·subst hx
     exact List.mem_append_left _ (List.mem_filterMap.2 ⟨.tmp d, by simp [e, Op.operands], rfl⟩)
    ·by_cases hjk : j = k'
     ·subst hjk; exact hjun
     ·rw [getD_set_ne true hjk] at g3; exact g3
   refine ih (listed.setIfInBounds j true) _ fr' hfree' (ready_mono hr (Ne.symm hji)) h4 ?_
   rw [Array.setIfInBounds_comm _ _ hji]
   exact h5
/-! ### plans -/
inductive Plan where
 | done
 | first (i : Nat) (rest : Plan)
 | firstL (i : Nat) (ys : List Nat) (rest : Plan)
 | last (i : Nat) (rest : Plan)
 | two (i : Nat) (p : Plan) (j : Nat) (q : Plan)
def pstep (T : TT) (P : Program) (X : List Nat) (N : Nat) (ops : List Oper) (i : Nat) (K : Env → Frs → Prop) (s : Env) (fr : Frs) : Prop := match ops[i]? with
 | none => False
 | some o => awanted ops o.guard s (adop T P X o.op o.type s fr fun v fr => putK N s o.dst v fun s => K s fr) (putK N s o.dst (.tuple []) fun s => K s fr)
def adisj (a b : AV) (X : Prop) : Prop := match a with
 | .ptr l i _ => match b with
  | .ptr l' i' _ => match Nat.beq l l' with | true => (match Nat.beq i i' with | true => False | false => X) | false => X
  | .eptr l' i' _ _ => match Nat.beq l l' with | true => (match Nat.beq i i' with | true => False | false => X) | false => X
  | _ => False
 | .eptr l i _ _ => match b with
  | .ptr l' i' _ => match Nat.beq l l' with | true => (match Nat.beq i i' with | true => False | false => X) | false => X
  | .eptr l' i' _ _ => match Nat.beq l l' with | true => (match Nat.beq i i' with | true => False | false => X) | false => X
  | _ => False
 | _ => X
def adisjs (a : AV) (s : Env) (ys : List Nat) (X : Prop) : Prop := List.rec (motive := fun _ => Prop) X (fun t _ ih => adisj a (lookup t s) ih) ys
theorem adisj_spec {a b : AV} {X : Prop} (h : adisj a b X) : Disj a b ∧ X := by
 have ne : ∀ {l l' i i' : Nat}, (match Nat.beq l l' with | true => (match Nat.beq i i' with | true => False | false => X) | false => X) → ¬ (l = l' ∧ i = i') ∧ X := by
  intro l l' i i' h
  split at h
  ·split at h
   ·exact h.elim
   ·rename_i _ h2; exact ⟨fun e => by rw [e.2] at h2; simp at h2, h⟩
  ·rename_i h2; exact ⟨fun e => by rw [e.1] at h2; simp at h2, h⟩
 unfold adisj at h
 cases a with
 | ptr l i o => cases b with
  | ptr l' i' o' => exact ne h
  | eptr l' i' k o' => exact ne h
  | _ => exact h.elim
 | eptr l i k o => cases b with
  | ptr l' i' o' => exact ne h
  | eptr l' i' k o' => exact ne h
  | _ => exact h.elim
 | _ => exact ⟨by cases b <;> trivial, h⟩
theorem adisjs_spec {a : AV} {X : Prop} : ∀ {ys : List Nat}, adisjs a s ys X → (∀ t ∈ ys, Disj a (lookup t s)) ∧ X
 | [], h => ⟨fun t ht => (by cases ht), h⟩
 | t :: r, h => by
  obtain ⟨h1, h2⟩ := adisj_spec h
  obtain ⟨h3, h4⟩ := adisjs_spec (ys := r) h2
  refine ⟨fun u hu => ?_, h4⟩
  rcases List.mem_cons.1 hu with rfl | hu
  ·exact h1
  ·exact h3 u hu
theorem adisjs_mono {a : AV} {X Y : Prop} (hXY : X → Y) : ∀ {ys : List Nat}, adisjs a s ys X → adisjs a s ys Y
 | [], h => hXY h
 | t :: r, h => by
  have key : ∀ {b : AV} {X Y : Prop}, (X → Y) → adisj a b X → adisj a b Y := by
   intro b X Y hXY h
   unfold adisj at h ⊢
   cases a <;> try exact hXY h
   all_goals
    cases b <;> try exact h.elim
    all_goals
     simp only at h ⊢
     split at h
     ·split at h
      ·exact h.elim
      ·exact hXY h
     ·exact hXY h
  exact key (adisjs_mono hXY (ys := r)) h
def anotX (X : List Nat) (v : AV) (A : Prop) : Prop := match v with
 | .ptr 0 i _ => match memNat i X with | true => False | false => A
 | .eptr 0 i _ _ => match memNat i X with | true => False | false => A
 | _ => A
theorem memNat_not : ∀ {n : Nat} {l : List Nat}, memNat n l = false → n ∉ l
 | n, [], _ => by simp
 | n, m :: r, h => by
  simp only [memNat] at h
  split at h
  ·cases h
  ·rename_i hb
   have : n ≠ m := fun e => by subst e; simp at hb
   simp [this, memNat_not h]
theorem anotX_spec {v : AV} {A : Prop} (h : anotX X v A) : NotXV X v ∧ A := by
 unfold anotX at h
 split at h
 ·split at h
  ·exact h.elim
  ·rename_i hb; exact ⟨fun _ => memNat_not hb, h⟩
 ·split at h
  ·exact h.elim
  ·rename_i hb; exact ⟨fun _ => memNat_not hb, h⟩
 ·rename_i h1 h2
  refine ⟨?_, h⟩
  cases v with
  | ptr l i o => cases l with
   | zero => exact absurd rfl (h1 i o)
   | succ l => exact fun e => by cases e
  | eptr l i k o => cases l with
   | zero => exact absurd rfl (h2 i k o)
   | succ l => exact fun e => by cases e
  | _ => trivial
theorem anotX_mono {v : AV} {A B : Prop} (hAB : A → B) (h : anotX X v A) : anotX X v B := by
 unfold anotX at h ⊢
 split at h
 ·split at h
  ·exact h.elim
  ·exact hAB h
 ·split at h
  ·exact h.elim
  ·exact hAB h
 ·exact hAB h
/-- the statement, as planned -/
def aplan (T : TT) (P : Program) (X : List Nat) (N : Nat) (ops : List Oper) (K : Env → Frs → Prop) (p : Plan) : Env → Frs → Prop :=
 Plan.rec (motive := fun _ => Env → Frs → Prop) (fun s fr => K s fr)
  (fun i _ ih s fr => match ops[i]? with
   | some o => match o.op with
    | .load _ x => anotX X (ev s x) (pstep T P X N ops i ih s fr)
    | _ => pstep T P X N ops i ih s fr
   | none => False)
  (fun i ys _ ih s fr => match ops[i]? with
   | some o => match o.op with
    | .load _ x => adisjs (ev s x) s ys (anotX X (ev s x) (pstep T P X N ops i ih s fr))
    | _ => False
   | none => False)
  (fun i _ ih s fr => pstep T P X N ops i ih s fr)
  (fun i _ j _ ihp ihq s fr => pstep T P X N ops i ihp s fr ∧ pstep T P X N ops j ihq s fr) p
def notLoad : Op → Bool
 | .load _ _ => false
 | _ => true
def isMapU : Op → Bool
 | .mapUpdate _ _ _ _ => true
 | .insert _ _ _ _ => true
 | _ => false
def okStore (ops : Array Oper) (listed : Array Bool) (i : Nat) (ys : List Nat) : Op → Bool
 | .store _ (.tmp t) _ => ys.contains t && (List.range ops.size).all fun k => k == i || listed.getD k true || match ops[k]? with | some o => o.dst != some t | none => true
 | _ => false
def freeOf (md : Region.Mode) (ops : Array Oper) (listed : Array Bool) (i : Nat) (ys : List Nat) : Bool :=
 match ops[i]? with
 | none => false
 | some oi => acalm oi.op && (List.range ops.size).all fun j => j == i || listed.getD j true || match ops[j]? with
   | some oj => oj.after.any (fun e => Region.binds md e && e.on == i) || (oi.apart ops oj && (akeep oj.op || isMapU oj.op || (notLoad oi.op || okStore ops listed i ys oj.op)))
   | none => true
def planOk (ops : Array Oper) : Nat → Array Bool → Plan → Bool
 | _, listed, .done => Region.ready .any ops listed == []
 | 0, _, _ => false
 | fuel + 1, listed, .first i p => (Region.ready .any ops listed).contains i && freeOf .any ops listed i [] && planOk ops fuel (listed.setIfInBounds i true) p
 | fuel + 1, listed, .firstL i ys p => (Region.ready .any ops listed).contains i && freeOf .any ops listed i ys && planOk ops fuel (listed.setIfInBounds i true) p
 | fuel + 1, listed, .last i p => Region.ready .any ops listed == [i] && planOk ops fuel (listed.setIfInBounds i true) p
 | fuel + 1, listed, .two i p j q => Region.ready .any ops listed == [i, j] && planOk ops fuel (listed.setIfInBounds i true) p && planOk ops fuel (listed.setIfInBounds j true) q
theorem Safe.call {oi : Op} {cl : Call} (h : akeep (.call cl) = true ∨ notLoad oi = true) : Safe oi (.call cl) s := by
 obtain ⟨callee, args, argTypes⟩ := cl
 cases callee <;> try trivial
 rename_i b
 cases b <;> try trivial
 rcases h with h | h
 ·cases h
 ·cases oi <;> first | trivial | cases h
theorem freeOf_spec {i : Nat} {oi : Oper} {listed : Array Bool} {ys : List Nat} (hi : ops[i]? = some oi) (hys : ∀ u x, oi.op = .load u x → ∀ t ∈ ys, Disj (ev s x) (lookup t s)) (h : freeOf md ops listed i ys = true) :
  acalm oi.op = true ∧ ∀ (j : Nat) (oj : Oper), ops[j]? = some oj → j ≠ i → listed.getD j true = false → (∀ e ∈ oj.after, Region.binds md e = true → e.on ≠ i) → oi.apart ops oj = true ∧ Safe oi.op oj.op s ∧
    ∀ u x t y w, oi.op = .load u x → oj.op = .store t y w → ∀ k ok d, ops[k]? = some ok → k ≠ i → listed.getD k true = false → ok.dst = some d → y ≠ .tmp d := by
 simp only [freeOf, hi, Bool.and_eq_true, List.all_eq_true, List.mem_range] at h
 refine ⟨h.1, fun j oj hj hne hun hno => ?_⟩
 have h1 := h.2 j (Array.getElem?_eq_some_iff.1 hj).1
 simp only [hj, Bool.or_eq_true, beq_iff_eq, hne, false_or, hun, Bool.false_eq_true, Bool.and_eq_true] at h1
 rcases h1 with h1 | ⟨h1, h2⟩
 ·obtain ⟨e, he, hb⟩ := Array.any_eq_true'.1 h1
  simp only [Bool.and_eq_true, beq_iff_eq] at hb
  exact absurd hb.2 (hno e he hb.1)
 ·refine ⟨h1, ?_⟩
  rcases h2 with (h2 | h2) | h2 | h2
  ·refine ⟨?_, fun u x t y w _ e => by rw [e] at h2; cases h2⟩
   cases hoj : oj.op <;> first | trivial | exact Safe.call (.inl (hoj ▸ h2)) | (rw [hoj] at h2; cases h2)
  ·refine ⟨?_, fun u x t y w _ e => by rw [e] at h2; cases h2⟩
   cases hoj : oj.op <;> first | trivial | (rw [hoj] at h2; cases h2)
  ·refine ⟨?_, fun u x t y w e _ => by rw [e] at h2; cases h2⟩
   cases hoj : oj.op <;> first | trivial | exact Safe.call (.inr h2) | skip
   cases hoi : oi.op <;> first | trivial | (rw [hoi] at h2; cases h2)
  ·unfold okStore at h2
   split at h2
   ·rename_i t0 t w0 hoj
    simp only [Bool.and_eq_true, List.all_eq_true, List.mem_range, List.contains_iff_mem] at h2
    obtain ⟨h2, h3⟩ := h2
    refine ⟨?_, fun u x t' y w e1 e2 k ok d g1 g2 g3 g4 => ?_⟩
    ·rw [hoj]
     cases hoi : oi.op <;> first | trivial | skip
     exact hys _ _ hoi t h2
    ·rw [hoj] at e2
     injection e2 with _ e2 _
     subst e2
     intro e
     injection e with e
     subst e
     have h4 := h3 k (Array.getElem?_eq_some_iff.1 g1).1
     simp only [g1, Bool.or_eq_true, beq_iff_eq, g2, false_or, g3, Bool.false_eq_true, g4] at h4
     simp at h4
   ·cases h2
theorem pstep_astep {i : Nat} {K : Env → Frs → Prop} (h : pstep T P X N ops.toList i K s fr) : astep T P X N ops i K s fr := by
 unfold pstep at h
 unfold astep
 rw [Array.getElem?_toList] at h
 split at h
 ·exact h.elim
 ·rename_i o ho
  simp only [ho]
  rcases awanted_eq h with ⟨h1, h2⟩ | ⟨h1, h2⟩
  ·exact .inl ⟨h1, adop_mono' (fun v fr h => putK_iff h) h2⟩
  ·exact .inr ⟨h1, putK_iff h2⟩
theorem pstep_first {i : Nat} {K : Env → Frs → Prop} {oi : Oper} (hi : ops[i]? = some oi) (hc : acalm oi.op = true) (hx : NotX X oi.op s) (h : pstep T P X N ops.toList i K s fr) : ∃ r, dstOk N oi.dst ∧ AYields T P X ops oi r s fr ∧ K (putE s oi.dst r) fr := by
 unfold pstep at h
 rw [Array.getElem?_toList, hi] at h
 simp only at h
 rcases awanted_eq h with ⟨h1, h2⟩ | ⟨h1, h2⟩
 ·obtain ⟨r, h3, h0, h4⟩ := (calm_spec hc h2).out
  obtain ⟨h5, h6⟩ := putK_iff h3
  exact ⟨r, h5, .inl ⟨h1, ⟨h0, hx⟩, h4⟩, h6⟩
 ·obtain ⟨h5, h6⟩ := putK_iff h2
  exact ⟨.tuple [], h5, .inr ⟨h1, rfl⟩, h6⟩
theorem plan_any {K : Env → Frs → Prop} (hK : ∀ s s' fr, EqE s s' → K s fr → K s' fr) : ∀ (fuel : Nat) (listed : Array Bool) (p : Plan) (s : Env) (fr : Frs), planOk ops fuel listed p = true → aplan T P X N ops.toList K p s fr → AAny T P X N .any ops K fuel listed s fr
 | fuel, listed, .done, s, fr, h, hp => by
  have hr : Region.ready .any ops listed = [] := by
   cases fuel <;> simpa [planOk] using h
  cases fuel with
  | zero => exact ⟨hr, hp⟩
  | succ fuel => exact ⟨fun _ => hp, by rw [hr]; simp⟩
 | 0, listed, .first i p, s, fr, h, hp => by simp [planOk] at h
 | 0, listed, .firstL i ys p, s, fr, h, hp => by simp [planOk] at h
 | 0, listed, .last i p, s, fr, h, hp => by simp [planOk] at h
 | 0, listed, .two i p j q, s, fr, h, hp => by simp [planOk] at h
 | fuel + 1, listed, .first i p, s, fr, h, hp => by
  simp only [planOk, Bool.and_eq_true] at h
  obtain ⟨⟨h1, h2⟩, h3⟩ := h
  obtain ⟨oi, hi⟩ : ∃ oi, ops[i]? = some oi := by
   cases hh : ops[i]? with
   | none => simp [freeOf, hh] at h2
   | some o => exact ⟨o, rfl⟩
  obtain ⟨hc, hf⟩ := freeOf_spec (s := s) (ys := []) hi (fun _ _ _ t ht => by cases ht) h2
  have hp : match ops.toList[i]? with
   | some o => match o.op with
    | .load _ x => anotX X (ev s x) (pstep T P X N ops.toList i (aplan T P X N ops.toList K p) s fr)
    | _ => pstep T P X N ops.toList i (aplan T P X N ops.toList K p) s fr
   | none => False := hp
  rw [Array.getElem?_toList, hi] at hp
  obtain ⟨hx, hp⟩ : NotX X oi.op s ∧ pstep T P X N ops.toList i (aplan T P X N ops.toList K p) s fr := by
   unfold NotX
   simp only at hp
   split at hp
   ·rename_i e; rw [e]; exact anotX_spec hp
   ·rename_i hno
    refine ⟨?_, hp⟩
    split
    ·rename_i e; exact absurd e (hno _ _)
    ·trivial
  obtain ⟨r, k1, k2, k3⟩ := pstep_first hi hc hx hp
  exact AAny_first hK hi k1 fuel listed s fr hf (by simpa using h1) k2 (plan_any hK fuel _ p _ _ h3 k3)
 | fuel + 1, listed, .firstL i ys p, s, fr, h, hp => by
  simp only [planOk, Bool.and_eq_true] at h
  obtain ⟨⟨h1, h2⟩, h3⟩ := h
  have hp : match ops.toList[i]? with
   | some o => match o.op with
    | .load _ x => adisjs (ev s x) s ys (anotX X (ev s x) (pstep T P X N ops.toList i (aplan T P X N ops.toList K p) s fr))
    | _ => False
   | none => False := hp
  rw [Array.getElem?_toList] at hp
  split at hp
  ·rename_i oi hi
   split at hp
   ·rename_i u x hoi
    obtain ⟨hd, hp⟩ := adisjs_spec hp
    obtain ⟨hx, hp⟩ := anotX_spec hp
    obtain ⟨hc, hf⟩ := freeOf_spec (s := s) (ys := ys) hi (fun u' x' e t ht => by rw [hoi] at e; injection e with _ e; subst e; exact hd t ht) h2
    obtain ⟨r, k1, k2, k3⟩ := pstep_first hi hc (by unfold NotX; rw [hoi]; exact hx) hp
    exact AAny_first hK hi k1 fuel listed s fr hf (by simpa using h1) k2 (plan_any hK fuel _ p _ _ h3 k3)
   ·exact hp.elim
  ·exact hp.elim
 | fuel + 1, listed, .last i p, s, fr, h, hp => by
  simp only [planOk, Bool.and_eq_true, beq_iff_eq] at h
  obtain ⟨h1, h3⟩ := h
  refine ⟨fun hr => (by rw [h1] at hr; cases hr), fun j hj => ?_⟩
  rw [h1] at hj
  simp only [List.mem_singleton] at hj
  subst hj
  exact astep_mono (fun s fr h => plan_any hK fuel _ p _ _ h3 h) (pstep_astep hp)
 | fuel + 1, listed, .two i p j q, s, fr, h, hp => by
  simp only [planOk, Bool.and_eq_true, beq_iff_eq] at h
  obtain ⟨⟨h1, h3⟩, h4⟩ := h
  refine ⟨fun hr => (by rw [h1] at hr; cases hr), fun k hk => ?_⟩
  rw [h1] at hk
  simp only [List.mem_cons, List.not_mem_nil, or_false] at hk
  rcases hk with rfl | rfl
  ·exact astep_mono (fun s fr h => plan_any hK fuel _ p _ _ h3 h) (pstep_astep hp.1)
  ·exact astep_mono (fun s fr h => plan_any hK fuel _ q _ _ h4 h) (pstep_astep hp.2)
/-! ### soundness -/
theorem wanted_of {o : Oper} {b : Bool} (hs : St N ds c s fr a w) (h : wantedA ops o.guard s = some b) : Region.wanted o (yielded ops a.tmps) = b := by
 unfold wantedA at h
 unfold Region.wanted
 cases hg : o.guard with
 | none => rw [hg] at h; simpa using h
 | some gw =>
  obtain ⟨j, want⟩ := gw
  rw [hg] at h
  simp only at h ⊢
  split at h
  ·rename_i q hq
   split at h
   ·rename_i t ht
    split at h
    ·rename_i b' he
     injection h with h
     subst h
     have hr := hs.rel t
     rw [he] at hr
     have h1 := hr.bool_inv
     have h2 : a.tmps[t]? = some (.bool b') := by
      rw [Array.getD_eq_getD_getElem?] at h1
      cases ht2 : a.tmps[t]? with
      | none => rw [ht2] at h1; simp [undef] at h1
      | some v => rw [ht2] at h1; simpa using h1
     simp only [yielded, hq, Option.bind_some, ht, h2]
     cases b' <;> cases want <;> rfl
    ·rename_i he
     injection h with h
     subst h
     have hr := hs.rel t
     rw [he] at hr
     have h2 : a.tmps[t]? = none ∨ a.tmps[t]? = some (.tuple #[]) := by
      rw [Array.getD_eq_getD_getElem?] at hr
      cases ht2 : a.tmps[t]? with
      | none => exact .inl rfl
      | some v =>
       rw [ht2] at hr
       right
       simp only [Option.getD_some] at hr
       cases hr with | tuple vs _ hn _ =>
       have : vs = [] := by simpa using hn
       subst this; rfl
     simp only [yielded, hq, Option.bind_some, ht]
     rcases h2 with h2 | h2 <;> rw [h2] <;> rfl
    ·cases h
   ·cases h
  ·cases h
theorem St.putE (h : St N ds c s fr a w) {dst : Option Tmp} {v : Value} {x : AV} (hv : VRel c v x) (hk : dstOk N dst) : St N ds c (putE s dst x) fr (a.put dst v) w := by
 have hK : ∀ (x : AV), dstOk N dst → putK N s dst x fun s' => s' = Fw.putE s dst x := by
  intro x hd
  cases dst with
  | none => rfl
  | some t =>
   have : Nat.blt t N = true := by rw [Nat.blt_eq]; exact hd
   unfold putK
   simp only [this]
   cases x <;> rfl
 obtain ⟨s', rfl, h'⟩ := h.put hv (hK x hk)
 exact h'
theorem astep_wp (hT : T.okB P = true) {i : Nat} {K : Env → Frs → Prop} {Q : Exit → Act → World → Prop} {next : Act → World → Prop} (hs : St N ds c s fr a w) (h : astep T P X N ops i K s fr)
  (hK : ∀ c' s' fr' a' w', K s' fr' → c.out ds.m c' → St N ds c' s' fr' a' w' → next a' w') : wpOp P ops Q i next a w := by
 unfold astep at h
 unfold wpOp
 split at h
 ·rename_i hi; simp only [hi]; exact hK c s fr a w h (Ctx.out.refl c _) hs
 ·rename_i o hi
  simp only [hi]
  rcases h with ⟨h1, h2⟩ | ⟨h1, h2, h3⟩
  ·rw [wanted_of hs h1]
   simp only [if_true]
   refine .inl (aop_wp hT hs (adop_aop h2) (fun c' fr' v r w' hk hle hv hs' => ?_) fun _ _ _ _ _ h => h.elim)
   exact hK c' _ fr' _ w' hk.2 (hle.out _) (hs'.putE hv hk.1)
  ·rw [wanted_of hs h1]
   simp only [Bool.false_eq_true, if_false]
   exact hK c _ fr _ w h3 (Ctx.out.refl c _) (hs.putE (undef_rel c) h2)
theorem any_wp (hT : T.okB P = true) {K : Env → Frs → Prop} {Q : Exit → Act → World → Prop} : ∀ (fuel : Nat) (listed : Array Bool) {c : Ctx} {s : Env} {fr : Frs} {a : Act} {w : World}, St N ds c s fr a w → AAny T P X N md ops K fuel listed s fr →
  (∀ c' s' fr' a' w', K s' fr' → c.out ds.m c' → St N ds c' s' fr' a' w' → Q .normal a' w') → wpAny P md ops Q fuel listed a w
 | 0, listed, c, s, fr, a, w, hs, h, hK => ⟨h.1, hK c s fr a w h.2 (Ctx.out.refl c _) hs⟩
 | fuel + 1, listed, c, s, fr, a, w, hs, h, hK => ⟨fun hr => hK c s fr a w (h.1 hr) (Ctx.out.refl c _) hs, fun i hi =>
  astep_wp hT hs (h.2 i hi) fun c' s' fr' a' w' hk hle hs' => any_wp hT fuel _ hs' hk fun c'' s'' fr'' a'' w'' k1 k2 k3 => hK c'' s'' fr'' a'' w'' k1 (hle.trans k2) k3⟩
theorem St.drawn (h : St N ds c s fr a w) (n : Nat) : St N ds c s fr a { w with drawn := n } := by
 have hb : Below w.heap.size w { w with drawn := n } := ⟨rfl, rfl, rfl, Nat.le_refl _, fun _ _ => rfl⟩
 have h1 := h.ok.calls hb h.B (Imm.ext.refl _ _) (h.ok.mod.below hb)
 exact ⟨h1, h.B, h.n, h.ds, h.rel⟩
theorem fz_mono {v : AV} {K K' : AV → Prop} (hK : ∀ v, K v → K' v) (h : fz v K) : fz v K' := by cases v <;> exact hK _ h
theorem putK_mono {dst : Option Tmp} {v : AV} {K K' : Env → Prop} (hK : ∀ s, K s → K' s) (h : putK N s dst v K) : putK N s dst v K' := by
 unfold putK at h ⊢
 split at h
 ·exact hK _ h
 ·split at h
  ·exact fz_mono (fun v h => hK _ h) h
  ·exact h.elim
theorem awanted_mono {l : List Oper} {g : Option (Nat × Bool)} {A B A' B' : Prop} (hA : A → A') (hB : B → B') (h : awanted l g s A B) : awanted l g s A' B' := by
 unfold awanted at h ⊢
 split at h
 ·exact hA h
 ·split at h
  ·split at h
   ·split at h
    ·rename_i u _
     split at h
     ·cases u
      ·exact hB h
      ·exact hA h
     ·cases u
      ·exact hA h
      ·exact hB h
    ·exact hB h
    ·exact h.elim
   ·exact h.elim
  ·exact h.elim
theorem pstep_mono {l : List Oper} {i : Nat} {K K' : Env → Frs → Prop} (hK : ∀ s fr, K s fr → K' s fr) (h : pstep T P X N l i K s fr) : pstep T P X N l i K' s fr := by
 unfold pstep at h ⊢
 split at h
 ·exact h.elim
 ·exact awanted_mono (adop_mono' fun v fr h => putK_mono (fun s h => hK _ _ h) h) (putK_mono fun s h => hK _ _ h) h
theorem aplan_mono {l : List Oper} {K K' : Env → Frs → Prop} (hK : ∀ s fr, K s fr → K' s fr) : ∀ (p : Plan) (s : Env) (fr : Frs), aplan T P X N l K p s fr → aplan T P X N l K' p s fr
 | .done, s, fr, h => hK _ _ h
 | .first i p, s, fr, h => by
  have h : match l[i]? with
   | some o => match o.op with
    | .load _ x => anotX X (ev s x) (pstep T P X N l i (aplan T P X N l K p) s fr)
    | _ => pstep T P X N l i (aplan T P X N l K p) s fr
   | none => False := h
  show match l[i]? with
   | some o => match o.op with
    | .load _ x => anotX X (ev s x) (pstep T P X N l i (aplan T P X N l K' p) s fr)
    | _ => pstep T P X N l i (aplan T P X N l K' p) s fr
   | none => False
  split at h
  ·split at h
   ·exact anotX_mono (pstep_mono fun s fr h => aplan_mono hK p s fr h) h
   ·exact pstep_mono (fun s fr h => aplan_mono hK p s fr h) h
  ·exact h.elim
 | .firstL i ys p, s, fr, h => by
  have h : match l[i]? with
   | some o => match o.op with
    | .load _ x => adisjs (ev s x) s ys (anotX X (ev s x) (pstep T P X N l i (aplan T P X N l K p) s fr))
    | _ => False
   | none => False := h
  show match l[i]? with
   | some o => match o.op with
    | .load _ x => adisjs (ev s x) s ys (anotX X (ev s x) (pstep T P X N l i (aplan T P X N l K' p) s fr))
    | _ => False
   | none => False
  split at h
  ·split at h
   ·exact adisjs_mono (anotX_mono (pstep_mono fun s fr h => aplan_mono hK p s fr h)) h
   ·exact h.elim
  ·exact h.elim
 | .last i p, s, fr, h => pstep_mono (fun s fr h => aplan_mono hK p s fr h) h
 | .two i p j q, s, fr, h => ⟨pstep_mono (fun s fr h => aplan_mono hK p s fr h) h.1, pstep_mono (fun s fr h => aplan_mono hK q s fr h) h.2⟩
/-- A statement whose order is open: by a plan. -/
theorem draw_rule (X : List Nat) (hT : T.okB P = true) (hm : P.follows .mixedOrders = true) {id : Nat} {Q : Ex → Env → Frs → Prop} (p : Plan) (hp : planOk ops ops.size (Array.replicate ops.size false) p = true)
  (h : aplan T P X N ops.toList (Q .normal) p s fr) : Runs P N ds (.region id ops true) Q s fr := by
 refine ⟨fun c a w hs => wp_region_any hm ?_⟩
 have h1 : aplan T P X N ops.toList (fun s fr => ∃ s', EqE s s' ∧ Q .normal s' fr) p s fr := by
  exact aplan_mono (fun s fr h => ⟨s, EqE.refl s, h⟩) p s fr h
 refine any_wp hT ops.size _ (hs.drawn _) (plan_any (fun s s' fr he ⟨q, hq, hh⟩ => ⟨q, he.symm.trans hq, hh⟩) ops.size _ p s fr hp h1) ?_
 rintro c' s' fr' a' w' ⟨q, hq, hh⟩ k2 k3
 exact ⟨.normal, q, fr', c', trivial, hh, k2, ⟨k3.ok, k3.B, k3.n, k3.ds, fun t => by rw [← hq t]; exact k3.rel t⟩⟩
end
end Go.Proofs.Ytemfpemejagndaa.Fw

