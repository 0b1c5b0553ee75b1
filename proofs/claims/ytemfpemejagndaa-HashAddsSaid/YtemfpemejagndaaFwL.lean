/- Statements whose order is open: one order is enough. -/
import Derived.Test.YtemfpemejagndaaFwK
set_option autoImplicit false
set_option linter.unusedVariables false
set_option linter.unusedSimpArgs false
namespace Go.Proofs.Ytemfpemejagndaa.Fw
open Go Go.RowKit Go.WideShapes

section
variable {T : TT} {P : Program} {X : List Nat} {N : Nat} {ds : Fix} {c : Ctx} {s : Env} {fr : Frs} {a : Act} {w : World}

theorem adop_congr {o : Op} {ty : TypeId} {s s' : Env} (h : ∀ x ∈ o.operands, ev s' x = ev s x) (K : AV → Frs → Prop) : adop T P X o ty s' fr K = adop T P X o ty s fr K := by
 have h0 := aop_congr (T := T) (P := P) (fr := fr) (ty := ty) h K fun _ _ => False
 unfold adop
 split
 ·rename_i cl
  obtain ⟨callee, args, argTypes⟩ := cl
  simp only [Op.operands] at h
  have h1 : ∀ x ∈ args.toList, ev s' x = ev s x := fun x hx => h x (by simp at hx; simp [Call.operands, hx])
  cases callee with
  | value f =>
   have h2 : ev s' f = ev s f := h f (by simp [Call.operands])
   have h3 : args.toList.map (ev s') = args.toList.map (ev s) := List.map_congr_left h1
   simp only [h2, h3]
  | invoke r m => exact h0
  | builtin b =>
   cases b <;> first | exact h0 | skip
   simp only
   split
   ·rename_i x t hx ht
    rw [h1 x (by rw [hx]; simp)]
   ·rfl
 ·rename_i op t x y q
  simp only [Op.operands] at h
  rw [h x (by simp), h y (by simp)]
 ·exact h0
/-- no write -/
def akeep : Op → Bool
 | .store _ _ _ => false
 | .mapUpdate _ _ _ _ => false
 | .insert _ _ _ _ => false
 | .call cl => match cl.callee with | .builtin .copy => false | _ => true
 | _ => true
theorem newK_keeps (X : List Nat) {b : Blk} {K : Nat → Frs → Prop} (h : newK fr b K) : newK fr b fun i fr' => K i fr' ∧ Keeps X fr fr' := by
 unfold newK at h ⊢
 split at h
 ·exact ⟨h, keeps_new _ _ _ _⟩
 ·exact h.elim
theorem newK_mono {b : Blk} {K K' : Nat → Frs → Prop} (hK : ∀ i fr, K i fr → K' i fr) (h : newK fr b K) : newK fr b K' := by
 unfold newK at h ⊢
 split at h
 ·exact hK _ _ h
 ·exact h.elim
theorem setK_spec' {α : Type} : ∀ {l : List α} {i : Nat} {b : α} {K : List α → Prop}, setK l i b K → i < l.length ∧ K (l.set i b)
 | [], _, _, _, h => h.elim
 | _ :: l, 0, b, K, h => ⟨by simp, h⟩
 | x :: l, i + 1, b, K, h => by
  obtain ⟨h1, h2⟩ := setK_spec' (l := l) (i := i) (b := b) (K := fun l' => K (x :: l')) h
  exact ⟨by simpa using h1, h2⟩
theorem setK_mk {α : Type} : ∀ {l : List α} {i : Nat} {b : α} {K : List α → Prop}, i < l.length → K (l.set i b) → setK l i b K
 | [], _, _, _, h, _ => by simp at h
 | _ :: l, 0, b, K, h, hk => hk
 | x :: l, i + 1, b, K, h, hk => setK_mk (l := l) (i := i) (b := b) (K := fun l' => K (x :: l')) (by simpa using h) hk
theorem keeps_grow (X : List Nat) {lv i sz n m : Nat} {fr : Frs} (hb : blk fr lv i = some (.grow sz n)) {K : Frs → Prop} (h : setBlkK fr lv i (.grow sz m) K) : setBlkK fr lv i (.grow sz m) fun fr' => K fr' ∧ Keeps X fr fr' := by
 unfold setBlkK at h ⊢
 split at h
 ·rename_i l hl
  obtain ⟨h1, h2⟩ := setK_spec' h
  obtain ⟨h3, h4⟩ := setK_spec' h2
  refine setK_mk h1 (setK_mk h3 ⟨h4, ?_⟩)
  intro lv' i' b hb' _
  have hne : ¬ (lv' = lv ∧ i' = i) ∨ ∃ n, b = .grow sz n := by
   by_cases h : lv' = lv ∧ i' = i
   ·obtain ⟨rfl, rfl⟩ := h
    rw [hb] at hb'; injection hb' with hb'
    exact .inr ⟨n, hb'.symm⟩
   ·exact .inl h
  rcases hne with hne | ⟨n, rfl⟩
  ·have : blk (fr.set lv (l.set i (.grow sz m))) lv' i' = blk fr lv' i' := by
    unfold blk
    by_cases hl' : lv' = lv
    ·subst hl'
     have hi : i' ≠ i := fun e => hne ⟨rfl, e⟩
     rw [List.getElem?_set_self h3, hl]
     simp only
     rw [List.getElem?_set_ne (Ne.symm hi)]
    ·rw [List.getElem?_set_ne (Ne.symm hl')]
   rw [← this] at hb'
   cases b <;> first | exact hb' | trivial
  ·trivial
 ·exact h.elim
theorem mergeK_keeps (X : List Nat) {ls : List Blk} {r : AV} {K : AV → Frs → Prop} (h : mergeK ls fr r K) : mergeK ls fr r fun v fr' => K v fr' ∧ Keeps X fr fr' := by
 unfold mergeK at h ⊢
 split at h
 ·split at h
  ·exact ⟨h, Keeps.refl _ _⟩
  ·exact ⟨h, keeps_new _ _ _ _⟩
 ·exact h.elim
theorem mergeK_mono0 {ls : List Blk} {fr : Frs} {r : AV} {K K' : AV → Frs → Prop} (hK : ∀ v fr, K v fr → K' v fr) (h : mergeK ls fr r K) : mergeK ls fr r K' := by
 unfold mergeK at h ⊢
 split at h
 ·split at h <;> exact hK _ _ h
 ·exact h.elim
theorem amapOf_mono {fr : Frs} {v : AV} {K K' : List (D × D) → Prop} (hK : ∀ es, K es → K' es) (h : amapOf fr v K) : amapOf fr v K' := by
 unfold amapOf at h ⊢
 split at h
 ·split at h
  ·exact hK _ h
  ·exact h.elim
 ·exact hK _ h
 ·exact hK _ h
 ·exact h.elim
theorem keeps_garr (X : List Nat) {lv i sz : Nat} {xs ys : List D} {fr : Frs} (hb : blk fr lv i = some (.garr sz xs)) {K : Frs → Prop} (h : setBlkK fr lv i (.garr sz ys) K) : setBlkK fr lv i (.garr sz ys) fun fr' => K fr' ∧ Keeps X fr fr' := by
 unfold setBlkK at h ⊢
 split at h
 ·rename_i l hl
  obtain ⟨h1, h2⟩ := setK_spec' h
  obtain ⟨h3, h4⟩ := setK_spec' h2
  refine setK_mk h1 (setK_mk h3 ⟨h4, ?_⟩)
  intro lv' i' b hb' _
  by_cases hh : lv' = lv ∧ i' = i
  ·obtain ⟨rfl, rfl⟩ := hh
   rw [hb] at hb'; injection hb' with hb'
   subst hb'
   trivial
  ·have : blk (fr.set lv (l.set i (.garr sz ys))) lv' i' = blk fr lv' i' := by
    unfold blk
    by_cases hl' : lv' = lv
    ·subst hl'
     have hi : i' ≠ i := fun e => hh ⟨rfl, e⟩
     rw [List.getElem?_set_self h3, hl]
     simp only
     rw [List.getElem?_set_ne (Ne.symm hi)]
    ·rw [List.getElem?_set_ne (Ne.symm hl')]
   rw [← this] at hb'
   cases b <;> first | exact hb' | trivial
 ·exact h.elim
theorem aappendF_keeps (X : List Nat) {ti : TI} {x y : AV} {K : AV → Frs → Prop} (h : aappendF ti fr x y K) : aappendF ti fr x y fun v fr' => K v fr' ∧ Keeps X fr fr' := by
 unfold aappendF at h ⊢
 split at h
 ·split at h
  ·split at h
   ·obtain ⟨h1, h2, h3⟩ := h
    exact ⟨h1, h2, newK_keeps X h3⟩
   ·exact h.elim
  ·split at h
   ·obtain ⟨h0, h1, h2, h3⟩ := h
    exact ⟨h0, h1, h2, newK_keeps X h3⟩
   ·exact h.elim
  ·split at h
   ·rename_i hb
    split at h
    ·obtain ⟨h1, h2, h3, h4⟩ := h
     exact ⟨h1, h2, h3, keeps_garr X hb h4⟩
    ·exact h.elim
   ·exact h.elim
  ·exact h.elim
 ·exact h.elim
theorem aappend_keeps (X : List Nat) {ti : TI} {x y : AV} {K : AV → Frs → Prop} (h : aappend ti fr x y K) : aappend ti fr x y fun v fr' => K v fr' ∧ Keeps X fr fr' := by
 unfold aappend at h ⊢
 split at h
 ·split at h
  ·exact aappendF_keeps X h
  split at h
  ·rename_i sy ys hy
   split at h
   ·split at h
    ·obtain ⟨h1, h2, h3, h4⟩ := h
     exact ⟨h1, h2, fun e => ⟨h3 e, Keeps.refl _ _⟩, fun e => newK_keeps X (h4 e)⟩
    ·exact h.elim
   ·split at h
    ·obtain ⟨h1, h2, h3, h4⟩ := h
     exact ⟨h1, h2, fun e => ⟨h3 e, Keeps.refl _ _⟩, fun e => newK_keeps X (h4 e)⟩
    ·exact h.elim
   ·split at h
    ·rename_i hb
     split at h
     ·obtain ⟨h1, h2, h3, h4⟩ := h
      exact ⟨h1, h2, h3, keeps_grow X hb h4⟩
     ·exact h.elim
    ·exact h.elim
   ·exact h.elim
  ·exact h.elim
 ·exact h.elim
theorem adop_keeps {o : Op} (ho : akeep o = true) {ty : TypeId} {K : AV → Frs → Prop} (h : adop T P X o ty s fr K) : adop T P X o ty s fr fun v fr' => K v fr' ∧ Keeps X fr fr' := by
 by_cases hc : acalm o = true
 ·obtain ⟨r, h1, -, h2⟩ := (calm_spec hc h).out
  exact h2 fr (fun v fr' => K v fr' ∧ Keeps X fr fr') (Sees.refl _ _ _) ⟨h1, Keeps.refl _ _⟩
 ·cases o <;> try (exact h.elim)
  all_goals (try (exact absurd rfl hc))
  case alloc t => exact withT_mono (fun ti h => newK_mono (fun i fr h => h) (newK_keeps X h)) h
  case box t x =>
   refine withT_mono (fun ti h => ?_) h
   split at h
   ·rename_i hl; simp only [hl]; exact newK_keeps X h
   ·exact h.elim
  case store => cases ho
  case mapUpdate => cases ho
  case insert => cases ho
  case makeMap t q =>
   cases q with
   | some q => exact h.elim
   | none =>
    have h : newK fr (.map []) fun i fr => K (.map 0 i) fr := h
    show newK fr (.map []) fun i fr' => K (.map 0 i) fr' ∧ Keeps X fr fr'
    exact newK_keeps X h
  case lookup t m k ok =>
   refine withT_mono (fun ti h => ?_) h
   split at h
   ·rename_i kt et hk
    refine withT_mono (fun te h => withT_mono (fun tk h => ?_) h) h
    split at h
    ·exact amapOf_mono (fun es h => ⟨h.key, fun x hx => ⟨h.out.1 x hx, Keeps.refl _ _⟩, fun hx => ⟨h.out.2 hx, Keeps.refl _ _⟩⟩) h
    ·exact h.elim
   ·exact h.elim
  case makeSlice t x y =>
   refine withT_mono (fun ti h => ?_) h
   split at h
   ·rename_i e hk
    refine withT_mono (fun te h => ?_) h
    obtain ⟨n, m, h1, h2, h3, h4, h5⟩ := h
    refine ⟨n, m, h1, h2, h3, h4, ?_⟩
    rcases h5 with ⟨h5, h6⟩ | ⟨h5, h6⟩ | ⟨h5, h6⟩
    ·exact .inl ⟨h5, newK_keeps X h6⟩
    ·refine .inr (.inl ⟨h5, ?_⟩)
     split at h6
     ·exact newK_keeps X h6
     ·exact h6.elim
    ·refine .inr (.inr ⟨h5, ?_⟩)
     split at h6
     ·obtain ⟨ys, h7, h8⟩ := h6; exact ⟨ys, h7, h8, Keeps.refl _ _⟩
     ·exact h6.elim
   ·exact h.elim
  case call cl =>
   obtain ⟨callee, args, argTypes⟩ := cl
   cases callee with
   | value f =>
    simp only [adop] at h ⊢
    split at h
    ·rename_i g us cs hg
     refine h.mono fun o ls fr' hh => ?_
     obtain ⟨hk, hh⟩ := hh
     refine ⟨hk, ?_⟩
     cases o with
     | ret r => exact mergeK_mono0 (fun v fr h => ⟨h.1, hk.trans h.2⟩) (mergeK_keeps X hh)
     | pan v => exact hh
    ·exact h.elim
   | invoke r m => exact h.elim
   | builtin b =>
    cases b <;> first | exact h.elim | exact absurd rfl hc | cases ho; done | skip
    simp only [adop, aop, acall] at h ⊢
    split at h
    ·split at h
     ·exact withT_mono (fun ti h => aappend_keeps X h) h
     ·exact h.elim
    ·exact h.elim
/-! ### all orders -/
def EqE (s s' : Env) : Prop := ∀ t, lookup t s = lookup t s'
theorem EqE.refl (s : Env) : EqE s s := fun _ => rfl
theorem EqE.trans {s s' s'' : Env} (h : EqE s s') (k : EqE s' s'') : EqE s s'' := fun t => (h t).trans (k t)
theorem EqE.symm {s s' : Env} (h : EqE s s') : EqE s' s := fun t => (h t).symm
theorem EqE.ev {s s' : Env} (h : EqE s s') (x : Operand) : ev s x = ev s' x := by cases x <;> first | exact h _ | rfl
theorem lookup_cons (t u : Nat) (v : AV) (s : Env) : lookup t ((u, v) :: s) = if t = u then v else lookup t s := by
 simp only [lookup]
 split
 ·rename_i h; rw [if_pos (Nat.eq_of_beq_eq_true h)]
 ·rename_i h; rw [if_neg fun e => by subst e; simp at h]
theorem EqE.cons {s s' : Env} (h : EqE s s') (t : Nat) (v : AV) : EqE ((t, v) :: s) ((t, v) :: s') := fun u => by
 rw [lookup_cons, lookup_cons, h u]
theorem EqE.swap {s : Env} {t u : Nat} (hne : t ≠ u) (v x : AV) : EqE ((t, v) :: (u, x) :: s) ((u, x) :: (t, v) :: s) := fun q => by
 simp only [lookup_cons]
 by_cases h1 : q = t
 ·subst h1; simp [hne]
 ·simp [h1]
def putE (s : Env) (dst : Option Tmp) (v : AV) : Env := match dst with | none => s | some t => (t, v) :: s
def dstOk (N : Nat) (dst : Option Tmp) : Prop := match dst with | none => True | some t => t < N
theorem EqE.put {s s' : Env} (h : EqE s s') (dst : Option Tmp) (v : AV) : EqE (putE s dst v) (putE s' dst v) := by
 cases dst with | none => exact h | some t => exact h.cons t v
theorem EqE.put_swap {s : Env} {d e : Option Tmp} (h : ∀ t, d = some t → e ≠ some t) (v x : AV) : EqE (putE (putE s d v) e x) (putE (putE s e x) d v) := by
 cases d with
 | none => exact EqE.refl _
 | some t =>
  cases e with
  | none => exact EqE.refl _
  | some u => exact EqE.swap (fun e => h t rfl (by rw [e])) _ _
theorem putK_iff {dst : Option Tmp} {v : AV} {K : Env → Prop} (h : putK N s dst v K) : dstOk N dst ∧ K (putE s dst v) := by
 unfold putK at h
 split at h
 ·exact ⟨trivial, h⟩
 ·split at h
  ·rename_i hlt; exact ⟨(by simpa [Nat.blt_eq] using hlt : _ < N), fz_spec h⟩
  ·exact h.elim
def wantedA (ops : Array Oper) (g : Option (Nat × Bool)) (s : Env) : Option Bool :=
 match g with
 | none => some true
 | some (j, want) => match ops[j]? with
  | some o => match o.dst with
   | some t => match lookup t s with
    | .d (.bool b) => some (b == want)
    | .tuple [] => some false
    | _ => none
   | none => none
  | none => none
theorem awanted_eq {ops : Array Oper} {g : Option (Nat × Bool)} {A B : Prop} (h : awanted ops.toList g s A B) : (wantedA ops g s = some true ∧ A) ∨ (wantedA ops g s = some false ∧ B) := by
 unfold awanted at h
 unfold wantedA
 split at h
 ·exact .inl ⟨rfl, h⟩
 ·rename_i j want
  rw [Array.getElem?_toList] at h
  split at h
  ·rename_i o ho
   simp only [ho]
   split at h
   ·rename_i t ht
    simp only [ht]
    split at h
    ·rename_i u he
     simp only [he]
     cases u <;> cases want
     ·exact .inl ⟨rfl, h⟩
     ·exact .inr ⟨rfl, h⟩
     ·exact .inr ⟨rfl, h⟩
     ·exact .inl ⟨rfl, h⟩
    ·rename_i he
     simp only [he]
     exact .inr ⟨trivial, h⟩
    ·exact h.elim
   ·exact h.elim
  ·exact h.elim
/-- one operation -/
def astep (T : TT) (P : Program) (X : List Nat) (N : Nat) (ops : Array Oper) (i : Nat) (K : Env → Frs → Prop) (s : Env) (fr : Frs) : Prop := match ops[i]? with
 | none => K s fr
 | some o => (wantedA ops o.guard s = some true ∧ adop T P X o.op o.type s fr fun v fr => dstOk N o.dst ∧ K (putE s o.dst v) fr) ∨ (wantedA ops o.guard s = some false ∧ dstOk N o.dst ∧ K (putE s o.dst (.tuple [])) fr)
def AAny (T : TT) (P : Program) (X : List Nat) (N : Nat) (md : Region.Mode) (ops : Array Oper) (K : Env → Frs → Prop) : Nat → Array Bool → Env → Frs → Prop
 | 0, listed, s, fr => Region.ready md ops listed = [] ∧ K s fr
 | fuel + 1, listed, s, fr => (Region.ready md ops listed = [] → K s fr) ∧ ∀ i ∈ Region.ready md ops listed, astep T P X N ops i (AAny T P X N md ops K fuel (listed.setIfInBounds i true)) s fr
theorem setK_mono {α : Type} {K K' : List α → Prop} (hK : ∀ l, K l → K' l) {l : List α} {i : Nat} {b : α} (h : setK l i b K) : setK l i b K' := let ⟨h1, h2⟩ := setK_spec' h; setK_mk h1 (hK _ h2)
theorem setBlkK_mono {lv i : Nat} {b : Blk} {K K' : Frs → Prop} (hK : ∀ fr, K fr → K' fr) (h : setBlkK fr lv i b K) : setBlkK fr lv i b K' := by
 unfold setBlkK at h ⊢
 split at h
 ·exact setK_mono (fun l h => setK_mono hK h) h
 ·exact h.elim
theorem cellsK_mono : ∀ {l : List AV} {off : Nat} {vs : List AV} {K K' : List AV → Prop}, (∀ l, K l → K' l) → cellsK l off vs K → cellsK l off vs K'
 | l, off, [], K, K', hK, h => by cases l <;> cases off <;> exact hK _ h
 | [], off, _ :: _, K, K', hK, h => by cases off <;> exact h.elim
 | _ :: l, 0, v :: vs, K, K', hK, h => by
  simp only [cellsK_zero] at h ⊢
  split at h
  ·have h1 := fz_spec h
   have h2 : cellsK l 0 vs fun l' => K' (v :: l') := cellsK_mono (fun l h => hK _ h) h1
   cases v <;> exact h2
  ·exact h.elim
 | x :: l, i + 1, v :: vs, K, K', hK, h => cellsK_mono (l := l) (off := i) (vs := v :: vs) (fun l h => hK _ h) h
theorem mergeK_mono {ls : List Blk} {r : AV} {K K' : AV → Frs → Prop} (hK : ∀ v fr, K v fr → K' v fr) (h : mergeK ls fr r K) : mergeK ls fr r K' := by
 unfold mergeK at h ⊢
 split at h
 ·split at h <;> exact hK _ _ h
 ·exact h.elim
theorem acopy_mono {ti : TI} {x y : AV} {K K' : AV → Frs → Prop} (hK : ∀ v fr, K v fr → K' v fr) (h : acopy ti fr x y K) : acopy ti fr x y K' := by
 unfold acopy at h ⊢
 repeat' split at h
 all_goals first | exact h.elim | exact ⟨h.1, setBlkK_mono (fun fr h => hK _ _ h) h.2⟩
theorem aappendF_mono {ti : TI} {x y : AV} {K K' : AV → Frs → Prop} (hK : ∀ v fr, K v fr → K' v fr) (h : aappendF ti fr x y K) : aappendF ti fr x y K' := by
 unfold aappendF at h ⊢
 split at h
 ·split at h
  ·split at h
   ·obtain ⟨h1, h2, h3⟩ := h
    exact ⟨h1, h2, newK_mono (fun i fr h => hK _ _ h) h3⟩
   ·exact h.elim
  ·split at h
   ·obtain ⟨h0, h1, h2, h3⟩ := h
    exact ⟨h0, h1, h2, newK_mono (fun i fr h => hK _ _ h) h3⟩
   ·exact h.elim
  ·split at h
   ·split at h
    ·obtain ⟨h1, h2, h3, h4⟩ := h
     exact ⟨h1, h2, h3, setBlkK_mono (fun fr h => hK _ _ h) h4⟩
    ·exact h.elim
   ·exact h.elim
  ·exact h.elim
 ·exact h.elim
theorem aappend_mono {ti : TI} {x y : AV} {K K' : AV → Frs → Prop} (hK : ∀ v fr, K v fr → K' v fr) (h : aappend ti fr x y K) : aappend ti fr x y K' := by
 unfold aappend at h ⊢
 split at h
 ·split at h
  ·exact aappendF_mono hK h
  split at h
  ·split at h
   ·split at h
    ·obtain ⟨h1, h2, h3, h4⟩ := h
     exact ⟨h1, h2, fun e => hK _ _ (h3 e), fun e => newK_mono (fun i fr h => hK _ _ h) (h4 e)⟩
    ·exact h.elim
   ·split at h
    ·obtain ⟨h1, h2, h3, h4⟩ := h
     exact ⟨h1, h2, fun e => hK _ _ (h3 e), fun e => newK_mono (fun i fr h => hK _ _ h) (h4 e)⟩
    ·exact h.elim
   ·split at h
    ·split at h
     ·obtain ⟨h1, h2, h3, h4⟩ := h
      exact ⟨h1, h2, h3, setBlkK_mono (fun fr h => hK _ _ h) h4⟩
     ·exact h.elim
    ·exact h.elim
   ·exact h.elim
  ·exact h.elim
 ·exact h.elim
theorem dnK_mono {l : Nat} {v : AV} {K K' : AV → Prop} (hK : ∀ v, K v → K' v) (h : dnK l v K) : dnK l v K' := by
 unfold dnK at h ⊢
 split at h
 ·exact hK _ h
 ·split at h
  ·exact hK _ h
  ·exact h.elim
theorem astore_mono {ti : TI} {x v : AV} {K K' : Frs → Prop} (hK : ∀ fr, K fr → K' fr) (h : astore ti fr x v K) : astore ti fr x v K' := by
 unfold astore at h ⊢
 split at h
 ·split at h
  ·refine dnK_mono (fun v h => ?_) h
   split at h
   ·rename_i hh; exact cellsK_mono (fun l h => setBlkK_mono hK h) h
   ·exact h.elim
  ·exact h.elim
 ·split at h
  ·rcases h with ⟨h0, h1, h2, h3, h4⟩ | ⟨cs, h1, h2, h3, h4, h5⟩
   ·exact .inl ⟨h0, h1, h2, h3, setBlkK_mono hK h4⟩
   ·exact .inr ⟨cs, h1, h2, h3, h4, setBlkK_mono hK h5⟩
  ·exact h.elim
 ·exact h.elim
theorem adop_mono' {o : Op} {ty : TypeId} {K K' : AV → Frs → Prop} (hK : ∀ v fr, K v fr → K' v fr) (h : adop T P X o ty s fr K) : adop T P X o ty s fr K' := by
 by_cases hc : acalm o = true
 ·obtain ⟨r, h1, -, h2⟩ := (calm_spec hc h).out
  exact h2 fr K' (Sees.refl _ _ _) (hK _ _ h1)
 ·cases o <;> try (exact h.elim)
  all_goals (try (exact absurd rfl hc))
  case alloc t => exact withT_mono (fun ti h => newK_mono (fun i fr h => hK _ _ h) h) h
  case box t x =>
   refine withT_mono (fun ti h => ?_) h
   split at h
   ·rename_i hl; exact newK_mono (fun i fr h => hK _ _ h) h
   ·exact h.elim
  case store t x y => exact withT_mono (fun ti h => astore_mono (fun fr h => hK _ _ h) h) h
  case makeMap t q =>
   cases q with
   | some q => exact h.elim
   | none =>
    have h : newK fr (.map []) fun i fr => K (.map 0 i) fr := h
    show newK fr (.map []) fun i fr => K' (.map 0 i) fr
    exact newK_mono (fun i fr h => hK _ _ h) h
  case lookup t m k ok =>
   refine withT_mono (fun ti h => ?_) h
   split at h
   ·rename_i kt et hk
    refine withT_mono (fun te h => withT_mono (fun tk h => ?_) h) h
    split at h
    ·exact amapOf_mono (fun es h => ⟨h.key, fun x hx => hK _ _ (h.out.1 x hx), fun hx => hK _ _ (h.out.2 hx)⟩) h
    ·exact h.elim
   ·exact h.elim
  case insert t m k x =>
   refine withT_mono (fun ti h => ?_) h
   split at h
   ·rename_i kt et hk
    refine withT_mono (fun te h => withT_mono (fun tk h => ?_) h) h
    split at h
    ·split at h
     ·exact ⟨h.key, setBlkK_mono (fun fr h => hK _ _ h) h.out⟩
     ·exact h.elim
    ·exact h.elim
   ·exact h.elim
  case mapUpdate t m k x =>
   refine withT_mono (fun ti h => ?_) h
   split at h
   ·rename_i kt et hk
    refine withT_mono (fun te h => withT_mono (fun tk h => ?_) h) h
    split at h
    ·split at h
     ·exact ⟨h.key, setBlkK_mono (fun fr h => hK _ _ h) h.out⟩
     ·exact h.elim
    ·exact h.elim
   ·exact h.elim
  case makeSlice t x y =>
   refine withT_mono (fun ti h => ?_) h
   split at h
   ·rename_i e hk
    refine withT_mono (fun te h => ?_) h
    obtain ⟨n, m, h1, h2, h3, h4, h5⟩ := h
    refine ⟨n, m, h1, h2, h3, h4, ?_⟩
    rcases h5 with ⟨h5, h6⟩ | ⟨h5, h6⟩ | ⟨h5, h6⟩
    ·exact .inl ⟨h5, newK_mono (fun i fr h => hK _ _ h) h6⟩
    ·refine .inr (.inl ⟨h5, ?_⟩)
     split at h6
     ·exact newK_mono (fun i fr h => hK _ _ h) h6
     ·exact h6.elim
    ·refine .inr (.inr ⟨h5, ?_⟩)
     split at h6
     ·obtain ⟨ys, h7, h8⟩ := h6; exact ⟨ys, h7, hK _ _ h8⟩
     ·exact h6.elim
   ·exact h.elim
  case call cl =>
   obtain ⟨callee, args, argTypes⟩ := cl
   cases callee with
   | value f =>
    simp only [adop] at h ⊢
    split at h
    ·rename_i g us cs hg
     refine h.mono fun o ls fr' hh => ?_
     obtain ⟨hk, hh⟩ := hh
     refine ⟨hk, ?_⟩
     cases o with
     | ret r => exact mergeK_mono hK hh
     | pan v => exact hh
    ·exact h.elim
   | invoke r m => exact h.elim
   | builtin b =>
    cases b <;> first | exact h.elim | exact absurd rfl hc | skip
    case append =>
     simp only [adop, aop, acall] at h ⊢
     split at h
     ·split at h
      ·exact withT_mono (fun ti h => aappend_mono hK h) h
      ·exact h.elim
     ·exact h.elim
    case copy =>
     simp only [adop, aop, acall] at h ⊢
     split at h
     ·exact withT_mono (fun ti h => acopy_mono hK h) h
     ·exact h.elim
theorem wantedA_eq {ops : Array Oper} {s s' : Env} (o : Oper) (h : ∀ t ∈ o.looksAt ops, lookup t s' = lookup t s) : wantedA ops o.guard s' = wantedA ops o.guard s := by
 unfold wantedA
 cases hg : o.guard with
 | none => rfl
 | some gw =>
  obtain ⟨g, want⟩ := gw
  simp only
  cases ho : ops[g]? with
  | none => rfl
  | some q =>
   simp only
   cases hd : q.dst with
   | none => rfl
   | some t =>
    simp only
    rw [h t (by simp [Oper.looksAt, hg, ho, hd])]
theorem ev_eq {ops : Array Oper} {s s' : Env} {o : Oper} (h : ∀ t ∈ o.looksAt ops, lookup t s' = lookup t s) : ∀ x ∈ o.op.operands, ev s' x = ev s x := by
 intro x hx
 cases x with
 | tmp t => exact h t (List.mem_append_left _ (List.mem_filterMap.2 ⟨.tmp t, by simpa using hx, rfl⟩))
 | _ => rfl
theorem astep_eqE {ops : Array Oper} {i : Nat} {K K' : Env → Frs → Prop} (hK : ∀ s s' fr, EqE s s' → K s fr → K' s' fr) {s s' : Env} (he : EqE s s') (h : astep T P X N ops i K s fr) : astep T P X N ops i K' s' fr := by
 unfold astep at h ⊢
 split at h
 ·exact hK _ _ _ he h
 ·rename_i o hi
  have hw : wantedA ops o.guard s' = wantedA ops o.guard s := wantedA_eq o fun t _ => (he t).symm
  rw [hw]
  rcases h with ⟨h2, h3⟩ | ⟨h2, hd, h3⟩
  ·refine .inl ⟨h2, ?_⟩
   rw [adop_congr fun x hx => (he.ev x).symm]
   exact adop_mono' (fun v fr ⟨hd, hk⟩ => ⟨hd, hK _ _ _ (he.put _ _) hk⟩) h3
  ·exact .inr ⟨h2, hd, hK _ _ _ (he.put _ _) h3⟩
theorem AAny.eqE {md : Region.Mode} {ops : Array Oper} {K : Env → Frs → Prop} (hK : ∀ s s' fr, EqE s s' → K s fr → K s' fr) : ∀ (fuel : Nat) (listed : Array Bool) (s s' : Env) (fr : Frs), EqE s s' → AAny T P X N md ops K fuel listed s fr → AAny T P X N md ops K fuel listed s' fr
 | 0, listed, s, s', fr, he, h => ⟨h.1, hK _ _ _ he h.2⟩
 | fuel + 1, listed, s, s', fr, he, h => ⟨fun hr => hK _ _ _ he (h.1 hr), fun i hi => astep_eqE (fun s s' fr he h => AAny.eqE hK fuel _ s s' fr he h) he (h.2 i hi)⟩
end
end Go.Proofs.Ytemfpemejagndaa.Fw

