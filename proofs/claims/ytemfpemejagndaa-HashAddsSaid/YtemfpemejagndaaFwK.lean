/- Statements whose order is open. -/
import Derived.Test.YtemfpemejagndaaFwJ
import Derived.Orders
set_option autoImplicit false
set_option linter.unusedVariables false
set_option linter.unusedSimpArgs false
namespace Go.Proofs.Ytemfpemejagndaa.Fw
open Go Go.RowKit Go.WideShapes

/-! ### 1. What an operation yields is settled -/
structure Det (F : (AV → Prop) → Prop) : Prop where mk ::
 out : ∀ K, F K → ∃ r, K r ∧ ∀ K', K' r → F K'
theorem Det.pure (r : AV) : Det fun K => K r := ⟨fun K h => ⟨r, h, fun _ h => h⟩⟩
theorem Det.no : Det fun _ => False := ⟨fun K h => h.elim⟩
theorem Det.and {p : Prop} {F : (AV → Prop) → Prop} (h : Det F) : Det fun K => p ∧ F K := ⟨fun K ⟨hp, hk⟩ => let ⟨r, h1, h2⟩ := h.out K hk; ⟨r, h1, fun K' h => ⟨hp, h2 K' h⟩⟩⟩
theorem Det.ex {α : Type} {F : α → (AV → Prop) → Prop} (h : ∀ x, Det (F x)) : Det fun K => ∃ x, F x K := ⟨fun K ⟨x, hk⟩ => let ⟨r, h1, h2⟩ := (h x).out K hk; ⟨r, h1, fun K' h => ⟨x, h2 K' h⟩⟩⟩
theorem det_test (p : Prop) : Det (test p) := ⟨fun K ⟨⟨h1, h2⟩⟩ => by
 by_cases hp : p
 ·exact ⟨_, h1 hp, fun K' h => ⟨⟨fun _ => h, fun n => absurd hp n⟩⟩⟩
 ·exact ⟨_, h2 hp, fun K' h => ⟨⟨fun n => absurd n hp, fun _ => h⟩⟩⟩⟩
theorem det_arith (k : IntKind) (x : Int) : Det (arith k x) := Det.ex fun r => Det.and (Det.pure _)
theorem det_aint (op : BinOp) (k : IntKind) (a b : Int) : Det (aint op k a b) := by
 cases op <;> first | exact det_arith _ _ | exact Det.and (det_arith _ _) | exact Det.and (Det.pure _) | exact Det.pure _ | exact det_test _ | exact Det.no
theorem det_abin (ti : TI) (op : BinOp) (x y : AV) : Det (abin ti op x y) := by
 have key : ∀ F : (AV → Prop) → Prop, (∀ K, abin ti op x y K = F K) → Det F → Det (abin ti op x y) := fun F h hd => by
  have : abin ti op x y = F := funext h
  rw [this]; exact hd
 unfold abin
 split
 ·split
  ·exact Det.and (det_arith _ _)
  ·exact Det.and (Det.pure _)
  ·split
   ·exact det_aint _ _ _ _
   ·exact Det.no
 ·split
  ·exact det_test _
  ·exact det_test _
  ·exact det_test _
  ·exact Det.and (Det.pure _)
  ·exact Det.no
 ·split
  ·exact det_test _
  ·exact det_test _
  ·exact Det.no
 ·split
  ·split
   ·exact Det.pure _
   ·exact Det.no
  ·split
   ·exact Det.pure _
   ·exact Det.no
  ·exact Det.no
theorem det_fz {F : AV → (AV → Prop) → Prop} (h : ∀ x, Det (F x)) (v : AV) : Det fun K => fz v fun v => F v K := by
 have : (fun K => fz v fun v => F v K) = F v := by funext K; cases v <;> rfl
 rw [this]; exact h v
theorem det_indexD (esz sz : Nat) (xs : List D) (i : AV) : Det (indexD esz sz xs i) := by
 unfold indexD
 split
 ·split
  ·exact Det.ex fun _ => Det.ex fun _ => Det.and (Det.and (Det.pure _))
  ·exact Det.no
 ·exact Det.no
theorem det_aindex (ti : TI) (x i : AV) : Det (aindex ti x i) := by
 unfold aindex
 split
 ·split
  ·exact det_indexD _ _ _ _
  ·exact det_indexD _ _ _ _
  ·exact det_indexD _ _ _ _
  ·exact det_indexD _ _ _ _
  ·split
   ·split
    ·exact Det.ex fun _ => Det.and (Det.and (Det.pure _))
    ·exact Det.no
   ·exact Det.no
  ·exact Det.no
 ·exact Det.no
theorem det_afield (ti : TI) (x : AV) (f : Nat) : Det (afield ti x f) := by
 unfold afield
 split
 ·split
  ·exact Det.no
  ·split <;> first | exact Det.pure _ | exact Det.no
 ·exact Det.no
theorem det_afieldV (ti : TI) (x : AV) (f : Nat) : Det (afieldV ti x f) := by
 unfold afieldV
 split
 ·split
  ·split
   ·split <;> first | exact Det.pure _ | exact Det.no
   ·split <;> first | exact Det.pure _ | exact Det.no
  ·split
   ·split <;> first | exact Det.pure _ | exact Det.no
   ·split <;> first | exact Det.pure _ | exact Det.no
  ·exact Det.no
 ·exact Det.no
theorem det_upK (l : Nat) (v : AV) : Det (upK l v) := by cases l <;> exact Det.pure _
theorem det_partA (ti : TI) (cs : List AV) (off : Nat) {F : AV → (AV → Prop) → Prop} (h : ∀ v, Det (F v)) : Det fun K => partA ti cs off fun v => F v K := by
 unfold partA
 split
 ·split
  ·exact h _
  ·exact Det.no
 ·split
  ·exact h _
  ·exact Det.no
theorem det_partD (ti : TI) (cs : List D) (off : Nat) : Det (partD ti cs off) := by
 unfold partD
 split
 ·split <;> first | exact Det.pure _ | exact Det.no
 ·split <;> first | exact Det.pure _ | exact Det.no
theorem det_aload (ti : TI) (fr : Frs) (x : AV) : Det (aload ti fr x) := by
 unfold aload
 split
 ·split
  ·exact det_partA _ _ _ fun _ => det_upK _ _
  ·exact det_partD _ _ _
  ·exact Det.no
 ·split
  ·refine Det.ex fun y => Det.and ?_
   split
   ·exact Det.and (Det.pure _)
   ·exact det_partD _ _ _
  ·exact Det.no
 ·exact Det.and (Det.pure _)
 ·exact det_partD _ _ _
 ·exact Det.and (Det.pure _)
 ·exact Det.and (Det.pure _)
 ·exact Det.no
theorem det_alen (ti : TI) (x : AV) : Det (alen ti x) := by
 unfold alen
 split
 ·split
  ·exact Det.pure _
  ·split <;> first | exact Det.pure _ | exact Det.no
 ·split <;> first | exact Det.pure _ | exact Det.no
 ·exact Det.no
theorem det_aslice (ti : TI) (x : AV) (lo hi mx : Option AV) : Det (aslice ti x lo hi mx) := by
 unfold aslice
 split
 ·split
  ·refine Det.ex fun _ => Det.ex fun _ => Det.and (Det.and (Det.and (Det.and ?_)))
   split <;> first | exact Det.pure _ | exact Det.no
  ·exact Det.no
 ·split
  ·split <;> first | exact Det.pure _ | exact Det.no
  ·exact Det.no
 ·split
  ·split
   ·refine Det.ex fun _ => Det.ex fun _ => Det.and (Det.and (Det.and (Det.and ?_)))
    split <;> first | exact Det.pure _ | exact Det.and (Det.and (Det.pure _))
   ·exact Det.no
  ·split
   ·split
    ·refine Det.ex fun _ => Det.ex fun _ => Det.and (Det.and (Det.and (Det.and ?_)))
     split <;> first | exact Det.pure _ | exact Det.and (Det.and (Det.and (Det.pure _)))
    ·exact Det.no
   ·exact Det.no
 ·exact Det.no
theorem det_aextract (x : AV) (k : Nat) : Det (aextract x k) := by
 unfold aextract
 split
 ·split <;> first | exact Det.pure _ | exact Det.no
 ·split <;> first | exact Det.pure _ | exact Det.no
 ·exact Det.no
theorem det_aindexV (ti : TI) (x i : AV) : Det (aindexV ti x i) := by
 unfold aindexV
 split
 ·split
  ·exact Det.ex fun _ => Det.ex fun _ => Det.and (Det.and (Det.pure _))
  ·exact Det.no
 ·exact Det.no
theorem det_aconv (tis tid : TI) (x : AV) : Det (aconv tis tid x) := by
 unfold aconv
 split
 ·split
  ·exact det_arith _ _
  ·exact Det.no
 ·split <;> first | exact Det.pure _ | exact Det.no
 ·exact Det.no
theorem det_aiface (ti : TI) (t : TypeId) (x : AV) : Det (aiface ti t x) := by
 unfold aiface
 split
 ·exact Det.no
 ·exact Det.no
 ·unfold ifaceK; split <;> exact Det.pure _
theorem det_anilCheck (x : AV) : Det (anilCheck x) := by
 unfold anilCheck
 split <;> first | exact Det.pure _ | exact Det.no
theorem det_cellsK {α : Type} : ∀ (l : List AV) (off : Nat) (vs : List AV) (F : List AV → (AV → Prop) → Prop), (∀ cs, Det (F cs)) → Det fun K => cellsK l off vs fun cs => F cs K
 | l, off, [], F, h => by
  have : (fun K => cellsK l off [] fun cs => F cs K) = F l := by funext K; cases l <;> cases off <;> rfl
  rw [this]; exact h _
 | [], off, _ :: _, F, h => by
  have : ∀ v vs, (fun K => cellsK [] off (v :: vs) fun cs => F cs K) = fun _ => False := fun v vs => by funext K; cases off <;> rfl
  rw [this]; exact Det.no
 | _ :: l, 0, v :: vs, F, h => by
  simp only [cellsK_zero]
  split
  ·exact det_fz (fun v => det_cellsK (α := α) l 0 vs _ fun _ => h _) v
  ·exact Det.no
 | x :: l, i + 1, v :: vs, F, h => by
  simp only [cellsK_succ]
  exact det_cellsK (α := α) l i (v :: vs) _ fun _ => h _
theorem det_abuild (ti : TI) : ∀ (ps : List (Nat × AV)) (cs : List AV) (F : List AV → (AV → Prop) → Prop), (∀ cs, Det (F cs)) → Det fun K => abuild ti ps cs fun cs => F cs K
 | [], cs, F, h => h cs
 | (f, v) :: r, cs, F, h => by
  simp only [abuild_cons]
  split
  ·split
   ·exact det_cellsK (α := Unit) _ _ _ _ fun cs => det_abuild ti r cs F h
   ·exact Det.no
  ·exact Det.no
theorem det_abuildT (ti : TI) (ks : List Nat) (vs : List AV) : Det (abuildT ti ks vs) := by
 unfold abuildT
 split
 ·exact det_abuild ti _ _ (fun cs K => K (.agg cs)) fun _ => Det.pure _
 ·exact Det.no
theorem det_alit : ∀ (vs : List AV) (acc : List D) (F : List D → (AV → Prop) → Prop), (∀ ys, Det (F ys)) → Det fun K => alit vs acc fun ys => F ys K
 | [], acc, F, h => h acc
 | x :: r, acc, F, h => by
  simp only [alit_cons]
  split
  ·exact det_alit r _ F h
  ·exact Det.no
theorem det_withT {T : TT} {t : TypeId} {F : TI → (AV → Prop) → Prop} (h : ∀ ti, Det (F ti)) : Det fun K => withT T t fun ti => F ti K := by
 unfold withT
 split
 ·exact h _
 ·exact Det.no
theorem det_aslit (ti : TI) (len : Nat) (vs : List AV) : Det fun K => aslit ti [] len vs fun v _ => K v := by
 unfold aslit
 split
 ·split
  ·exact det_alit _ _ (fun ys K => LitsOk ti.esz ys ∧ K (.full ti.esz ys)) fun ys => Det.and (Det.pure _)
  ·exact Det.no
 ·exact Det.no
/-! ### 2. Operations that change nothing -/
/-- every block but those of X, and those that grow, is as it was -/
def Keeps (X : List Nat) (fr fr' : Frs) : Prop := ∀ l i b, blk fr l i = some b → (l = 0 → i ∉ X) → (match b with | .grow _ _ => True | .garr _ _ => True | _ => blk fr' l i = some b)
theorem Keeps.refl (X : List Nat) (fr : Frs) : Keeps X fr fr := fun l i b h _ => by cases b <;> first | exact h | trivial
theorem Keeps.trans {X : List Nat} {a b c : Frs} (h : Keeps X a b) (k : Keeps X b c) : Keeps X a c := fun l i x hx hi => by
 have h1 := h l i x hx hi
 cases x <;> first | exact k l i _ h1 hi | trivial
theorem keeps_new (X : List Nat) (l : List Blk) (ls : List Blk) (r : Frs) : Keeps X (l :: r) ((l ++ ls) :: r) := fun lv i b h _ => by
 cases lv with
 | succ lv => cases b <;> first | exact h | trivial
 | zero =>
  have h : l[i]? = some b := h
  have h2 : (l ++ ls)[i]? = some b := by
   have := (List.getElem?_eq_some_iff.1 h).1
   rw [List.getElem?_append_left this]; exact h
  cases b <;> first | exact h2 | trivial
section
variable {T : TT} {P : Program} {N : Nat} {ds : Fix} {c : Ctx} {s : Env} {fr : Frs} {a : Act} {w : World}

def acalm : Op → Bool
 | .move _ | .assign _ | .pick _ _ _ | .fieldAddr _ _ _ | .field _ _ _ | .load _ _ | .indexAddr _ _ _ | .index _ _ _ | .binOp _ _ _ _ _ | .unOp _ _ _ | .convert _ _ _ | .makeInterface _ _
 | .makeFunc _ _ _ | .slice _ _ _ _ _ | .build _ _ | .buildSlice _ _ _ | .extract _ _ | .nilCheck _ => true
 | .call cl => match cl.callee with | .builtin .len | .builtin .max | .builtin .min => true | _ => false
 | _ => false
/-- what is read through a value is as it was -/
def SeesV (v : AV) (fr fr' : Frs) : Prop := match v with
 | .ptr l i _ => blk fr' l i = blk fr l i
 | .eptr l i _ _ => blk fr' l i = blk fr l i
 | _ => True
/-- it is no block that grows, and no map -/
def SolidV (v : AV) (fr : Frs) : Prop := match v with
 | .ptr l i _ => ∃ b, blk fr l i = some b ∧ ((∀ sz n, b ≠ .grow sz n) ∧ ∀ sz xs, b ≠ .garr sz xs) ∧ ∀ es, b ≠ .map es
 | .eptr l i _ _ => ∃ b, blk fr l i = some b ∧ ((∀ sz n, b ≠ .grow sz n) ∧ ∀ sz xs, b ≠ .garr sz xs) ∧ ∀ es, b ≠ .map es
 | _ => True
/-- it is no block of X -/
def NotXV (X : List Nat) (v : AV) : Prop := match v with
 | .ptr l i _ => l = 0 → i ∉ X
 | .eptr l i _ _ => l = 0 → i ∉ X
 | _ => True
def NotX (X : List Nat) (o : Op) (s : Env) : Prop := match o with | .load _ x => NotXV X (ev s x) | _ => True
def Sees (o : Op) (s : Env) (fr fr' : Frs) : Prop := match o with | .load _ x => SeesV (ev s x) fr fr' | _ => True
def Solid (o : Op) (s : Env) (fr : Frs) : Prop := match o with | .load _ x => SolidV (ev s x) fr | _ => True
theorem SeesV.refl (v : AV) (fr : Frs) : SeesV v fr fr := by cases v <;> first | rfl | trivial
theorem SeesV.trans {v : AV} {a b c : Frs} (h : SeesV v a b) (k : SeesV v b c) : SeesV v a c := by
 cases v <;> first | exact Eq.trans k h | trivial
theorem SolidV.see {v : AV} {a b : Frs} (h : SolidV v a) (k : SeesV v a b) : SolidV v b := by
 cases v <;> first | (obtain ⟨q, h1, h2⟩ := h; exact ⟨q, Eq.trans k h1, h2⟩) | trivial
theorem SolidV.keeps {X : List Nat} {v : AV} {a b : Frs} (h : SolidV v a) (hx : NotXV X v) (k : Keeps X a b) : SeesV v a b := by
 have key : ∀ l i, (∃ q, blk a l i = some q ∧ ((∀ sz n, q ≠ .grow sz n) ∧ ∀ sz xs, q ≠ .garr sz xs) ∧ ∀ es, q ≠ .map es) → (l = 0 → i ∉ X) → blk b l i = blk a l i := by
  rintro l i ⟨q, h1, h2, _⟩ hx
  have := k _ _ _ h1 hx
  rw [h1]
  cases q <;> first | exact this | exact absurd rfl (h2.1 _ _) | exact absurd rfl (h2.2 _ _)
 cases v <;> first | exact key _ _ h hx | trivial
theorem Sees.refl (o : Op) (s : Env) (fr : Frs) : Sees o s fr fr := by cases o <;> first | exact SeesV.refl _ _ | trivial
theorem Sees.trans {o : Op} {s : Env} {a b c : Frs} (h : Sees o s a b) (k : Sees o s b c) : Sees o s a c := by cases o <;> first | exact SeesV.trans h k | trivial
theorem Sees.env {o : Op} {s s' : Env} {a b : Frs} (he : ∀ x ∈ o.operands, ev s' x = ev s x) (h : Sees o s a b) : Sees o s' a b := by
 cases o <;> first | trivial | skip
 rename_i t x
 show SeesV (ev s' x) a b
 rw [he x (by simp [Op.operands])]
 exact h
theorem Solid.env {o : Op} {s s' : Env} {a : Frs} (he : ∀ x ∈ o.operands, ev s' x = ev s x) (h : Solid o s a) : Solid o s' a := by
 cases o <;> first | trivial | skip
 rename_i t x
 show SolidV (ev s' x) a
 rw [he x (by simp [Op.operands])]
 exact h
theorem NotX.env {X : List Nat} {o : Op} {s s' : Env} (he : ∀ x ∈ o.operands, ev s' x = ev s x) (h : NotX X o s) : NotX X o s' := by
 cases o <;> first | trivial | skip
 rename_i t x
 show NotXV X (ev s' x)
 rw [he x (by simp [Op.operands])]
 exact h
theorem Solid.see {o : Op} {s : Env} {a b : Frs} (h : Solid o s a) (k : Sees o s a b) : Solid o s b := by cases o <;> first | exact SolidV.see h k | trivial
theorem Solid.keeps {X : List Nat} {o : Op} {s : Env} {a b : Frs} (h : Solid o s a) (hx : NotX X o s) (k : Keeps X a b) : Sees o s a b := by cases o <;> first | exact SolidV.keeps h hx k | trivial
theorem aload_sees {ti : TI} {fr fr' : Frs} {v : AV} (hk : SeesV v fr fr') {K : AV → Prop} (h : aload ti fr v K) : aload ti fr' v K := by
 cases v with
 | ptr l i off =>
  have hk : blk fr' l i = blk fr l i := hk
  unfold aload at h ⊢
  simp only at h ⊢
  rw [hk]; exact h
 | eptr l i k off =>
  have hk : blk fr' l i = blk fr l i := hk
  unfold aload at h ⊢
  simp only at h ⊢
  rw [hk]; exact h
 | d x => cases x <;> exact h
 | pel x off => cases off <;> exact h
 | _ => exact h
theorem aload_solid {ti : TI} {fr : Frs} {v : AV} {K : AV → Prop} (h : aload ti fr v K) : SolidV v fr := by
 unfold aload at h
 split at h
 ·split at h
  ·rename_i hb; exact ⟨_, hb, ⟨(by intro _ _ e; cases e), (by intro _ _ e; cases e)⟩, by intro _ e; cases e⟩
  ·rename_i hb; exact ⟨_, hb, ⟨(by intro _ _ e; cases e), (by intro _ _ e; cases e)⟩, by intro _ e; cases e⟩
  ·exact h.elim
 ·split at h
  ·rename_i hb; exact ⟨_, hb, ⟨(by intro _ _ e; cases e), (by intro _ _ e; cases e)⟩, by intro _ e; cases e⟩
  ·exact h.elim
 ·trivial
 ·trivial
 ·trivial
 ·trivial
 ·exact h.elim
theorem Said.mono {f : FuncId} {args : List AV} {R R' : Out → List Blk → Frs → Prop} (h : Said P f args fr R) (hR : ∀ o ls fr, R o ls fr → R' o ls fr) : Said P f args fr R' :=
 ⟨fun c w vs h1 h2 h3 h4 => (h.out c w vs h1 h2 h3 h4).mono fun e w' ⟨o, ls, fr', c', k1, k2⟩ => ⟨o, ls, fr', c', hR _ _ _ k1, k2⟩⟩
/-- an operation of a statement whose order is open: calls leave the blocks alone, but those of X -/
def adop (T : TT) (P : Program) (X : List Nat) (o : Op) (ty : TypeId) (s : Env) (fr : Frs) (K : AV → Frs → Prop) : Prop := match o with
 | .call cl => match cl.callee with
  | .value f => match asFunc (ev s f) with
   | some (g, us, cs) => Said P g (us ++ (fixArgs T cl.argTypes.toList (cl.args.toList.map (ev s)) ++ cs)) fr fun o ls fr' => Keeps X fr fr' ∧ match o with
    | .ret r => mergeK ls fr' r K
    | .pan _ => False
   | none => False
  | .builtin .len => match cl.args.toList, cl.argTypes.toList with
   | [x], [t] => withT T t fun ti => alen ti (ev s x) fun v => K v fr
   | _, _ => False
  | _ => aop T P o ty s fr K fun _ _ => False
 | .binOp op t x y _ => withT T t fun ti => abin ti op (ev s x) (ev s y) fun v => K v fr
 | _ => aop T P o ty s fr K fun _ _ => False
theorem withT_mono {t : TypeId} {K K' : TI → Prop} (hK : ∀ ti, K ti → K' ti) (h : withT T t K) : withT T t K' := by
 unfold withT at h ⊢
 split at h
 ·exact hK _ h
 ·exact h
theorem adop_aop {X : List Nat} {o : Op} {ty : TypeId} {K : AV → Frs → Prop} (h : adop T P X o ty s fr K) : aop T P o ty s fr K fun _ _ => False := by
 unfold adop at h
 split at h
 ·rename_i cl
  obtain ⟨callee, args, argTypes⟩ := cl
  cases callee with
  | value f =>
   simp only at h
   show acall T P ⟨.value f, args, argTypes⟩ s fr K _
   unfold acall
   simp only
   split at h
   ·rename_i g us cs hg
    simp only [hg]
    refine h.mono fun o ls fr' hh => ?_
    obtain ⟨_, hh⟩ := hh
    cases o with
    | ret r => exact hh
    | pan v => exact hh.elim
   ·exact h.elim
  | invoke r m => exact h
  | builtin b =>
   cases b <;> first | exact h | skip
   simp only at h
   show acall T P ⟨.builtin .len, args, argTypes⟩ s fr K fun _ _ => False
   unfold acall
   simp only
   split at h
   ·rename_i hx ht; simp only [hx, ht]; exact withT_mono (fun ti h => alenM_of h) h
   ·exact h.elim
 ·rename_i op t x y q
  exact withT_mono (fun ti h => abinP_of h) h
 ·exact h
structure Calm (T : TT) (P : Program) (X : List Nat) (o : Op) (ty : TypeId) (s : Env) (fr : Frs) (K : AV → Frs → Prop) : Prop where mk ::
 out : ∃ r, K r fr ∧ Solid o s fr ∧ ∀ fr' (K' : AV → Frs → Prop), Sees o s fr fr' → K' r fr' → adop T P X o ty s fr' K'
theorem calm_of {X : List Nat} {o : Op} {ty : TypeId} {G : (AV → Prop) → Prop} (hG : Det G) (hso : Solid o s fr) (he : ∀ fr K, adop T P X o ty s fr K = G fun v => K v fr) {K : AV → Frs → Prop} (h : adop T P X o ty s fr K) : Calm T P X o ty s fr K := by
 rw [he] at h
 obtain ⟨r, h1, h2⟩ := hG.out _ h
 exact ⟨r, h1, hso, fun fr' K' _ hk => by rw [he]; exact h2 _ hk⟩
theorem calm_spec {X : List Nat} {o : Op} (hc : acalm o = true) {ty : TypeId} {K : AV → Frs → Prop} (h : adop T P X o ty s fr K) : Calm T P X o ty s fr K := by
 cases o <;> try (simp only [acalm] at hc; cases hc; done)
 case move x => exact calm_of (G := fun K => K (ev s x)) (Det.pure _) (by trivial) (fun _ _ => rfl) h
 case assign x =>
  refine calm_of (G := fun K => match T.get ty with | some ti => K (fixNil ti (ev s x)) | none => K (ev s x)) ?_ (by trivial) (fun _ _ => rfl) h
  split <;> exact Det.pure _
 case pick q x y =>
  refine calm_of (G := fun K => match ev s q with | .d (.bool q) => brK q (K (ev s x)) (K (ev s y)) | _ => False) ?_ (by trivial) (fun _ _ => rfl) h
  split
  ·rename_i u _
   cases u
   ·exact Det.pure _
   ·exact Det.pure _
  ·exact Det.no
 case fieldAddr t x f => exact calm_of (det_withT fun ti => det_afield ti (ev s x) f) (by trivial) (fun _ _ => rfl) h
 case field t x f => exact calm_of (det_withT fun ti => det_afieldV ti (ev s x) f) (by trivial) (fun _ _ => rfl) h
 case indexAddr t x i => exact calm_of (det_withT fun ti => det_aindex ti (ev s x) (ev s i)) (by trivial) (fun _ _ => rfl) h
 case index t x i => exact calm_of (det_withT fun ti => det_aindexV ti (ev s x) (ev s i)) (by trivial) (fun _ _ => rfl) h
 case binOp op t x y q => exact calm_of (det_withT fun ti => det_abin ti op (ev s x) (ev s y)) (by trivial) (fun _ _ => rfl) h
 case unOp op t x =>
  cases op <;> first | exact h.elim | skip
  ·refine calm_of (G := fun K => match ev s x with | .d (.int k n) => arith k (0 - n) K | _ => False) ?_ (by trivial) (fun _ _ => rfl) h
   split <;> first | exact det_arith _ _ | exact Det.no
  ·refine calm_of (G := fun K => match ev s x with | .d (.bool q) => K (.d (.bool (!q))) | _ => False) ?_ (by trivial) (fun _ _ => rfl) h
   split <;> first | exact Det.pure _ | exact Det.no
 case convert t u x => exact calm_of (det_withT fun ti => det_withT fun tu => det_aconv ti tu (ev s x)) (by trivial) (fun _ _ => rfl) h
 case makeInterface t x => exact calm_of (det_withT fun ti => det_aiface ti t (ev s x)) (by trivial) (fun _ _ => rfl) h
 case makeFunc fn us cs => exact calm_of (G := fun K => K _) (Det.pure _) (by trivial) (fun _ _ => rfl) h
 case slice t x lo hi mx => exact calm_of (det_withT fun ti => det_aslice ti (ev s x) (lo.map (ev s)) (hi.map (ev s)) (mx.map (ev s))) (by trivial) (fun _ _ => rfl) h
 case build t ps => exact calm_of (det_withT fun ti => det_abuildT ti (ps.toList.map (·.1)) (ps.toList.map fun p => ev s p.2)) (by trivial) (fun _ _ => rfl) h
 case extract x k => exact calm_of (det_aextract (ev s x) k) (by trivial) (fun _ _ => rfl) h
 case nilCheck x => exact calm_of (det_anilCheck (ev s x)) (by trivial) (fun _ _ => rfl) h
 case buildSlice t len ps =>
  refine calm_of (G := fun K => withT T t fun ti => match inOrder 0 ps.toList with | true => aslit ti [] len (ps.toList.map fun p => ev s p.2) fun v _ => K v | false => False) (det_withT fun ti => ?_) (by trivial) (fun _ _ => rfl) h
  split
  ·exact det_aslit _ _ _
  ·exact Det.no
 case load t x =>
  have h : withT T t fun ti => aload ti fr (ev s x) fun v => K v fr := h
  have hd : Det fun K : AV → Prop => withT T t fun ti => aload ti fr (ev s x) K := det_withT fun ti => det_aload ti fr (ev s x)
  obtain ⟨r, h1, h2⟩ := hd.out (fun v => K v fr) h
  have hload : ∃ ti K, aload ti fr (ev s x) K := by
   unfold withT at h; split at h
   ·exact ⟨_, _, h⟩
   ·exact h.elim
  refine ⟨r, h1, ?_, fun fr' K' hk hk' => ?_⟩
  ·obtain ⟨ti, K0, hl⟩ := hload; exact aload_solid hl
  ·have h3 := h2 (fun v => K' v fr') hk'
   show withT T t fun ti => aload ti fr' (ev s x) fun v => K' v fr'
   unfold withT at h3 ⊢
   split at h3
   ·exact aload_sees hk h3
   ·exact h3.elim
 case call cl =>
  obtain ⟨callee, args, argTypes⟩ := cl
  cases callee <;> try (simp only [acalm] at hc; cases hc; done)
  rename_i b
  cases b <;> try (simp only [acalm] at hc; cases hc; done)
  ·refine calm_of (G := fun K => match args.toList, argTypes.toList with | [x], [t] => withT T t fun ti => alen ti (ev s x) K | _, _ => False) ?_ (by trivial) (fun _ _ => rfl) h
   split
   ·exact det_withT fun ti => det_alen ti _
   ·exact Det.no
  ·refine calm_of (G := fun K => match args.toList with | [x, y] => (match ev s x, ev s y with | .d (.int k a), .d (.int _ b) => K (.d (.int k (max a b))) | _, _ => False) | _ => False) ?_ (by trivial) (fun _ _ => rfl) h
   split
   ·split <;> first | exact Det.pure _ | exact Det.no
   ·exact Det.no
  ·refine calm_of (G := fun K => match args.toList with | [x, y] => (match ev s x, ev s y with | .d (.int k a), .d (.int _ b) => K (.d (.int k (min a b))) | _, _ => False) | _ => False) ?_ (by trivial) (fun _ _ => rfl) h
   split
   ·split <;> first | exact Det.pure _ | exact Det.no
   ·exact Det.no
/-- an operation sees of the temporaries its operands alone -/
theorem aop_congr {o : Op} {ty : TypeId} {s s' : Env} (h : ∀ x ∈ o.operands, ev s' x = ev s x) (K : AV → Frs → Prop) (Qp : AV → Frs → Prop) : aop T P o ty s' fr K Qp = aop T P o ty s fr K Qp := by
 cases o
 case makeMap t q => cases q <;> rfl
 all_goals (simp only [Op.operands] at h; simp only [aop])
 case build t ps =>
  have : (ps.toList.map fun p => ev s' p.2) = ps.toList.map fun p => ev s p.2 := List.map_congr_left fun p hp => h _ (by simp; exact ⟨p.1, by simpa using hp⟩)
  rw [this]
 case buildSlice t n ps =>
  have : (ps.toList.map fun p => ev s' p.2) = ps.toList.map fun p => ev s p.2 := List.map_congr_left fun p hp => h _ (by simp; exact ⟨p.1, by simpa using hp⟩)
  rw [this]
 case makeFunc fn us cs =>
  have h1 : us.toList.map (ev s') = us.toList.map (ev s) := List.map_congr_left fun x hx => h x (by simp at hx ⊢; exact .inl hx)
  have h2 : cs.toList.map (ev s') = cs.toList.map (ev s) := List.map_congr_left fun x hx => h x (by simp at hx ⊢; exact .inr hx)
  rw [h1, h2]
 case call cl =>
  obtain ⟨callee, args, argTypes⟩ := cl
  have h1 : ∀ x ∈ args.toList, ev s' x = ev s x := fun x hx => h x (by simp at hx; simp [Call.operands, hx])
  unfold acall
  cases callee with
  | value f =>
   have h2 : ev s' f = ev s f := h f (by simp [Call.operands])
   have h3 : args.toList.map (ev s') = args.toList.map (ev s) := List.map_congr_left h1
   simp only [h2, h3]
  | invoke r m => rfl
  | builtin b =>
   have h3 : ∀ x, args.toList = [x] → ev s' x = ev s x := fun x hx => h1 x (by simp [hx])
   have h4 : ∀ x y, args.toList = [x, y] → ev s' x = ev s x ∧ ev s' y = ev s y := fun x y hx => ⟨h1 x (by simp [hx]), h1 y (by simp [hx])⟩
   cases b <;> simp only []
   all_goals
    split
    ·rename_i hh
     first | rw [h3 _ (by assumption)] | (obtain ⟨q1, q2⟩ := h4 _ _ (by assumption); rw [q1, q2])
    ·rfl
 case slice t x lo hi mx => cases lo <;> cases hi <;> cases mx <;> simp_all
 case unOp op t x => cases op <;> simp_all
 all_goals (first | rfl | (simp_all; done))
end
end Go.Proofs.Ytemfpemejagndaa.Fw

