/- Terms in a store. -/
import Derived.Test.YtemfpemejagndaaHA
import Derived.Test.YtemfpemejagndaaMB
set_option autoImplicit false
set_option linter.unusedVariables false
set_option linter.unusedSimpArgs false
namespace Go.Proofs.Ytemfpemejagndaa.Fw
open Go Go.Proofs

mutual
/-- the term without the names of abstractions -/
def Tm.er : Tm → Tm
 | .mk k n t i xs => .mk k (if k = 5 then ByteArray.empty else n) t i (Tm.ers xs)
def Tm.ers : List Tm → List Tm
 | [] => []
 | a :: r => a.er :: Tm.ers r
end
theorem Tm.ers_map : ∀ xs : List Tm, Tm.ers xs = xs.map Tm.er
 | [] => rfl
 | a :: r => by simp [Tm.ers, Tm.ers_map r]
def tyOf (tys : List Ty) (j : Int) : Ty := if 0 ≤ j then tys.getD j.toNat zTy else zTy
def nodeE (tys : List Ty) (tms : List Tm) (n : MN) : Tm := .mk n.kind (if n.kind = 5 then ByteArray.empty else n.name) (tyOf tys n.type_) n.index (n.sub.map fun j => tms.getD j.toNat zTm)
structure fineN (n : MN) (k nt : Int) : Prop where
 ar : arity n.kind = some (n.sub.length : Int)
 bel : blw n.sub k = true
 kd : fineK n nt = true
theorem fineM_iff {n : MN} {k nt : Int} : fineM n k nt = true ↔ fineN n k nt := by
 simp only [fineM, Bool.and_eq_true]
 constructor
 ·rintro ⟨h1, h2, h3⟩
  refine ⟨?_, h2, h3⟩
  cases ha : arity n.kind with
  | none => rw [ha] at h1; cases h1
  | some r => rw [ha] at h1; simp only [decide_eq_true_eq] at h1; rw [h1]
 ·rintro ⟨h1, h2, h3⟩
  exact ⟨by rw [h1]; simp, h2, h3⟩
theorem arity_le {k r : Int} (h : arity k = some r) : r ≤ 2 := by
 simp only [arity] at h
 repeat' split at h
 all_goals first | (injection h with h; omega) | cases h
theorem fineN.len {n : MN} {k nt : Int} (h : fineN n k nt) : n.sub.length ≤ 2 := by have := arity_le h.ar; omega
theorem fineN.ty {n : MN} {k nt : Int} (h : fineN n k nt) : (n.kind = 3 ∨ n.kind = 4) ∧ n.type_ = -1 ∨ (¬ (n.kind = 3 ∨ n.kind = 4) ∧ 0 ≤ n.type_ ∧ n.type_ < nt) := by
 have := h.kd
 simp only [fineK] at this
 by_cases h3 : n.kind = 3
 ·simp only [h3, if_true, Bool.and_eq_true, decide_eq_true_eq] at this
  exact .inl ⟨.inl h3, this.1⟩
 ·by_cases h4 : n.kind = 4
  ·rw [if_neg h3, if_pos h4] at this
   simp only [Bool.and_eq_true, decide_eq_true_eq] at this
   exact .inl ⟨.inr h4, this.1⟩
  ·rw [if_neg h3, if_neg h4] at this
   simp only [Bool.and_eq_true, decide_eq_true_eq] at this
   exact .inr ⟨by simp [h3, h4], this.2.1, this.2.2.1⟩
theorem fineN.mono {n : MN} {k nt k' nt' : Int} (h : fineN n k nt) (hk : k ≤ k') (ht : nt ≤ nt') : fineN n k' nt' := by
 refine ⟨h.ar, blw_iff.2 fun j hj => by have := blw_iff.1 h.bel j hj; omega, ?_⟩
 have := h.kd
 simp only [fineK] at this ⊢
 by_cases h3 : n.kind = 3
 ·simpa only [h3, if_true] using this
 ·by_cases h4 : n.kind = 4
  ·simpa only [h3, h4, if_true, if_false] using this
  ·rw [if_neg h3, if_neg h4] at this ⊢
   simp only [Bool.and_eq_true, decide_eq_true_eq] at this ⊢
   exact ⟨this.1, this.2.1, by omega, this.2.2.2⟩
/-- nodes and the terms that they stand for -/
inductive WM (tys : List Ty) : List MN → List Tm → Prop
 | nil : WM tys [] []
 | snoc (ms : List MN) (tms : List Tm) (n : MN) : WM tys ms tms → fineN n ms.length tys.length → idxK keyM ms (keyM n) = none → WM tys (ms ++ [n]) (tms ++ [nodeE tys tms n])
def decE (tys : List Ty) : List Tm → List MN → List Tm
 | tms, [] => tms
 | tms, n :: r => decE tys (tms ++ [nodeE tys tms n]) r
theorem decE_snoc (tys : List Ty) (n : MN) : ∀ (ms : List MN) (tms : List Tm), decE tys tms (ms ++ [n]) = decE tys tms ms ++ [nodeE tys (decE tys tms ms) n]
 | [], tms => rfl
 | a :: r, tms => by simp only [List.cons_append, decE]; rw [decE_snoc tys n r]
theorem openM_snoc (nt : Int) (n : MN) : ∀ (ms pre : List MN), openM nt pre (ms ++ [n]) = (openM nt pre ms && (fineM n (pre.length + ms.length : Nat) nt && (idxK keyM (pre ++ ms) (keyM n)).isNone))
 | [], pre => by simp [openM]
 | a :: r, pre => by
  simp only [List.cons_append, openM]
  rw [openM_snoc nt n r]
  simp only [List.length_append, List.length_cons, List.length_nil, List.append_assoc, List.cons_append, List.nil_append, Bool.and_assoc]
  have : pre.length + (0 + 1) + r.length = pre.length + (r.length + 1) := by omega
  rw [this]
theorem WM.of {tys : List Ty} {ms : List MN} : openM tys.length [] ms = true → WM tys ms (decE tys [] ms) := by
 induction ms using snoc_ind with
 | h0 => intro _; exact .nil
 | h1 l a ih =>
  intro h
  rw [openM_snoc, Bool.and_eq_true, Bool.and_eq_true] at h
  rw [decE_snoc]
  exact .snoc _ _ _ (ih h.1) (fineM_iff.1 (by simpa using h.2.1)) (by simpa using h.2.2)
theorem WM.len {tys : List Ty} {ms : List MN} {tms : List Tm} (h : WM tys ms tms) : tms.length = ms.length := by
 induction h with
 | nil => rfl
 | snoc ms tms n _ _ _ ih => simp [ih]
theorem tyOf_app {tys e : List Ty} {n : MN} {k : Int} (h : fineN n k tys.length) : tyOf (tys ++ e) n.type_ = tyOf tys n.type_ := by
 rcases h.ty with ⟨_, h⟩ | ⟨_, h1, h2⟩
 ·simp [tyOf, h]
 ·simp only [tyOf, if_pos h1]; exact getD_app _ _ _ (by omega)
theorem nodeE_tys {tys e : List Ty} {tms : List Tm} {n : MN} {k : Int} (h : fineN n k tys.length) : nodeE (tys ++ e) tms n = nodeE tys tms n := by
 simp only [nodeE, tyOf_app h]
theorem nodeE_tms {tys : List Ty} {tms e : List Tm} {n : MN} (h : blw n.sub tms.length = true) : nodeE tys (tms ++ e) n = nodeE tys tms n := by
 have hj := blw_iff.1 h
 simp only [nodeE, Tm.mk.injEq, true_and]
 exact List.map_congr_left fun j hq => getD_app _ _ _ (by have := hj j hq; omega)
theorem WM.grow {tys e : List Ty} {ms : List MN} {tms : List Tm} (h : WM tys ms tms) : WM (tys ++ e) ms tms := by
 induction h with
 | nil => exact .nil
 | snoc ms tms n hw hk hi ih =>
  rw [← nodeE_tys (e := e) hk]
  exact .snoc _ _ _ ih (hk.mono (by omega) (by simp; omega)) hi
theorem WM.node {tys : List Ty} {ms : List MN} {tms : List Tm} (h : WM tys ms tms) : ∀ {i : Nat} {n : MN}, ms[i]? = some n → tms[i]? = some (nodeE tys tms n) ∧ fineN n i tys.length := by
 induction h with
 | nil => intro i n h; simp at h
 | snoc ms tms m hw hk hi ih =>
  intro i n h
  have hl := hw.len
  rcases snoc_get h with ⟨h1, h2⟩ | ⟨h1, h2⟩
  ·obtain ⟨g1, g2⟩ := ih h2
   refine ⟨by rw [List.getElem?_append_left (by omega), g1, nodeE_tms (blw_mono g2.bel (by omega))], g2⟩
  ·subst h2; subst h1
   refine ⟨by rw [nodeE_tms (by rw [hl]; exact hk.bel), ← hl]; simp, hk⟩
theorem keyM_eq {n m : MN} (hn : n.sub.length ≤ 2) (hm : m.sub.length ≤ 2) (h : keyM n = keyM m) : n.kind = m.kind ∧ n.type_ = m.type_ ∧ n.index = m.index ∧ n.sub = m.sub ∧ (if n.kind = 5 then ByteArray.empty else n.name) = (if m.kind = 5 then ByteArray.empty else m.name) := by
 simp only [keyM, HMK.mk.injEq] at h
 obtain ⟨h1, h2, h3, h4, h5, h6, h7⟩ := h
 refine ⟨h1, h3, h4, getD_ext (by omega) fun i hi => ?_, h2⟩
 have : i < 2 := by omega
 match i, this with
 | 0, _ => exact h6
 | 1, _ => exact h7
theorem keyM_of {n m : MN} (h : n.kind = m.kind ∧ n.type_ = m.type_ ∧ n.index = m.index ∧ n.sub = m.sub ∧ (if n.kind = 5 then ByteArray.empty else n.name) = (if m.kind = 5 then ByteArray.empty else m.name)) : keyM n = keyM m := by
 obtain ⟨h1, h2, h3, h4, h5⟩ := h
 simp only [keyM, HMK.mk.injEq]
 exact ⟨h1, h5, h2, h3, by rw [h4], by rw [h4], by rw [h4]⟩
theorem nodeE_key {tys : List Ty} {tms : List Tm} {n m : MN} (hn : n.sub.length ≤ 2) (hm : m.sub.length ≤ 2) (h : keyM n = keyM m) : nodeE tys tms n = nodeE tys tms m := by
 obtain ⟨h1, h2, h3, h4, h5⟩ := keyM_eq hn hm h
 simp only [nodeE, Tm.mk.injEq]
 exact ⟨h1, h5, by rw [h2], h3, by rw [h4]⟩
theorem nodeE_inj {tys : List Ty} (ht : Uniq tys) {tms : List Tm} (hu : Uniq tms) {n m : MN} (hn : fineN n tms.length tys.length) (hm : fineN m tms.length tys.length) (h : nodeE tys tms n = nodeE tys tms m) : keyM n = keyM m := by
 simp only [nodeE, Tm.mk.injEq] at h
 obtain ⟨h1, h2, h3, h4, h5⟩ := h
 refine keyM_of ⟨h1, ?_, h4, map_getD_inj hu zTm hn.bel hm.bel h5, h2⟩
 rcases hn.ty with ⟨a, b⟩ | ⟨a, b, c⟩ <;> rcases hm.ty with ⟨a', b'⟩ | ⟨a', b', c'⟩
 ·rw [b, b']
 ·rw [h1] at a; exact absurd a a'
 ·rw [h1] at a; exact absurd a' a
 ·simp only [tyOf, if_pos b, if_pos b'] at h3
  have l1 : n.type_.toNat < tys.length := by omega
  have l2 : m.type_.toNat < tys.length := by omega
  rw [List.getD_eq_getElem?_getD, List.getD_eq_getElem?_getD, List.getElem?_eq_getElem l1, List.getElem?_eq_getElem l2, Option.getD_some, Option.getD_some] at h3
  have := ht _ _ _ (List.getElem?_eq_getElem l1) (by rw [List.getElem?_eq_getElem l2, h3])
  omega
theorem WM.uniq {tys : List Ty} (ht : Uniq tys) {ms : List MN} {tms : List Tm} (h : WM tys ms tms) : Uniq tms := by
 induction h with
 | nil => intro i j x h; simp at h
 | snoc ms tms n hw hk hi ih =>
  refine ih.snoc fun hm => ?_
  obtain ⟨i, hi'⟩ := List.getElem?_of_mem hm
  have hlt : i < ms.length := by rw [← hw.len]; exact (List.getElem?_eq_some_iff.1 hi').1
  obtain ⟨g1, g2⟩ := hw.node (List.getElem?_eq_getElem hlt)
  rw [hi'] at g1
  injection g1 with g1
  have := nodeE_inj ht ih (by rw [hw.len]; exact hk) (g2.mono (by rw [hw.len]; omega) (Int.le_refl _)) g1
  exact (idxK_none keyM).1 hi _ (List.getElem_mem hlt) this
theorem WM.closed {tys : List Ty} {ms : List MN} {tms : List Tm} (h : WM tys ms tms) {k : Int} {s : ByteArray} {t : Ty} {ix : Int} {xs : List Tm} (hm : Tm.mk k s t ix xs ∈ tms) : (∀ x ∈ xs, x ∈ tms) ∧ (¬ (k = 3 ∨ k = 4) → t ∈ tys) := by
 obtain ⟨i, hi⟩ := List.getElem?_of_mem hm
 have hlt : i < ms.length := by rw [← h.len]; exact (List.getElem?_eq_some_iff.1 hi).1
 obtain ⟨g1, g2⟩ := h.node (List.getElem?_eq_getElem hlt)
 rw [hi] at g1
 injection g1 with g1
 simp only [nodeE, Tm.mk.injEq] at g1
 obtain ⟨h1, -, h3, -, h5⟩ := g1
 constructor
 ·intro x hx
  rw [h5] at hx
  obtain ⟨j, hj, rfl⟩ := List.mem_map.1 hx
  have := blw_iff.1 g2.bel j hj
  have hl : j.toNat < tms.length := by have := h.len; omega
  rw [List.getD_eq_getElem?_getD, List.getElem?_eq_getElem hl]
  exact List.getElem_mem hl
 ·intro hk
  rw [h1] at hk
  rcases g2.ty with ⟨a, b⟩ | ⟨a, b, c⟩
  ·exact absurd a hk
  ·rw [h3, tyOf, if_pos b]
   have hl : (ms[i]).type_.toNat < tys.length := by omega
   rw [List.getD_eq_getElem?_getD, List.getElem?_eq_getElem hl]
   exact List.getElem_mem hl
theorem addM_fin {tys : List Ty} {ms : List MN} {tms : List Tm} (ht : Uniq tys) (hw : WM tys ms tms) (n : MN) (hf : fineN n ms.length tys.length) :
  ∃ (i : Nat) (f : List MN) (f' : List Tm), (match idxK keyM ms (keyM n) with | some j => ((j : Int), ms) | none => ((ms.length : Int), ms ++ [n])) = ((i : Int), ms ++ f) ∧ WM tys (ms ++ f) (tms ++ f') ∧ (tms ++ f')[i]? = some (nodeE tys tms n) ∧ (∀ x ∈ f', x = nodeE tys tms n) ∧ (nodeE tys tms n ∈ tms → f = []) := by
 cases hi : idxK keyM ms (keyM n) with
 | some j =>
  obtain ⟨m, hm1, hm2⟩ := idxK_some keyM hi
  obtain ⟨q1, q2⟩ := hw.node hm1
  refine ⟨j, [], [], by simp, by simpa using hw, ?_, by simp, fun _ => rfl⟩
  rw [List.append_nil, q1, nodeE_key hf.len q2.len hm2]
 | none =>
  refine ⟨ms.length, [n], [nodeE tys tms n], rfl, .snoc _ _ _ hw hf hi, by rw [← hw.len]; simp, by simp, fun ha => ?_⟩
  exfalso
  obtain ⟨j, hj⟩ := List.getElem?_of_mem ha
  have hlt : j < ms.length := by rw [← hw.len]; exact (List.getElem?_eq_some_iff.1 hj).1
  obtain ⟨q1, q2⟩ := hw.node (List.getElem?_eq_getElem hlt)
  rw [hj] at q1
  injection q1 with q1
  have := nodeE_inj ht (hw.uniq ht) (by rw [hw.len]; exact hf) (q2.mono (by rw [hw.len]; omega) (Int.le_refl _)) q1
  exact (idxK_none keyM).1 hi _ (List.getElem_mem hlt) this
/-! ### what is formed -/
theorem none_zTy {t : Ty} (h : t.none = true) : t = zTy := by
 obtain ⟨v, n, xs⟩ := t
 obtain ⟨h1, h2, h3⟩ := (none_iff _).1 h
 simp only at h1 h2 h3
 rw [h1, h2, h3]; rfl
/-- a node of a formed term -/
structure FN (l l' : List Ty) (k : Int) (n : ByteArray) (t : Ty) (i : Int) (xs : List Tm) : Prop where
 ar : arity k = some (xs.length : Int)
 subs : ∀ x ∈ xs, (Tm.formed l' x).2 = true
 more : l'.length ≤ l.length + 1
 kd : (k = 3 ∧ n = ByteArray.empty ∧ t = zTy ∧ 0 ≤ i ∧ i < l.length) ∨ (k = 4 ∧ n = ByteArray.empty ∧ t = zTy ∧ i = 0) ∨ (¬ (k = 3 ∨ k = 4) ∧ cname n = true ∧ t.valid = true ∧ i = 0)
theorem formed_FN {l : List Ty} {k : Int} {n : ByteArray} {t : Ty} {i : Int} {xs : List Tm} (h : (Tm.formed l (.mk k n t i xs)).2 = true) : ∃ l', FN l l' k n t i xs := by
 simp only [Tm.formed] at h
 by_cases h12 : k = 1 ∨ k = 2
 ·rw [if_pos h12] at h
  simp only [Bool.and_eq_true, decide_eq_true_eq] at h
  obtain ⟨g1, g2, g3, g4⟩ := h
  have hx : xs = [] := List.length_eq_zero_iff.1 g4
  subst hx
  exact ⟨l, by rcases h12 with rfl | rfl <;> rfl, by simp, by omega, .inr (.inr ⟨by omega, g1, g2, g3⟩)⟩
 ·rw [if_neg h12] at h
  by_cases h3 : k = 3
  ·subst h3
   rw [if_pos rfl] at h
   split at h
   ·rename_i hc
    obtain ⟨g1, g2, g3, g4, g5⟩ := hc
    have hx : xs = [] := List.length_eq_zero_iff.1 g3
    subst hx
    exact ⟨l, rfl, by simp, by omega, .inl ⟨rfl, g1, none_zTy g2, g4, g5⟩⟩
   ·cases h
  ·rw [if_neg h3] at h
   by_cases h4 : k = 4
   ·subst h4
    rw [if_pos rfl] at h
    split at h
    ·rename_i hc
     obtain ⟨g1, g2, g3, g4⟩ := hc
     match xs, g4 with
     | [a, b], _ =>
      simp only [Tm.formeds] at h
      split at h
      ·rename_i hab
       exact ⟨l, rfl, by simp [hab.1, hab.2], by omega, .inr (.inl ⟨rfl, g1, none_zTy g2, g3⟩)⟩
      ·cases h
    ·cases h
   ·rw [if_neg h4] at h
    by_cases h5 : k = 5
    ·subst h5
     rw [if_pos rfl] at h
     split at h
     ·rename_i hc
      obtain ⟨g1, g2, g3, g4⟩ := hc
      match xs, g4 with
      | [b], _ =>
       simp only [Tm.formeds, Bool.and_eq_true] at h
       exact ⟨t :: l, rfl, by simp [h.1], by simp, .inr (.inr ⟨by omega, g1, g2, g3⟩)⟩
     ·cases h
    ·rw [if_neg h5] at h; cases h
mutual
def Tm.parts : Tm → List Tm
 | .mk k n t i xs => .mk k n t i xs :: Tm.partss xs
def Tm.partss : List Tm → List Tm
 | [] => []
 | a :: r => a.parts ++ Tm.partss r
end
mutual
/-- the types that a term brings into a store -/
def Tm.typs : Tm → List Ty
 | .mk k _ t _ xs => (if k = 3 ∨ k = 4 then [] else t.parts) ++ Tm.typss xs
def Tm.typss : List Tm → List Ty
 | [] => []
 | a :: r => a.typs ++ Tm.typss r
end
mutual
theorem addM_spec : ∀ (a : Tm) (l : List Ty) (ns : List TN) (tys : List Ty) (ms : List MN) (tms : List Tm), WT ns tys → WM tys ms tms → (Tm.formed l a).2 = true → l.length + a.depth ≤ 300 →
  ∃ (i : Nat) (e : List TN) (e' : List Ty) (f : List MN) (f' : List Tm), addM a ns ms = ((i : Int), ns ++ e, ms ++ f) ∧ WT (ns ++ e) (tys ++ e') ∧ WM (tys ++ e') (ms ++ f) (tms ++ f') ∧ (tms ++ f')[i]? = some a.er ∧ (∀ t ∈ e', t ∈ a.typs) ∧ (∀ x ∈ f', x ∈ a.er.parts) ∧ (a.er ∈ tms → e = [] ∧ f = [])
 | .mk k n t i xs, l, ns, tys, ms, tms, hw, hm, hf, hd => by
  obtain ⟨l', F⟩ := formed_FN hf
  simp only [Tm.depth] at hd
  have hmore := F.more
  -- the type
  have hty : ∃ (ti : Int) (e : List TN) (e' : List Ty), (if k = 3 ∨ k = 4 then ((-1 : Int), ns) else addT t ns) = (ti, ns ++ e) ∧ WT (ns ++ e) (tys ++ e') ∧ (∀ q ∈ e', q ∈ (if k = 3 ∨ k = 4 then [] else t.parts)) ∧ ((k = 3 ∨ k = 4) ∧ ti = -1 ∧ t = zTy ∨ ¬ (k = 3 ∨ k = 4) ∧ ∃ j : Nat, ti = j ∧ (tys ++ e')[j]? = some t) ∧ ((¬ (k = 3 ∨ k = 4) → t ∈ tys) → e = []) := by
   by_cases hk : k = 3 ∨ k = 4
   ·refine ⟨-1, [], [], by simp [hk], by simpa using hw, by simp, .inl ⟨hk, rfl, ?_⟩, fun _ => rfl⟩
    rcases F.kd with h | h | h
    ·exact h.2.2.1
    ·exact h.2.2.1
    ·exact absurd hk h.1
   ·have hv : t.valid = true := by
     rcases F.kd with h | h | h
     ·exact absurd (.inl h.1) hk
     ·exact absurd (.inr h.1) hk
     ·exact h.2.2.1
    simp only [Ty.valid, Ty.small, Bool.and_eq_true, decide_eq_true_eq] at hv
    obtain ⟨j, e, e', g1, g2, g3, g4, g5⟩ := addT_spec t ns tys hw hv.2 hv.1.1 hv.1.2
    exact ⟨j, e, e', by rw [if_neg hk, g1], g2, by simpa [hk] using g4, .inr ⟨hk, j, rfl, g3⟩, fun h => g5 (h hk)⟩
  obtain ⟨ti, e, e', t1, t2, t3, t4, t5⟩ := hty
  obtain ⟨is, e2, e2', f, f', g1, g2, g3, g4, g5, g6, g7, g8⟩ := addMs_spec xs l' (ns ++ e) (tys ++ e') ms tms t2 hm.grow F.subs (by omega)
  have hlen : is.length = xs.length := by rw [← List.length_map (f := Tm.er), ← g5]; simp
  -- the node
  have hfine : fineN (XN.mk k n ti i is) (ms ++ f).length ((tys ++ e') ++ e2').length := by
   refine ⟨by rw [F.ar]; simp [hlen], by rw [← g3.len]; exact g4, ?_⟩
   simp only [fineK]
   rcases F.kd with ⟨q1, q2, q3, q4, q5⟩ | ⟨q1, q2, q3, q4⟩ | ⟨q1, q2, q3, q4⟩
   ·have hti : ti = -1 := by
     rcases t4 with h | h
     ·exact h.2.1
     ·exact absurd (.inl q1) h.1
    simp [q1, q2, hti, q4]; omega
   ·have hti : ti = -1 := by
     rcases t4 with h | h
     ·exact h.2.1
     ·exact absurd (.inr q1) h.1
    simp [q1, q2, hti, q4]
   ·rcases t4 with h | ⟨_, j, hj, hj2⟩
    ·exact absurd h.1 q1
    ·have hlt := (List.getElem?_eq_some_iff.1 hj2).1
     rw [if_neg (fun h => q1 (.inl h)), if_neg (fun h => q1 (.inr h))]
     simp only [q4, q2, hj, Bool.and_eq_true, decide_eq_true_eq, and_true, true_and]
     simp only [List.length_append] at hlt ⊢
     omega
  have hnode : nodeE ((tys ++ e') ++ e2') (tms ++ f') (XN.mk k n ti i is) = (Tm.mk k n t i xs).er := by
   simp only [nodeE, Tm.er, Tm.mk.injEq, true_and]
   refine ⟨?_, by rw [Tm.ers_map]; exact g5⟩
   rcases t4 with ⟨_, h2, h3⟩ | ⟨_, j, hj, hj2⟩
   ·simp [tyOf, h2, h3]
   ·have hlt := (List.getElem?_eq_some_iff.1 hj2).1
    rw [tyOf, if_pos (by omega), hj, Int.toNat_natCast, getD_app _ _ _ hlt, List.getD_eq_getElem?_getD, hj2]; rfl
  obtain ⟨ix, h, h', k1, k2, k3, k4, k5⟩ := addM_fin g2.uniq g3 _ hfine
  refine ⟨ix, e ++ e2, e' ++ e2', f ++ h, f' ++ h', ?_, ?_, ?_, ?_, ?_, ?_, ?_⟩
  ·simp only [addM, t1, g1]
   simp only [← List.append_assoc]
   cases hi : idxK keyM (ms ++ f) (keyM (XN.mk k n ti i is)) with
   | some j =>
    rw [hi] at k1
    simp only [Prod.mk.injEq] at k1
    rw [← k1.2, ← k1.1]
   | none =>
    rw [hi] at k1
    simp only [Prod.mk.injEq] at k1
    rw [← k1.2, ← k1.1]
  ·rw [← List.append_assoc, ← List.append_assoc]; exact g2
  ·rw [← List.append_assoc, ← List.append_assoc, ← List.append_assoc]; exact k2
  ·rw [← List.append_assoc, k3, hnode]
  ·intro q hq
   simp only [Tm.typs]
   rcases List.mem_append.1 hq with hq | hq
   ·exact List.mem_append_left _ (t3 q hq)
   ·exact List.mem_append_right _ (g6 q hq)
  ·intro x hx
   have hp : (Tm.mk k n t i xs).er.parts = (Tm.mk k n t i xs).er :: Tm.partss (Tm.ers xs) := by simp only [Tm.er, Tm.parts]
   rw [hp]
   rcases List.mem_append.1 hx with hx | hx
   ·exact List.mem_cons_of_mem _ (g7 x hx)
   ·rw [k4 x hx, hnode]; simp
  ·intro ha
   have hcl := hm.closed (show Tm.mk k (if k = 5 then ByteArray.empty else n) t i (Tm.ers xs) ∈ tms from ha)
   have he := t5 hcl.2
   obtain ⟨h2, h3⟩ := g8 (fun x hx => hcl.1 _ (by rw [Tm.ers_map]; exact List.mem_map_of_mem hx))
   have h4 := k5 (by rw [hnode]; exact List.mem_append_left _ ha)
   rw [he, h2, h3, h4]; exact ⟨rfl, rfl⟩
theorem addMs_spec : ∀ (xs : List Tm) (l : List Ty) (ns : List TN) (tys : List Ty) (ms : List MN) (tms : List Tm), WT ns tys → WM tys ms tms → (∀ x ∈ xs, (Tm.formed l x).2 = true) → l.length + Tm.depths xs ≤ 300 →
  ∃ (is : List Int) (e : List TN) (e' : List Ty) (f : List MN) (f' : List Tm), addMs xs ns ms = (is, ns ++ e, ms ++ f) ∧ WT (ns ++ e) (tys ++ e') ∧ WM (tys ++ e') (ms ++ f) (tms ++ f') ∧ blw is (tms ++ f').length = true ∧ (is.map fun j => (tms ++ f').getD j.toNat zTm) = xs.map Tm.er ∧ (∀ t ∈ e', t ∈ Tm.typss xs) ∧ (∀ x ∈ f', x ∈ Tm.partss (Tm.ers xs)) ∧ ((∀ x ∈ xs, x.er ∈ tms) → e = [] ∧ f = [])
 | [], l, ns, tys, ms, tms, hw, hm, hf, hd => ⟨[], [], [], [], [], by simp [addMs], by simpa using hw, by simpa using hm, rfl, rfl, by simp, by simp, fun _ => ⟨rfl, rfl⟩⟩
 | a :: r, l, ns, tys, ms, tms, hw, hm, hf, hd => by
  simp only [Tm.depths] at hd
  obtain ⟨i, e, e', f, f', g1, g2, g3, g4, g5, g6, g7⟩ := addM_spec a l ns tys ms tms hw hm (hf a (by simp)) (by omega)
  obtain ⟨is, e2, e2', f2, f2', k1, k2, k3, k4, k5, k6, k7, k8⟩ := addMs_spec r l (ns ++ e) (tys ++ e') (ms ++ f) (tms ++ f') g2 g3 (fun x hx => hf x (by simp [hx])) (by omega)
  have hi := (List.getElem?_eq_some_iff.1 g4).1
  refine ⟨(i : Int) :: is, e ++ e2, e' ++ e2', f ++ f2, f' ++ f2', ?_, by rw [← List.append_assoc, ← List.append_assoc]; exact k2, by rw [← List.append_assoc, ← List.append_assoc, ← List.append_assoc]; exact k3, ?_, ?_, ?_, ?_, ?_⟩
  ·simp only [addMs, g1, k1, List.append_assoc]
  ·rw [← List.append_assoc]
   refine blw_iff.2 fun j hj => ?_
   rcases List.mem_cons.1 hj with rfl | hj
   ·simp only [List.length_append] at hi ⊢; omega
   ·exact blw_iff.1 k4 j hj
  ·rw [← List.append_assoc]
   simp only [List.map_cons, k5, List.cons.injEq, and_true, Int.toNat_natCast]
   rw [getD_app _ _ _ hi, List.getD_eq_getElem?_getD, g4]; rfl
  ·intro t ht
   simp only [Tm.typss]
   rcases List.mem_append.1 ht with ht | ht
   ·exact List.mem_append_left _ (g5 t ht)
   ·exact List.mem_append_right _ (k6 t ht)
  ·intro x hx
   simp only [Tm.ers, Tm.partss]
   rcases List.mem_append.1 hx with hx | hx
   ·exact List.mem_append_left _ (g6 x hx)
   ·exact List.mem_append_right _ (k7 x hx)
  ·intro h
   obtain ⟨h1, h2⟩ := g7 (h a (by simp))
   obtain ⟨h3, h4⟩ := k8 fun x hx => List.mem_append_left _ (h x (by simp [hx]))
   rw [h1, h2, h3, h4]; exact ⟨rfl, rfl⟩
end
end Go.Proofs.Ytemfpemejagndaa.Fw


namespace Go.Proofs.Ytemfpemejagndaa.Fw
open Go Go.Proofs

def noS : AStore := .mk [] []
/-- a store with the types and terms that it holds -/
structure Sto (a : AStore) (tys : List Ty) (tms : List Tm) : Prop where
 wt : WT a.types tys
 wm : WM tys a.terms tms
 few : a.few = true
theorem Sto.of {a : AStore} (h1 : a.few = true) (h2 : a.wf = true) : Sto a (decT [] a.types) (decE (decT [] a.types) [] a.terms) := by
 simp only [AStore.wf, Bool.and_eq_true] at h2
 have hw := WT.of h2.1
 exact ⟨hw, WM.of (by rw [hw.len]; exact h2.2), h1⟩
theorem few_iff {a : AStore} : a.few = true ↔ a.types.length ≤ 4096 ∧ a.terms.length ≤ 4096 := by simp [AStore.few]
mutual
theorem tsize_le : ∀ (a : Tm) (l : List Ty), (Tm.formed l a).2 = true → a.tsize ≤ 500 * a.size
 | .mk k n t i xs, l, h => by
  obtain ⟨l', F⟩ := formed_FN h
  have hx := tsizes_le xs l' F.subs
  have ht : t.size ≤ 500 := by
   rcases F.kd with q | q | q
   ·rw [q.2.2.1]; decide
   ·rw [q.2.2.1]; decide
   ·have := q.2.2.1
    simp only [Ty.valid, Ty.small, Bool.and_eq_true, decide_eq_true_eq] at this
    exact this.1.1
  simp only [Tm.tsize, Tm.size]; omega
theorem tsizes_le : ∀ (xs : List Tm) (l : List Ty), (∀ x ∈ xs, (Tm.formed l x).2 = true) → Tm.tsizes xs ≤ 500 * Tm.sizes xs
 | [], l, h => by simp [Tm.tsizes, Tm.sizes]
 | a :: r, l, h => by
  have h1 := tsize_le a l (h a (by simp))
  have h2 := tsizes_le r l (fun x hx => h x (by simp [hx]))
  simp only [Tm.tsizes, Tm.sizes]; omega
end
def AddS (a : AStore) (t : Tm) : AStore × Int × Int :=
 if a.few = true then
  if a.wf = true then
   if t.check = 0 then
    match addM t a.types a.terms with
    | (i, ns, ms) => if (AStore.mk ns ms).few = true then (.mk ns ms, i, 0) else (noS, 0, 4)
   else (noS, 0, t.check)
  else (noS, 0, 8)
 else (noS, 0, 4)
def FindS (a : AStore) (t : Tm) : Int × Bool × Int :=
 if a.few = true then
  if a.wf = true then
   if t.check = 0 then (if (addM t a.types a.terms).1 < a.terms.length then ((addM t a.types a.terms).1, true, 0) else (0, false, 0))
   else (0, false, t.check)
  else (0, false, 8)
 else (0, false, 4)
theorem check_zero' {t : Tm} (h : t.check = 0) : t.size ≤ 32000 ∧ t.depth ≤ 300 ∧ (Tm.formed [] t).2 = true := by
 obtain ⟨h1, h2⟩ := Tm.check_zero.1 h
 have := Tm.small_depth h1
 exact ⟨this.1, this.2, h2⟩
theorem hash_Add_eq (a : AStore) (h : a.thin) (t : Tm) (hok : t.ok) (hs : t.size ≤ lim) (ht : t.tys) : hash_Add_o a t = some (AddS a t) := by
 unfold hash_Add_o AddS
 rw [open_eq a h, bs]
 by_cases h1 : a.few = true
 ·rw [if_pos h1, if_pos h1]
  by_cases h2 : a.wf = true
  ·rw [if_pos h2, if_pos h2]
   simp only [hash_Add_o_j0c]
   rw [terms_Check_eq t hok hs ht, bs]
   by_cases h3 : t.check = 0
   ·rw [if_neg (by simp [h3]), if_pos h3]
    obtain ⟨c1, c2, c3⟩ := check_zero' h3
    have c4 := tsize_le t [] c3
    obtain ⟨f1, f2⟩ := few_iff.1 h1
    rw [hash_add_eq t a.types a.terms (by simp only [lim]; omega) (by simp only [lim]; omega), bs]
    simp only [hx_done_io, YN.Ds_len, XN.Ds_len]
    generalize addM t a.types a.terms = g
    obtain ⟨i, ns, ms⟩ := g
    simp only [few_iff]
    by_cases q1 : ns.length ≤ 4096
    ·rw [if_neg (show ¬ (4096 : Int) < (ns.length : Int) by omega)]
     by_cases q2 : ms.length ≤ 4096
     ·rw [if_neg (show ¬ (4096 : Int) < (ms.length : Int) by omega), if_pos ⟨q1, q2⟩]; rfl
     ·rw [if_pos (show (4096 : Int) < (ms.length : Int) by omega), if_neg (fun h => q2 h.2)]; rfl
    ·rw [if_pos (show (4096 : Int) < (ns.length : Int) by omega), if_neg (fun h => q1 h.1)]; rfl
   ·rw [if_pos h3, if_neg h3]; rfl
  ·rw [if_neg h2, if_neg h2]; rfl
 ·rw [if_neg h1, if_neg h1]; rfl
theorem hash_Find_eq (a : AStore) (h : a.thin) (t : Tm) (hok : t.ok) (hs : t.size ≤ lim) (ht : t.tys) : hash_Find_o a t = some (FindS a t) := by
 unfold hash_Find_o FindS
 rw [open_eq a h, bs]
 by_cases h1 : a.few = true
 ·rw [if_pos h1, if_pos h1]
  by_cases h2 : a.wf = true
  ·rw [if_pos h2, if_pos h2]
   simp only [hash_Find_o_j0c]
   rw [terms_Check_eq t hok hs ht, bs]
   by_cases h3 : t.check = 0
   ·rw [if_neg (by simp [h3]), if_pos h3]
    obtain ⟨c1, c2, c3⟩ := check_zero' h3
    have c4 := tsize_le t [] c3
    obtain ⟨f1, f2⟩ := few_iff.1 h1
    rw [hash_add_eq t a.types a.terms (by simp only [lim]; omega) (by simp only [lim]; omega), bs]
    simp only [XN.Ds_len]
    split <;> rfl
   ·rw [if_pos h3, if_neg h3]
  ·rw [if_neg h2, if_neg h2]; rfl
 ·rw [if_neg h1, if_neg h1]; rfl
theorem counts_posH (d : Nat) : ∀ (xs : List Tm) (l : Int), 0 < Tm.counts d l xs → ∀ x ∈ xs, ∃ l', 0 < Tm.count d l' x := by
 intro xs
 induction xs with
 | nil => intro l _ x hx; cases hx
 | cons a r ih =>
  intro l h x hx
  simp only [Tm.counts] at h
  split at h
  ·have h1 : 0 < Tm.count d l a := by
    by_cases h1 : 0 < Tm.count d l a
    ·exact h1
    ·rw [Tm.counts_stop d _ r h1] at h; omega
   rcases List.mem_cons.1 hx with rfl | hx
   ·exact ⟨l, h1⟩
   ·exact ih _ h x hx
  ·omega
theorem tyss_ofH {xs : List Tm} (h : ∀ x ∈ xs, x.tys) : Tm.tyss xs := by
 induction xs with
 | nil => trivial
 | cons a r ih => exact ⟨h a (by simp), ih fun x hx => h x (by simp [hx])⟩
theorem count_tysH : ∀ (d : Nat) (l : Int) (a : Tm), 0 < Tm.count d l a → a.tys := by
 intro d
 induction d with
 | zero => intro l a h; simp only [Tm.count] at h; omega
 | succ d ih =>
  rintro l ⟨k, n, t, i, xs⟩ h
  simp only [Tm.count] at h
  split at h
  ·omega
  ·rename_i hg
   have := (Ty.great_size t (by simpa using hg)).1
   exact ⟨by simp only [tlim]; omega, tyss_ofH fun x hx => let ⟨l', h'⟩ := counts_posH d xs _ h x hx; ih l' x h'⟩
theorem great_fineH {a : Tm} (h : a.ok) (hg : a.great = false) : a.fine := by
 simp only [Tm.great, Bool.and_eq_false_iff, Bool.not_eq_false', decide_eq_true_eq, Bool.or_eq_false_iff, decide_eq_false_iff_not] at hg
 rcases hg with hg | ⟨hg, _⟩
 ·have := (Tm.count_size 400 2000 a hg).1
  exact ⟨h, count_tysH _ _ _ hg, by omega⟩
 ·have := (Tm.count_size 400 40000 a (by omega)).1
  exact ⟨h, count_tysH 400 40000 a (by omega), by omega⟩
end Go.Proofs.Ytemfpemejagndaa.Fw


namespace Go.Proofs.Ytemfpemejagndaa.Fw
open Go Go.Proofs

end Go.Proofs.Ytemfpemejagndaa.Fw


namespace Go.Proofs.Ytemfpemejagndaa.Fw
open Go Go.Proofs

/-! ### stores that are the same -/
theorem ints_l (xs : List Int) : ∀ (j k : Nat), k + j = xs.length → z31_ints_l0 (xs.drop k) k xs = some true
 | 0, k, h => by rw [z31_ints_l0_eq, List.drop_eq_nil_of_le (by omega)]
 | j + 1, k, h => by
  obtain ⟨y, g1, g2⟩ := geti_drop (l := xs) (k := k) (n := j) h
  rw [z31_ints_l0_eq, g2]
  simp only []
  rw [g1, bs, if_neg (by simp)]
  exact ints_l xs j (k + 1) (by omega)
theorem ints_self (xs : List Int) : z31_ints xs xs = some true := by
 rw [z31_ints, if_neg (by simp)]
 exact ints_l xs xs.length 0 (by omega)
theorem same_l1 (a : AStore) : ∀ (j k : Nat), k + j = a.terms.length → z31_Same_l1 (a.terms.drop k) k a = some true
 | 0, k, h => by rw [z31_Same_l1_eq, List.drop_eq_nil_of_le (by omega)]
 | j + 1, k, h => by
  obtain ⟨y, g1, g2⟩ := geti_drop (l := a.terms) (k := k) (n := j) h
  rw [z31_Same_l1_eq, g2]
  simp only []
  have hs : z31_sameTerm y y = some true := by
   unfold z31_sameTerm
   simp only [ints_self, bs, if_true]
   split <;> rfl
  rw [g1, bs, hs, bs, if_pos rfl, bs, if_neg (by simp)]
  exact same_l1 a j (k + 1) (by omega)
theorem same_l0 (a : AStore) : ∀ (j k : Nat), k + j = a.types.length → z31_Same_l0 (a.types.drop k) k a a = some true
 | 0, k, h => by
  rw [z31_Same_l0_eq, List.drop_eq_nil_of_le (by omega)]
  exact same_l1 a a.terms.length 0 (by omega)
 | j + 1, k, h => by
  obtain ⟨y, g1, g2⟩ := geti_drop (l := a.types) (k := k) (n := j) h
  rw [z31_Same_l0_eq, g2]
  simp only []
  have hs : z31_sameType y y = some true := by
   unfold z31_sameType
   simp only [ints_self, bs, if_true]
  rw [g1, bs, hs, bs, if_pos rfl]
  exact same_l0 a j (k + 1) (by omega)
theorem same_store (a : AStore) : z31_Same a a = some true := by
 rw [z31_Same, if_neg (by simp), if_neg (by simp)]
 exact same_l0 a a.types.length 0 (by omega)
/-! ### what a caller hands in -/
structure AStore.ok (a : AStore) : Prop where
 at_ : ∀ n ∈ a.types, n.name.size ≤ big
 am : ∀ n ∈ a.terms, n.name.size ≤ big
theorem Great_l1 : ∀ (rest : List MN) (t : Int), ∃ b, z31_Great_l1 rest t = some b ∧ (b = false → ∀ n ∈ rest, n.sub.length ≤ 20)
 | [], t => ⟨false, by rw [z31_Great_l1_eq], by simp⟩
 | n :: r, t => by
  rw [z31_Great_l1_eq]
  simp only [bs, intDs_i64_len]
  by_cases h1 : (20 : Int) < (n.sub.length : Int)
  ·rw [if_pos h1]; exact ⟨true, rfl, by simp⟩
  ·rw [if_neg h1]
   split
   ·exact ⟨true, rfl, by simp⟩
   ·obtain ⟨b, g1, g2⟩ := Great_l1 r (IntKind.i64.wrap (t + n.name.size))
    refine ⟨b, g1, fun hb m hm => ?_⟩
    rcases List.mem_cons.1 hm with rfl | hm
    ·omega
    ·exact g2 hb m hm
theorem Great_l0 (a : AStore) : ∀ (rest : List TN) (t : Int), ∃ b, z31_Great_l0 rest t a = some b ∧ (b = false → (∀ n ∈ rest, n.args.length ≤ 20) ∧ ∀ n ∈ a.terms, n.sub.length ≤ 20)
 | [], t => by
  rw [z31_Great_l0_eq]
  obtain ⟨b, g1, g2⟩ := Great_l1 a.terms t
  exact ⟨b, g1, fun hb => ⟨by simp, g2 hb⟩⟩
 | n :: r, t => by
  rw [z31_Great_l0_eq]
  simp only [bs, intDs_i64_len]
  by_cases h1 : (20 : Int) < (n.args.length : Int)
  ·rw [if_pos h1]; exact ⟨true, rfl, by simp⟩
  ·rw [if_neg h1]
   split
   ·exact ⟨true, rfl, by simp⟩
   ·obtain ⟨b, g1, g2⟩ := Great_l0 a r (IntKind.i64.wrap (t + n.name.size))
    refine ⟨b, g1, fun hb => ⟨fun m hm => ?_, (g2 hb).2⟩⟩
    rcases List.mem_cons.1 hm with rfl | hm
    ·omega
    ·exact (g2 hb).1 m hm
theorem store_Great (a : AStore) (h : a.ok) : ∃ b, z31_Great a = some b ∧ (b = false → a.thin) := by
 have key : ∀ t3 : Bool, ∃ b, z31_Great_j0 t3 a = some b ∧ (b = false → a.thin) := fun t3 => by
  obtain ⟨b, g1, g2⟩ := Great_l0 a a.types 0
  unfold z31_Great_j0
  simp only [YN.Ds_len, XN.Ds_len, z31_Great_j1]
  by_cases h1 : (4200 : Int) < (a.types.length : Int)
  ·rw [if_pos h1]; exact ⟨true, rfl, by simp⟩
  rw [if_neg h1]
  by_cases h2 : (4200 : Int) < (a.terms.length : Int)
  ·rw [if_pos h2]; exact ⟨true, rfl, by simp⟩
  rw [if_neg h2]
  have fin : ∃ b, z31_Great_l0 a.types 0 a = some b ∧ (b = false → a.thin) := ⟨b, g1, fun hb => ⟨by omega, by omega, fun n hn => ⟨h.at_ n hn, (g2 hb).1 n hn⟩, fun n hn => ⟨h.am n hn, (g2 hb).2 n hn⟩⟩⟩
  split
  ·exact fin
  ·split
   ·exact ⟨true, rfl, by simp⟩
   ·split
    ·exact ⟨true, rfl, by simp⟩
    ·exact fin
 unfold z31_Great
 split
 ·exact key _
 ·split <;> exact key _
theorem term_Wide (t : Tm) (h : t.ok) : ∃ b, z31_Wide t = some b ∧ (b = false → t.fine) := by
 unfold z31_Wide
 rw [ref2_Great_eq t h, bs]
 by_cases hg : t.great = true
 ·rw [if_pos hg]; exact ⟨true, rfl, by simp⟩
 ·have hf := great_fineH h (by simpa using hg)
  rw [if_neg hg, ref2_Size_eq t hf.lim, bs]
  split
  ·rw [bs]; exact ⟨_, rfl, fun _ => hf⟩
  ·exact ⟨false, rfl, fun _ => hf⟩
/-! ### the terms are the same -/
end Go.Proofs.Ytemfpemejagndaa.Fw


namespace Go.Proofs.Ytemfpemejagndaa.Fw
open Go Go.Proofs

end Go.Proofs.Ytemfpemejagndaa.Fw


namespace Go.Proofs.Ytemfpemejagndaa.Fw
open Go Go.Proofs

end Go.Proofs.Ytemfpemejagndaa.Fw


namespace Go.Proofs.Ytemfpemejagndaa.Fw
open Go Go.Proofs

end Go.Proofs.Ytemfpemejagndaa.Fw

