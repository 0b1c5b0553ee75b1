/- Terms in a store. -/
import Derived.Test.YtpgecpmonaldiaaHA
import Derived.Test.YtpgecpmonaldiaaMB
set_option autoImplicit false
set_option linter.unusedVariables false
set_option linter.unusedSimpArgs false
namespace Go.Proofs.Ytpgecpmonaldiaa.Fw
open Go Go.Proofs

mutual
/-- the term without the names of abstractions -/
def Tm.er : Tm → Tm
  | .mk k n t i xs => .mk k (if k = 5 then ByteArray.empty else n) t i (Tm.ers xs)
def Tm.ers : List Tm → List Tm
  | [] => []
  | a :: r => a.er :: Tm.ers r
end
theorem Tm.ers_map : ∀ xs : List Tm, Tm.ers xs = xs.map Tm.er
  | [] => rfl
  | a :: r => by simp [Tm.ers, Tm.ers_map r]
def tyOf (tys : List Ty) (j : Int) : Ty := if 0 ≤ j then tys.getD j.toNat zTy else zTy
def nodeE (tys : List Ty) (tms : List Tm) (n : MN) : Tm := .mk n.kind (if n.kind = 5 then ByteArray.empty else n.name) (tyOf tys n.type_) n.index (n.sub.map fun j => tms.getD j.toNat zTm)
structure fineN (n : MN) (k nt : Int) : Prop where
  ar : arity n.kind = some (n.sub.length : Int)
  bel : blw n.sub k = true
  kd : fineK n nt = true
theorem fineM_iff {n : MN} {k nt : Int} : fineM n k nt = true ↔ fineN n k nt := by
  simp only [fineM, Bool.and_eq_true]
  constructor
  · rintro ⟨h1, h2, h3⟩
    refine ⟨?_, h2, h3⟩
    cases ha : arity n.kind with
    | none => rw [ha] at h1; cases h1
    | some r => rw [ha] at h1; simp only [decide_eq_true_eq] at h1; rw [h1]
  · rintro ⟨h1, h2, h3⟩
    exact ⟨by rw [h1]; simp, h2, h3⟩
theorem arity_le {k r : Int} (h : arity k = some r) : r ≤ 2 := by
  simp only [arity] at h
  repeat' split at h
  all_goals first | (injection h with h; omega) | cases h
theorem fineN.len {n : MN} {k nt : Int} (h : fineN n k nt) : n.sub.length ≤ 2 := by have := arity_le h.ar; omega
theorem fineN.ty {n : MN} {k nt : Int} (h : fineN n k nt) : (n.kind = 3 ∨ n.kind = 4) ∧ n.type_ = -1 ∨ (¬ (n.kind = 3 ∨ n.kind = 4) ∧ 0 ≤ n.type_ ∧ n.type_ < nt) := by
  have := h.kd
  simp only [fineK] at this
  by_cases h3 : n.kind = 3
  · simp only [h3, if_true, Bool.and_eq_true, decide_eq_true_eq] at this
    exact .inl ⟨.inl h3, this.1⟩
  · by_cases h4 : n.kind = 4
    · rw [if_neg h3, if_pos h4] at this
      simp only [Bool.and_eq_true, decide_eq_true_eq] at this
      exact .inl ⟨.inr h4, this.1⟩
    · rw [if_neg h3, if_neg h4] at this
      simp only [Bool.and_eq_true, decide_eq_true_eq] at this
      exact .inr ⟨by simp [h3, h4], this.2.1, this.2.2.1⟩
theorem fineN.mono {n : MN} {k nt k' nt' : Int} (h : fineN n k nt) (hk : k ≤ k') (ht : nt ≤ nt') : fineN n k' nt' := by
  refine ⟨h.ar, blw_iff.2 fun j hj => by have := blw_iff.1 h.bel j hj; omega, ?_⟩
  have := h.kd
  simp only [fineK] at this ⊢
  by_cases h3 : n.kind = 3
  · simpa only [h3, if_true] using this
  · by_cases h4 : n.kind = 4
    · simpa only [h3, h4, if_true, if_false] using this
    · rw [if_neg h3, if_neg h4] at this ⊢
      simp only [Bool.and_eq_true, decide_eq_true_eq] at this ⊢
      exact ⟨this.1, this.2.1, by omega, this.2.2.2⟩
/-- nodes and the terms that they stand for -/
inductive WM (tys : List Ty) : List MN → List Tm → Prop
  | nil : WM tys [] []
  | snoc (ms : List MN) (tms : List Tm) (n : MN) : WM tys ms tms → fineN n ms.length tys.length → idxK keyM ms (keyM n) = none → WM tys (ms ++ [n]) (tms ++ [nodeE tys tms n])
def decE (tys : List Ty) : List Tm → List MN → List Tm
  | tms, [] => tms
  | tms, n :: r => decE tys (tms ++ [nodeE tys tms n]) r
theorem decE_snoc (tys : List Ty) (n : MN) : ∀ (ms : List MN) (tms : List Tm), decE tys tms (ms ++ [n]) = decE tys tms ms ++ [nodeE tys (decE tys tms ms) n]
  | [], tms => rfl
  | a :: r, tms => by simp only [List.cons_append, decE]; rw [decE_snoc tys n r]
theorem openM_snoc (nt : Int) (n : MN) : ∀ (ms pre : List MN), openM nt pre (ms ++ [n]) = (openM nt pre ms && (fineM n (pre.length + ms.length : Nat) nt && (idxK keyM (pre ++ ms) (keyM n)).isNone))
  | [], pre => by simp [openM]
  | a :: r, pre => by
    simp only [List.cons_append, openM]
    rw [openM_snoc nt n r]
    simp only [List.length_append, List.length_cons, List.length_nil, List.append_assoc, List.cons_append, List.nil_append, Bool.and_assoc]
    have : pre.length + (0 + 1) + r.length = pre.length + (r.length + 1) := by omega
    rw [this]
theorem WM.of {tys : List Ty} {ms : List MN} : openM tys.length [] ms = true → WM tys ms (decE tys [] ms) := by
  induction ms using snoc_ind with
  | h0 => intro _; exact .nil
  | h1 l a ih =>
    intro h
    rw [openM_snoc, Bool.and_eq_true, Bool.and_eq_true] at h
    rw [decE_snoc]
    exact .snoc _ _ _ (ih h.1) (fineM_iff.1 (by simpa using h.2.1)) (by simpa using h.2.2)
theorem WM.dec {tys : List Ty} {ms : List MN} {tms : List Tm} (h : WM tys ms tms) : tms = decE tys [] ms := by
  induction h with
  | nil => rfl
  | snoc ms tms n _ _ _ ih => rw [decE_snoc, ← ih]
theorem WM.open {tys : List Ty} {ms : List MN} {tms : List Tm} (h : WM tys ms tms) : openM tys.length [] ms = true := by
  induction h with
  | nil => rfl
  | snoc ms tms n hw hk hi ih =>
    rw [openM_snoc, ih]
    simp [hi, fineM_iff.2 hk]
theorem WM.len {tys : List Ty} {ms : List MN} {tms : List Tm} (h : WM tys ms tms) : tms.length = ms.length := by
  induction h with
  | nil => rfl
  | snoc ms tms n _ _ _ ih => simp [ih]
theorem tyOf_app {tys e : List Ty} {n : MN} {k : Int} (h : fineN n k tys.length) : tyOf (tys ++ e) n.type_ = tyOf tys n.type_ := by
  rcases h.ty with ⟨_, h⟩ | ⟨_, h1, h2⟩
  · simp [tyOf, h]
  · simp only [tyOf, if_pos h1]; exact getD_app _ _ _ (by omega)
theorem nodeE_tys {tys e : List Ty} {tms : List Tm} {n : MN} {k : Int} (h : fineN n k tys.length) : nodeE (tys ++ e) tms n = nodeE tys tms n := by
  simp only [nodeE, tyOf_app h]
theorem nodeE_tms {tys : List Ty} {tms e : List Tm} {n : MN} (h : blw n.sub tms.length = true) : nodeE tys (tms ++ e) n = nodeE tys tms n := by
  have hj := blw_iff.1 h
  simp only [nodeE, Tm.mk.injEq, true_and]
  exact List.map_congr_left fun j hq => getD_app _ _ _ (by have := hj j hq; omega)
theorem WM.grow {tys e : List Ty} {ms : List MN} {tms : List Tm} (h : WM tys ms tms) : WM (tys ++ e) ms tms := by
  induction h with
  | nil => exact .nil
  | snoc ms tms n hw hk hi ih =>
    rw [← nodeE_tys (e := e) hk]
    exact .snoc _ _ _ ih (hk.mono (by omega) (by simp; omega)) hi
theorem WM.node {tys : List Ty} {ms : List MN} {tms : List Tm} (h : WM tys ms tms) : ∀ {i : Nat} {n : MN}, ms[i]? = some n → tms[i]? = some (nodeE tys tms n) ∧ fineN n i tys.length := by
  induction h with
  | nil => intro i n h; simp at h
  | snoc ms tms m hw hk hi ih =>
    intro i n h
    have hl := hw.len
    rcases snoc_get h with ⟨h1, h2⟩ | ⟨h1, h2⟩
    · obtain ⟨g1, g2⟩ := ih h2
      refine ⟨by rw [List.getElem?_append_left (by omega), g1, nodeE_tms (blw_mono g2.bel (by omega))], g2⟩
    · subst h2; subst h1
      refine ⟨by rw [nodeE_tms (by rw [hl]; exact hk.bel), ← hl]; simp, hk⟩
theorem keyM_eq {n m : MN} (hn : n.sub.length ≤ 2) (hm : m.sub.length ≤ 2) (h : keyM n = keyM m) : n.kind = m.kind ∧ n.type_ = m.type_ ∧ n.index = m.index ∧ n.sub = m.sub ∧ (if n.kind = 5 then ByteArray.empty else n.name) = (if m.kind = 5 then ByteArray.empty else m.name) := by
  simp only [keyM, HashTermKey.mk.injEq] at h
  obtain ⟨h1, h2, h3, h4, h5, h6, h7⟩ := h
  refine ⟨h1, h3, h4, getD_ext (by omega) fun i hi => ?_, h2⟩
  have : i < 2 := by omega
  match i, this with
  | 0, _ => exact h6
  | 1, _ => exact h7
theorem keyM_of {n m : MN} (h : n.kind = m.kind ∧ n.type_ = m.type_ ∧ n.index = m.index ∧ n.sub = m.sub ∧ (if n.kind = 5 then ByteArray.empty else n.name) = (if m.kind = 5 then ByteArray.empty else m.name)) : keyM n = keyM m := by
  obtain ⟨h1, h2, h3, h4, h5⟩ := h
  simp only [keyM, HashTermKey.mk.injEq]
  exact ⟨h1, h5, h2, h3, by rw [h4], by rw [h4], by rw [h4]⟩
theorem nodeE_key {tys : List Ty} {tms : List Tm} {n m : MN} (hn : n.sub.length ≤ 2) (hm : m.sub.length ≤ 2) (h : keyM n = keyM m) : nodeE tys tms n = nodeE tys tms m := by
  obtain ⟨h1, h2, h3, h4, h5⟩ := keyM_eq hn hm h
  simp only [nodeE, Tm.mk.injEq]
  exact ⟨h1, h5, by rw [h2], h3, by rw [h4]⟩
theorem nodeE_inj {tys : List Ty} (ht : Uniq tys) {tms : List Tm} (hu : Uniq tms) {n m : MN} (hn : fineN n tms.length tys.length) (hm : fineN m tms.length tys.length) (h : nodeE tys tms n = nodeE tys tms m) : keyM n = keyM m := by
  simp only [nodeE, Tm.mk.injEq] at h
  obtain ⟨h1, h2, h3, h4, h5⟩ := h
  refine keyM_of ⟨h1, ?_, h4, map_getD_inj hu zTm hn.bel hm.bel h5, h2⟩
  rcases hn.ty with ⟨a, b⟩ | ⟨a, b, c⟩ <;> rcases hm.ty with ⟨a', b'⟩ | ⟨a', b', c'⟩
  · rw [b, b']
  · rw [h1] at a; exact absurd a a'
  · rw [h1] at a; exact absurd a' a
  · simp only [tyOf, if_pos b, if_pos b'] at h3
    have l1 : n.type_.toNat < tys.length := by omega
    have l2 : m.type_.toNat < tys.length := by omega
    rw [List.getD_eq_getElem?_getD, List.getD_eq_getElem?_getD, List.getElem?_eq_getElem l1, List.getElem?_eq_getElem l2, Option.getD_some, Option.getD_some] at h3
    have := ht _ _ _ (List.getElem?_eq_getElem l1) (by rw [List.getElem?_eq_getElem l2, h3])
    omega
theorem WM.uniq {tys : List Ty} (ht : Uniq tys) {ms : List MN} {tms : List Tm} (h : WM tys ms tms) : Uniq tms := by
  induction h with
  | nil => intro i j x h; simp at h
  | snoc ms tms n hw hk hi ih =>
    refine ih.snoc fun hm => ?_
    obtain ⟨i, hi'⟩ := List.getElem?_of_mem hm
    have hlt : i < ms.length := by rw [← hw.len]; exact (List.getElem?_eq_some_iff.1 hi').1
    obtain ⟨g1, g2⟩ := hw.node (List.getElem?_eq_getElem hlt)
    rw [hi'] at g1
    injection g1 with g1
    have := nodeE_inj ht ih (by rw [hw.len]; exact hk) (g2.mono (by rw [hw.len]; omega) (Int.le_refl _)) g1
    exact (idxK_none keyM).1 hi _ (List.getElem_mem hlt) this
theorem WM.closed {tys : List Ty} {ms : List MN} {tms : List Tm} (h : WM tys ms tms) {k : Int} {s : ByteArray} {t : Ty} {ix : Int} {xs : List Tm} (hm : Tm.mk k s t ix xs ∈ tms) : (∀ x ∈ xs, x ∈ tms) ∧ (¬ (k = 3 ∨ k = 4) → t ∈ tys) := by
  obtain ⟨i, hi⟩ := List.getElem?_of_mem hm
  have hlt : i < ms.length := by rw [← h.len]; exact (List.getElem?_eq_some_iff.1 hi).1
  obtain ⟨g1, g2⟩ := h.node (List.getElem?_eq_getElem hlt)
  rw [hi] at g1
  injection g1 with g1
  simp only [nodeE, Tm.mk.injEq] at g1
  obtain ⟨h1, -, h3, -, h5⟩ := g1
  constructor
  · intro x hx
    rw [h5] at hx
    obtain ⟨j, hj, rfl⟩ := List.mem_map.1 hx
    have := blw_iff.1 g2.bel j hj
    have hl : j.toNat < tms.length := by have := h.len; omega
    rw [List.getD_eq_getElem?_getD, List.getElem?_eq_getElem hl]
    exact List.getElem_mem hl
  · intro hk
    rw [h1] at hk
    rcases g2.ty with ⟨a, b⟩ | ⟨a, b, c⟩
    · exact absurd a hk
    · rw [h3, tyOf, if_pos b]
      have hl : (ms[i]).type_.toNat < tys.length := by omega
      rw [List.getD_eq_getElem?_getD, List.getElem?_eq_getElem hl]
      exact List.getElem_mem hl
theorem addM_fin {tys : List Ty} {ms : List MN} {tms : List Tm} (ht : Uniq tys) (hw : WM tys ms tms) (n : MN) (hf : fineN n ms.length tys.length) :
    ∃ (i : Nat) (f : List MN) (f' : List Tm), (match idxK keyM ms (keyM n) with | some j => ((j : Int), ms) | none => ((ms.length : Int), ms ++ [n])) = ((i : Int), ms ++ f) ∧ WM tys (ms ++ f) (tms ++ f') ∧ (tms ++ f')[i]? = some (nodeE tys tms n) ∧ (∀ x ∈ f', x = nodeE tys tms n) ∧ (nodeE tys tms n ∈ tms → f = []) := by
  cases hi : idxK keyM ms (keyM n) with
  | some j =>
    obtain ⟨m, hm1, hm2⟩ := idxK_some keyM hi
    obtain ⟨q1, q2⟩ := hw.node hm1
    refine ⟨j, [], [], by simp, by simpa using hw, ?_, by simp, fun _ => rfl⟩
    rw [List.append_nil, q1, nodeE_key hf.len q2.len hm2]
  | none =>
    refine ⟨ms.length, [n], [nodeE tys tms n], rfl, .snoc _ _ _ hw hf hi, by rw [← hw.len]; simp, by simp, fun ha => ?_⟩
    exfalso
    obtain ⟨j, hj⟩ := List.getElem?_of_mem ha
    have hlt : j < ms.length := by rw [← hw.len]; exact (List.getElem?_eq_some_iff.1 hj).1
    obtain ⟨q1, q2⟩ := hw.node (List.getElem?_eq_getElem hlt)
    rw [hj] at q1
    injection q1 with q1
    have := nodeE_inj ht (hw.uniq ht) (by rw [hw.len]; exact hf) (q2.mono (by rw [hw.len]; omega) (Int.le_refl _)) q1
    exact (idxK_none keyM).1 hi _ (List.getElem_mem hlt) this
/-! ### what is formed -/
theorem none_zTy {t : Ty} (h : t.none = true) : t = zTy := by
  obtain ⟨v, n, xs⟩ := t
  obtain ⟨h1, h2, h3⟩ := (none_iff _).1 h
  simp only at h1 h2 h3
  rw [h1, h2, h3]; rfl
/-- a node of a formed term -/
structure FN (l l' : List Ty) (k : Int) (n : ByteArray) (t : Ty) (i : Int) (xs : List Tm) : Prop where
  ar : arity k = some (xs.length : Int)
  subs : ∀ x ∈ xs, (Tm.formed l' x).2 = true
  more : l'.length ≤ l.length + 1
  kd : (k = 3 ∧ n = ByteArray.empty ∧ t = zTy ∧ 0 ≤ i ∧ i < l.length) ∨ (k = 4 ∧ n = ByteArray.empty ∧ t = zTy ∧ i = 0) ∨ (¬ (k = 3 ∨ k = 4) ∧ cname n = true ∧ t.valid = true ∧ i = 0)
theorem formed_FN {l : List Ty} {k : Int} {n : ByteArray} {t : Ty} {i : Int} {xs : List Tm} (h : (Tm.formed l (.mk k n t i xs)).2 = true) : ∃ l', FN l l' k n t i xs := by
  simp only [Tm.formed] at h
  by_cases h12 : k = 1 ∨ k = 2
  · rw [if_pos h12] at h
    simp only [Bool.and_eq_true, decide_eq_true_eq] at h
    obtain ⟨g1, g2, g3, g4⟩ := h
    have hx : xs = [] := List.length_eq_zero_iff.1 g4
    subst hx
    exact ⟨l, by rcases h12 with rfl | rfl <;> rfl, by simp, by omega, .inr (.inr ⟨by omega, g1, g2, g3⟩)⟩
  · rw [if_neg h12] at h
    by_cases h3 : k = 3
    · subst h3
      rw [if_pos rfl] at h
      split at h
      · rename_i hc
        obtain ⟨g1, g2, g3, g4, g5⟩ := hc
        have hx : xs = [] := List.length_eq_zero_iff.1 g3
        subst hx
        exact ⟨l, rfl, by simp, by omega, .inl ⟨rfl, g1, none_zTy g2, g4, g5⟩⟩
      · cases h
    · rw [if_neg h3] at h
      by_cases h4 : k = 4
      · subst h4
        rw [if_pos rfl] at h
        split at h
        · rename_i hc
          obtain ⟨g1, g2, g3, g4⟩ := hc
          match xs, g4 with
          | [a, b], _ =>
            simp only [Tm.formeds] at h
            split at h
            · rename_i hab
              exact ⟨l, rfl, by simp [hab.1, hab.2], by omega, .inr (.inl ⟨rfl, g1, none_zTy g2, g3⟩)⟩
            · cases h
        · cases h
      · rw [if_neg h4] at h
        by_cases h5 : k = 5
        · subst h5
          rw [if_pos rfl] at h
          split at h
          · rename_i hc
            obtain ⟨g1, g2, g3, g4⟩ := hc
            match xs, g4 with
            | [b], _ =>
              simp only [Tm.formeds, Bool.and_eq_true] at h
              exact ⟨t :: l, rfl, by simp [h.1], by simp, .inr (.inr ⟨by omega, g1, g2, g3⟩)⟩
          · cases h
        · rw [if_neg h5] at h; cases h
mutual
def Tm.parts : Tm → List Tm
  | .mk k n t i xs => .mk k n t i xs :: Tm.partss xs
def Tm.partss : List Tm → List Tm
  | [] => []
  | a :: r => a.parts ++ Tm.partss r
end
mutual
/-- the types that a term brings into a store -/
def Tm.typs : Tm → List Ty
  | .mk k _ t _ xs => (if k = 3 ∨ k = 4 then [] else t.parts) ++ Tm.typss xs
def Tm.typss : List Tm → List Ty
  | [] => []
  | a :: r => a.typs ++ Tm.typss r
end
mutual
theorem addM_spec : ∀ (a : Tm) (l : List Ty) (ns : List TN) (tys : List Ty) (ms : List MN) (tms : List Tm), WT ns tys → WM tys ms tms → (Tm.formed l a).2 = true → l.length + a.depth ≤ 300 →
    ∃ (i : Nat) (e : List TN) (e' : List Ty) (f : List MN) (f' : List Tm), addM a ns ms = ((i : Int), ns ++ e, ms ++ f) ∧ WT (ns ++ e) (tys ++ e') ∧ WM (tys ++ e') (ms ++ f) (tms ++ f') ∧ (tms ++ f')[i]? = some a.er ∧ (∀ t ∈ e', t ∈ a.typs) ∧ (∀ x ∈ f', x ∈ a.er.parts) ∧ (a.er ∈ tms → e = [] ∧ f = [])
  | .mk k n t i xs, l, ns, tys, ms, tms, hw, hm, hf, hd => by
    obtain ⟨l', F⟩ := formed_FN hf
    simp only [Tm.depth] at hd
    have hmore := F.more
    -- the type
    have hty : ∃ (ti : Int) (e : List TN) (e' : List Ty), (if k = 3 ∨ k = 4 then ((-1 : Int), ns) else addT t ns) = (ti, ns ++ e) ∧ WT (ns ++ e) (tys ++ e') ∧ (∀ q ∈ e', q ∈ (if k = 3 ∨ k = 4 then [] else t.parts)) ∧ ((k = 3 ∨ k = 4) ∧ ti = -1 ∧ t = zTy ∨ ¬ (k = 3 ∨ k = 4) ∧ ∃ j : Nat, ti = j ∧ (tys ++ e')[j]? = some t) ∧ ((¬ (k = 3 ∨ k = 4) → t ∈ tys) → e = []) := by
      by_cases hk : k = 3 ∨ k = 4
      · refine ⟨-1, [], [], by simp [hk], by simpa using hw, by simp, .inl ⟨hk, rfl, ?_⟩, fun _ => rfl⟩
        rcases F.kd with h | h | h
        · exact h.2.2.1
        · exact h.2.2.1
        · exact absurd hk h.1
      · have hv : t.valid = true := by
          rcases F.kd with h | h | h
          · exact absurd (.inl h.1) hk
          · exact absurd (.inr h.1) hk
          · exact h.2.2.1
        simp only [Ty.valid, Ty.small, Bool.and_eq_true, decide_eq_true_eq] at hv
        obtain ⟨j, e, e', g1, g2, g3, g4, g5⟩ := addT_spec t ns tys hw hv.2 hv.1.1 hv.1.2
        exact ⟨j, e, e', by rw [if_neg hk, g1], g2, by simpa [hk] using g4, .inr ⟨hk, j, rfl, g3⟩, fun h => g5 (h hk)⟩
    obtain ⟨ti, e, e', t1, t2, t3, t4, t5⟩ := hty
    obtain ⟨is, e2, e2', f, f', g1, g2, g3, g4, g5, g6, g7, g8⟩ := addMs_spec xs l' (ns ++ e) (tys ++ e') ms tms t2 hm.grow F.subs (by omega)
    have hlen : is.length = xs.length := by rw [← List.length_map (f := Tm.er), ← g5]; simp
    -- the node
    have hfine : fineN (ATermNode.mk k n ti i is) (ms ++ f).length ((tys ++ e') ++ e2').length := by
      refine ⟨by rw [F.ar]; simp [hlen], by rw [← g3.len]; exact g4, ?_⟩
      simp only [fineK]
      rcases F.kd with ⟨q1, q2, q3, q4, q5⟩ | ⟨q1, q2, q3, q4⟩ | ⟨q1, q2, q3, q4⟩
      · have hti : ti = -1 := by
          rcases t4 with h | h
          · exact h.2.1
          · exact absurd (.inl q1) h.1
        simp [q1, q2, hti, q4]; omega
      · have hti : ti = -1 := by
          rcases t4 with h | h
          · exact h.2.1
          · exact absurd (.inr q1) h.1
        simp [q1, q2, hti, q4]
      · rcases t4 with h | ⟨_, j, hj, hj2⟩
        · exact absurd h.1 q1
        · have hlt := (List.getElem?_eq_some_iff.1 hj2).1
          rw [if_neg (fun h => q1 (.inl h)), if_neg (fun h => q1 (.inr h))]
          simp only [q4, q2, hj, Bool.and_eq_true, decide_eq_true_eq, and_true, true_and]
          simp only [List.length_append] at hlt ⊢
          omega
    have hnode : nodeE ((tys ++ e') ++ e2') (tms ++ f') (ATermNode.mk k n ti i is) = (Tm.mk k n t i xs).er := by
      simp only [nodeE, Tm.er, Tm.mk.injEq, true_and]
      refine ⟨?_, by rw [Tm.ers_map]; exact g5⟩
      rcases t4 with ⟨_, h2, h3⟩ | ⟨_, j, hj, hj2⟩
      · simp [tyOf, h2, h3]
      · have hlt := (List.getElem?_eq_some_iff.1 hj2).1
        rw [tyOf, if_pos (by omega), hj, Int.toNat_natCast, getD_app _ _ _ hlt, List.getD_eq_getElem?_getD, hj2]; rfl
    obtain ⟨ix, h, h', k1, k2, k3, k4, k5⟩ := addM_fin g2.uniq g3 _ hfine
    refine ⟨ix, e ++ e2, e' ++ e2', f ++ h, f' ++ h', ?_, ?_, ?_, ?_, ?_, ?_, ?_⟩
    · simp only [addM, t1, g1]
      simp only [← List.append_assoc]
      cases hi : idxK keyM (ms ++ f) (keyM (ATermNode.mk k n ti i is)) with
      | some j =>
        rw [hi] at k1
        simp only [Prod.mk.injEq] at k1
        rw [← k1.2, ← k1.1]
      | none =>
        rw [hi] at k1
        simp only [Prod.mk.injEq] at k1
        rw [← k1.2, ← k1.1]
    · rw [← List.append_assoc, ← List.append_assoc]; exact g2
    · rw [← List.append_assoc, ← List.append_assoc, ← List.append_assoc]; exact k2
    · rw [← List.append_assoc, k3, hnode]
    · intro q hq
      simp only [Tm.typs]
      rcases List.mem_append.1 hq with hq | hq
      · exact List.mem_append_left _ (t3 q hq)
      · exact List.mem_append_right _ (g6 q hq)
    · intro x hx
      have hp : (Tm.mk k n t i xs).er.parts = (Tm.mk k n t i xs).er :: Tm.partss (Tm.ers xs) := by simp only [Tm.er, Tm.parts]
      rw [hp]
      rcases List.mem_append.1 hx with hx | hx
      · exact List.mem_cons_of_mem _ (g7 x hx)
      · rw [k4 x hx, hnode]; simp
    · intro ha
      have hcl := hm.closed (show Tm.mk k (if k = 5 then ByteArray.empty else n) t i (Tm.ers xs) ∈ tms from ha)
      have he := t5 hcl.2
      obtain ⟨h2, h3⟩ := g8 (fun x hx => hcl.1 _ (by rw [Tm.ers_map]; exact List.mem_map_of_mem hx))
      have h4 := k5 (by rw [hnode]; exact List.mem_append_left _ ha)
      rw [he, h2, h3, h4]; exact ⟨rfl, rfl⟩
theorem addMs_spec : ∀ (xs : List Tm) (l : List Ty) (ns : List TN) (tys : List Ty) (ms : List MN) (tms : List Tm), WT ns tys → WM tys ms tms → (∀ x ∈ xs, (Tm.formed l x).2 = true) → l.length + Tm.depths xs ≤ 300 →
    ∃ (is : List Int) (e : List TN) (e' : List Ty) (f : List MN) (f' : List Tm), addMs xs ns ms = (is, ns ++ e, ms ++ f) ∧ WT (ns ++ e) (tys ++ e') ∧ WM (tys ++ e') (ms ++ f) (tms ++ f') ∧ blw is (tms ++ f').length = true ∧ (is.map fun j => (tms ++ f').getD j.toNat zTm) = xs.map Tm.er ∧ (∀ t ∈ e', t ∈ Tm.typss xs) ∧ (∀ x ∈ f', x ∈ Tm.partss (Tm.ers xs)) ∧ ((∀ x ∈ xs, x.er ∈ tms) → e = [] ∧ f = [])
  | [], l, ns, tys, ms, tms, hw, hm, hf, hd => ⟨[], [], [], [], [], by simp [addMs], by simpa using hw, by simpa using hm, rfl, rfl, by simp, by simp, fun _ => ⟨rfl, rfl⟩⟩
  | a :: r, l, ns, tys, ms, tms, hw, hm, hf, hd => by
    simp only [Tm.depths] at hd
    obtain ⟨i, e, e', f, f', g1, g2, g3, g4, g5, g6, g7⟩ := addM_spec a l ns tys ms tms hw hm (hf a (by simp)) (by omega)
    obtain ⟨is, e2, e2', f2, f2', k1, k2, k3, k4, k5, k6, k7, k8⟩ := addMs_spec r l (ns ++ e) (tys ++ e') (ms ++ f) (tms ++ f') g2 g3 (fun x hx => hf x (by simp [hx])) (by omega)
    have hi := (List.getElem?_eq_some_iff.1 g4).1
    refine ⟨(i : Int) :: is, e ++ e2, e' ++ e2', f ++ f2, f' ++ f2', ?_, by rw [← List.append_assoc, ← List.append_assoc]; exact k2, by rw [← List.append_assoc, ← List.append_assoc, ← List.append_assoc]; exact k3, ?_, ?_, ?_, ?_, ?_⟩
    · simp only [addMs, g1, k1, List.append_assoc]
    · rw [← List.append_assoc]
      refine blw_iff.2 fun j hj => ?_
      rcases List.mem_cons.1 hj with rfl | hj
      · simp only [List.length_append] at hi ⊢; omega
      · exact blw_iff.1 k4 j hj
    · rw [← List.append_assoc]
      simp only [List.map_cons, k5, List.cons.injEq, and_true, Int.toNat_natCast]
      rw [getD_app _ _ _ hi, List.getD_eq_getElem?_getD, g4]; rfl
    · intro t ht
      simp only [Tm.typss]
      rcases List.mem_append.1 ht with ht | ht
      · exact List.mem_append_left _ (g5 t ht)
      · exact List.mem_append_right _ (k6 t ht)
    · intro x hx
      simp only [Tm.ers, Tm.partss]
      rcases List.mem_append.1 hx with hx | hx
      · exact List.mem_append_left _ (g6 x hx)
      · exact List.mem_append_right _ (k7 x hx)
    · intro h
      obtain ⟨h1, h2⟩ := g7 (h a (by simp))
      obtain ⟨h3, h4⟩ := k8 fun x hx => List.mem_append_left _ (h x (by simp [hx]))
      rw [h1, h2, h3, h4]; exact ⟨rfl, rfl⟩
end
end Go.Proofs.Ytpgecpmonaldiaa.Fw

namespace Go.Proofs.Ytpgecpmonaldiaa.Fw
open Go Go.Proofs

def noS : AStore := .mk [] []
/-- a store with the types and terms that it holds -/
structure Sto (a : AStore) (tys : List Ty) (tms : List Tm) : Prop where
  wt : WT a.types tys
  wm : WM tys a.terms tms
  few : a.few = true
theorem Sto.of {a : AStore} (h1 : a.few = true) (h2 : a.wf = true) : Sto a (decT [] a.types) (decE (decT [] a.types) [] a.terms) := by
  simp only [AStore.wf, Bool.and_eq_true] at h2
  have hw := WT.of h2.1
  exact ⟨hw, WM.of (by rw [hw.len]; exact h2.2), h1⟩
theorem Sto.wf {a : AStore} {tys : List Ty} {tms : List Tm} (h : Sto a tys tms) : a.wf = true := by
  simp only [AStore.wf, Bool.and_eq_true]
  exact ⟨h.wt.open, by rw [← h.wt.len]; exact h.wm.open⟩
theorem noS_Sto : Sto noS [] [] := ⟨.nil, .nil, rfl⟩
theorem few_iff {a : AStore} : a.few = true ↔ a.types.length ≤ 4096 ∧ a.terms.length ≤ 4096 := by simp [AStore.few]
theorem Name_small {s : ByteArray} (h : Name s = true) : s.size ≤ big := by
  simp only [Name, Bool.and_eq_true, decide_eq_true_eq] at h
  simp only [big]; omega
theorem fineN.name {n : MN} {k nt : Int} (h : fineN n k nt) : n.name = ByteArray.empty ∨ cname n.name = true := by
  have := h.kd
  simp only [fineK] at this
  by_cases h3 : n.kind = 3
  · simp only [h3, if_true, Bool.and_eq_true, decide_eq_true_eq] at this
    exact .inl this.2.1
  · by_cases h4 : n.kind = 4
    · rw [if_neg h3, if_pos h4] at this
      simp only [Bool.and_eq_true, decide_eq_true_eq] at this
      exact .inl this.2.1
    · rw [if_neg h3, if_neg h4] at this
      simp only [Bool.and_eq_true, decide_eq_true_eq] at this
      exact .inr this.2.2.2
theorem Sto.thin {a : AStore} {tys : List Ty} {tms : List Tm} (h : Sto a tys tms) : a.thin := by
  obtain ⟨h1, h2⟩ := few_iff.1 h.few
  refine ⟨by omega, by omega, fun n hn => ?_, fun n hn => ?_⟩
  · obtain ⟨i, hi⟩ := List.getElem?_of_mem hn
    obtain ⟨-, -, g⟩ := h.wt.node hi
    have hv := g.val
    simp only [Ty.valid, Ty.shape, Ty.head, Bool.and_eq_true] at hv
    exact ⟨Name_small hv.2.1.1, by have := g.len; omega⟩
  · obtain ⟨i, hi⟩ := List.getElem?_of_mem hn
    obtain ⟨-, g⟩ := h.wm.node hi
    refine ⟨?_, by have := g.len; omega⟩
    rcases g.name with e | e
    · rw [e]; simp [big]
    · simp only [cname, Bool.and_eq_true] at e; exact Name_small e.1
mutual
theorem tsize_le : ∀ (a : Tm) (l : List Ty), (Tm.formed l a).2 = true → a.tsize ≤ 500 * a.size
  | .mk k n t i xs, l, h => by
    obtain ⟨l', F⟩ := formed_FN h
    have hx := tsizes_le xs l' F.subs
    have ht : t.size ≤ 500 := by
      rcases F.kd with q | q | q
      · rw [q.2.2.1]; decide
      · rw [q.2.2.1]; decide
      · have := q.2.2.1
        simp only [Ty.valid, Ty.small, Bool.and_eq_true, decide_eq_true_eq] at this
        exact this.1.1
    simp only [Tm.tsize, Tm.size]; omega
theorem tsizes_le : ∀ (xs : List Tm) (l : List Ty), (∀ x ∈ xs, (Tm.formed l x).2 = true) → Tm.tsizes xs ≤ 500 * Tm.sizes xs
  | [], l, h => by simp [Tm.tsizes, Tm.sizes]
  | a :: r, l, h => by
    have h1 := tsize_le a l (h a (by simp))
    have h2 := tsizes_le r l (fun x hx => h x (by simp [hx]))
    simp only [Tm.tsizes, Tm.sizes]; omega
end
def AddS (a : AStore) (t : Tm) : AStore × Int × Int :=
  if a.few = true then
    if a.wf = true then
      if t.check = 0 then
        match addM t a.types a.terms with
        | (i, ns, ms) => if (AStore.mk ns ms).few = true then (.mk ns ms, i, 0) else (noS, 0, 4)
      else (noS, 0, t.check)
    else (noS, 0, 8)
  else (noS, 0, 4)
def FindS (a : AStore) (t : Tm) : Int × Bool × Int :=
  if a.few = true then
    if a.wf = true then
      if t.check = 0 then (if (addM t a.types a.terms).1 < a.terms.length then ((addM t a.types a.terms).1, true, 0) else (0, false, 0))
      else (0, false, t.check)
    else (0, false, 8)
  else (0, false, 4)
theorem check_zero' {t : Tm} (h : t.check = 0) : t.size ≤ 32000 ∧ t.depth ≤ 300 ∧ (Tm.formed [] t).2 = true := by
  obtain ⟨h1, h2⟩ := Tm.check_zero.1 h
  have := Tm.small_depth h1
  exact ⟨this.1, this.2, h2⟩
theorem hash_Add_eq (a : AStore) (h : a.thin) (t : Tm) (hok : t.ok) (hs : t.size ≤ lim) (ht : t.tys) : hash_Add a t = some (AddS a t) := by
  unfold hash_Add AddS
  rw [open_eq a h, bs]
  by_cases h1 : a.few = true
  · rw [if_pos h1, if_pos h1]
    by_cases h2 : a.wf = true
    · rw [if_pos h2, if_pos h2]
      simp only [hash_Add_j0c]
      rw [terms_Check_eq t hok hs ht, bs]
      by_cases h3 : t.check = 0
      · rw [if_neg (by simp [h3]), if_pos h3]
        obtain ⟨c1, c2, c3⟩ := check_zero' h3
        have c4 := tsize_le t [] c3
        obtain ⟨f1, f2⟩ := few_iff.1 h1
        rw [hash_add_eq t a.types a.terms (by simp only [lim]; omega) (by simp only [lim]; omega), bs]
        simp only [hash_table_done_io, ATypeNode.Ds_len, ATermNode.Ds_len]
        generalize addM t a.types a.terms = g
        obtain ⟨i, ns, ms⟩ := g
        simp only [few_iff]
        by_cases q1 : ns.length ≤ 4096
        · rw [if_neg (show ¬ (4096 : Int) < (ns.length : Int) by omega)]
          by_cases q2 : ms.length ≤ 4096
          · rw [if_neg (show ¬ (4096 : Int) < (ms.length : Int) by omega), if_pos ⟨q1, q2⟩]; rfl
          · rw [if_pos (show (4096 : Int) < (ms.length : Int) by omega), if_neg (fun h => q2 h.2)]; rfl
        · rw [if_pos (show (4096 : Int) < (ns.length : Int) by omega), if_neg (fun h => q1 h.1)]; rfl
      · rw [if_pos h3, if_neg h3]; rfl
    · rw [if_neg h2, if_neg h2]; rfl
  · rw [if_neg h1, if_neg h1]; rfl
theorem hash_Find_eq (a : AStore) (h : a.thin) (t : Tm) (hok : t.ok) (hs : t.size ≤ lim) (ht : t.tys) : hash_Find a t = some (FindS a t) := by
  unfold hash_Find FindS
  rw [open_eq a h, bs]
  by_cases h1 : a.few = true
  · rw [if_pos h1, if_pos h1]
    by_cases h2 : a.wf = true
    · rw [if_pos h2, if_pos h2]
      simp only [hash_Find_j0c]
      rw [terms_Check_eq t hok hs ht, bs]
      by_cases h3 : t.check = 0
      · rw [if_neg (by simp [h3]), if_pos h3]
        obtain ⟨c1, c2, c3⟩ := check_zero' h3
        have c4 := tsize_le t [] c3
        obtain ⟨f1, f2⟩ := few_iff.1 h1
        rw [hash_add_eq t a.types a.terms (by simp only [lim]; omega) (by simp only [lim]; omega), bs]
        simp only [ATermNode.Ds_len]
        split <;> rfl
      · rw [if_pos h3, if_neg h3]
    · rw [if_neg h2, if_neg h2]; rfl
  · rw [if_neg h1, if_neg h1]; rfl
theorem hash_Check_eq (a : AStore) (h : a.thin) : hash_Check a = some (if a.few = true then (if a.wf = true then 0 else 8) else 4) := by
  unfold hash_Check
  rw [open_eq a h, bs]
  by_cases h1 : a.few = true
  · rw [if_pos h1, if_pos h1]
    by_cases h2 : a.wf = true
    · rw [if_pos h2, if_pos h2]
    · rw [if_neg h2, if_neg h2]
  · rw [if_neg h1, if_neg h1]
/-- what Add does to a store -/
structure Added (a : AStore) (t : Tm) (tys : List Ty) (tms : List Tm) (i : Nat) (e : List TN) (e' : List Ty) (f : List MN) (f' : List Tm) : Prop where
  st : Sto (.mk (a.types ++ e) (a.terms ++ f)) (tys ++ e') (tms ++ f')
  at_ : (tms ++ f')[i]? = some t.er
  tyn : ∀ q ∈ e', q ∈ t.typs
  tmn : ∀ x ∈ f', x ∈ t.er.parts
  old : t.er ∈ tms → e = [] ∧ f = []
theorem addM_St {a : AStore} {t : Tm} {tys : List Ty} {tms : List Tm} (hs : Sto a tys tms) (hc : t.check = 0) :
    ∃ (i : Nat) (e : List TN) (e' : List Ty) (f : List MN) (f' : List Tm), addM t a.types a.terms = ((i : Int), a.types ++ e, a.terms ++ f) ∧ WT (a.types ++ e) (tys ++ e') ∧ WM (tys ++ e') (a.terms ++ f) (tms ++ f') ∧ (tms ++ f')[i]? = some t.er ∧ (∀ t' ∈ e', t' ∈ t.typs) ∧ (∀ x ∈ f', x ∈ t.er.parts) ∧ (t.er ∈ tms → e = [] ∧ f = []) := by
  obtain ⟨c1, c2, c3⟩ := check_zero' hc
  exact addM_spec t [] a.types tys a.terms tms hs.wt hs.wm c3 (by simpa using c2)
theorem AddS_ok {a : AStore} {t : Tm} (h : (AddS a t).2.2 = 0) : t.check = 0 ∧ ∃ tys tms, Sto a tys tms ∧ ∃ (i : Nat) (e : List TN) (e' : List Ty) (f : List MN) (f' : List Tm), AddS a t = (.mk (a.types ++ e) (a.terms ++ f), (i : Int), 0) ∧ Added a t tys tms i e e' f f' := by
  unfold AddS at h ⊢
  by_cases h1 : a.few = true
  · rw [if_pos h1] at h ⊢
    by_cases h2 : a.wf = true
    · rw [if_pos h2] at h ⊢
      by_cases h3 : t.check = 0
      · rw [if_pos h3] at h ⊢
        refine ⟨h3, _, _, Sto.of h1 h2, ?_⟩
        obtain ⟨i, e, e', f, f', g1, g2, g3, g4, g5, g6, g7⟩ := addM_St (Sto.of h1 h2) h3
        rw [g1] at h ⊢
        simp only at h ⊢
        by_cases h4 : (AStore.mk (a.types ++ e) (a.terms ++ f)).few = true
        · rw [if_pos h4]
          exact ⟨i, e, e', f, f', rfl, ⟨⟨g2, g3, h4⟩, g4, g5, g6, g7⟩⟩
        · rw [if_neg h4] at h; cases h
      · rw [if_neg h3] at h; exact absurd h h3
    · rw [if_neg h2] at h; cases h
  · rw [if_neg h1] at h; cases h
theorem AddS_err {a : AStore} {t : Tm} (h : ¬ (AddS a t).2.2 = 0) : (AddS a t).1 = noS := by
  unfold AddS at h ⊢
  by_cases h1 : a.few = true
  · rw [if_pos h1] at h ⊢
    by_cases h2 : a.wf = true
    · rw [if_pos h2] at h ⊢
      by_cases h3 : t.check = 0
      · rw [if_pos h3] at h ⊢
        generalize addM t a.types a.terms = g at h ⊢
        obtain ⟨i, ns, ms⟩ := g
        simp only at h ⊢
        by_cases h4 : (AStore.mk ns ms).few = true
        · rw [if_pos h4] at h; exact absurd rfl h
        · rw [if_neg h4]
      · rw [if_neg h3]
    · rw [if_neg h2]
  · rw [if_neg h1]
theorem AddS_thin (a : AStore) (t : Tm) : (AddS a t).1.thin := by
  by_cases h : (AddS a t).2.2 = 0
  · obtain ⟨_, _, _, _, _, _, _, _, _, h1, h2⟩ := AddS_ok h
    rw [h1]; exact h2.st.thin
  · rw [AddS_err h]; exact noS_Sto.thin
/-- a term that is there already -/
theorem AddS_old {a : AStore} {tys : List Ty} {tms : List Tm} (hs : Sto a tys tms) {t : Tm} (hc : t.check = 0) {i : Nat} (hi : tms[i]? = some t.er) : AddS a t = (a, (i : Int), 0) ∧ FindS a t = ((i : Int), true, 0) := by
  obtain ⟨j, e, e', f, f', g1, g2, g3, g4, g5, g6, g7⟩ := addM_St hs hc
  obtain ⟨rfl, rfl⟩ := g7 (List.mem_of_getElem? hi)
  have hj : j = i := by
    have hu := g3.uniq g2.uniq
    refine hu _ _ _ g4 ?_
    rw [List.getElem?_append_left (List.getElem?_eq_some_iff.1 hi).1, hi]
  subst hj
  rw [List.append_nil, List.append_nil] at g1
  have hlt : j < a.terms.length := by rw [← hs.wm.len]; exact (List.getElem?_eq_some_iff.1 hi).1
  unfold AddS FindS
  rw [if_pos hs.few, if_pos hs.wf, if_pos hc, if_pos hs.few, if_pos hs.wf, if_pos hc, g1]
  simp only
  rw [if_pos hs.few, if_pos (by omega)]
  exact ⟨rfl, rfl⟩
/-! ### equal terms -/
theorem icmp_zero {a b : Int} : icmp a b = 0 ↔ a = b := by unfold icmp; constructor <;> intro h <;> (repeat' split at h) <;> first | omega | (subst h; simp)
theorem ncmp_zero {a b : ByteArray} : ncmp a b = 0 ↔ a = b := by
  unfold ncmp
  constructor
  · intro h
    split at h
    · assumption
    · split at h <;> cases h
  · intro h; rw [if_pos h]
theorem ors_zero : ∀ {L : List Int}, ors L = 0 ↔ ∀ x ∈ L, x = 0
  | [] => by simp [ors]
  | a :: r => by
    simp only [ors]
    by_cases h : a = 0
    · simp [h, ors_zero (L := r)]
    · simp [h]
mutual
theorem cmp_er : ∀ a b : Tm, Tm.cmp a b = 0 ↔ a.er = b.er
  | .mk k n t i xs, .mk k' n' t' i' ys => by
    simp only [Tm.cmp, Tm.er, Tm.mk.injEq]
    have hh : Tm.hd k n t i xs.length k' n' t' i' ys.length = 0 ↔ k = k' ∧ (if k = 5 then ByteArray.empty else n) = (if k' = 5 then ByteArray.empty else n') ∧ t = t' ∧ i = i' ∧ xs.length = ys.length := by
      rw [Tm.hd, ors_zero]
      simp only [List.mem_cons, List.not_mem_nil, or_false, forall_eq_or_imp, forall_eq, icmp_zero, Ty.cmp_zero]
      constructor
      · rintro ⟨rfl, h2, h3, h4, h5⟩
        refine ⟨rfl, ?_, h3, h4, by omega⟩
        by_cases h : k = 5
        · rw [if_pos h, if_pos h]
        · rw [if_neg h] at h2; rw [if_neg h, if_neg h]; exact ncmp_zero.1 h2
      · rintro ⟨rfl, h2, h3, h4, h5⟩
        refine ⟨rfl, ?_, h3, h4, by omega⟩
        by_cases h : k = 5
        · rw [if_pos h]
        · rw [if_neg h, if_neg h] at h2; rw [if_neg h]; exact ncmp_zero.2 h2
    by_cases h0 : Tm.hd k n t i xs.length k' n' t' i' ys.length = 0
    · rw [if_neg (by simp [h0])]
      obtain ⟨h1, h2, h3, h4, h5⟩ := hh.1 h0
      rw [cmps_er xs ys h5]
      simp [h1, h2, h3, h4]
      intro _
      have := h2
      simp [h1] at this
      simpa using this
    · rw [if_pos h0]
      refine ⟨fun h => absurd h h0, fun ⟨h1, h2, h3, h4, h5⟩ => absurd (hh.2 ⟨h1, h2, h3, h4, ?_⟩) h0⟩
      have := congrArg List.length h5
      simpa [Tm.ers_map] using this
theorem cmps_er : ∀ xs ys : List Tm, xs.length = ys.length → (Tm.cmps xs ys = 0 ↔ Tm.ers xs = Tm.ers ys)
  | [], [], _ => by simp [Tm.cmps, Tm.ers]
  | a :: r, b :: q, h => by
    simp only [Tm.cmps, Tm.ers, List.cons.injEq]
    by_cases h0 : Tm.cmp a b = 0
    · rw [if_neg (by simp [h0]), cmps_er r q (by simpa using h)]
      simp [(cmp_er a b).1 h0]
    · rw [if_pos h0]
      exact ⟨fun h => absurd h h0, fun h => absurd ((cmp_er a b).2 h.1) h0⟩
  | [], _ :: _, h => by simp at h
  | _ :: _, [], h => by simp at h
end
theorem beq_er (a b : Tm) : Tm.beq a b = true ↔ a.er = b.er := by simp only [Tm.beq, decide_eq_true_eq, cmp_er]
theorem counts_posH (d : Nat) : ∀ (xs : List Tm) (l : Int), 0 < Tm.counts d l xs → ∀ x ∈ xs, ∃ l', 0 < Tm.count d l' x := by
  intro xs
  induction xs with
  | nil => intro l _ x hx; cases hx
  | cons a r ih =>
    intro l h x hx
    simp only [Tm.counts] at h
    split at h
    · have h1 : 0 < Tm.count d l a := by
        by_cases h1 : 0 < Tm.count d l a
        · exact h1
        · rw [Tm.counts_stop d _ r h1] at h; omega
      rcases List.mem_cons.1 hx with rfl | hx
      · exact ⟨l, h1⟩
      · exact ih _ h x hx
    · omega
theorem tyss_ofH {xs : List Tm} (h : ∀ x ∈ xs, x.tys) : Tm.tyss xs := by
  induction xs with
  | nil => trivial
  | cons a r ih => exact ⟨h a (by simp), ih fun x hx => h x (by simp [hx])⟩
theorem count_tysH : ∀ (d : Nat) (l : Int) (a : Tm), 0 < Tm.count d l a → a.tys := by
  intro d
  induction d with
  | zero => intro l a h; simp only [Tm.count] at h; omega
  | succ d ih =>
    rintro l ⟨k, n, t, i, xs⟩ h
    simp only [Tm.count] at h
    split at h
    · omega
    · rename_i hg
      have := (Ty.great_size t (by simpa using hg)).1
      exact ⟨by simp only [tlim]; omega, tyss_ofH fun x hx => let ⟨l', h'⟩ := counts_posH d xs _ h x hx; ih l' x h'⟩
theorem great_fineH {a : Tm} (h : a.ok) (hg : a.great = false) : a.fine := by
  simp only [Tm.great, Bool.and_eq_false_iff, Bool.not_eq_false', decide_eq_true_eq, Bool.or_eq_false_iff, decide_eq_false_iff_not] at hg
  rcases hg with hg | ⟨hg, _⟩
  · have := (Tm.count_size 400 2000 a hg).1
    exact ⟨h, count_tysH _ _ _ hg, by omega⟩
  · have := (Tm.count_size 400 40000 a (by omega)).1
    exact ⟨h, count_tysH 400 40000 a (by omega), by omega⟩

end Go.Proofs.Ytpgecpmonaldiaa.Fw

namespace Go.Proofs.Ytpgecpmonaldiaa.Fw
open Go Go.Proofs

theorem tmSizes_sum : ∀ xs : List Tm, Tm.sizes xs = (xs.map Tm.size).sum
  | [] => rfl
  | a :: r => by simp [Tm.sizes, tmSizes_sum r]
theorem tmDepths_max : ∀ xs : List Tm, Tm.depths xs = maxl (xs.map Tm.depth)
  | [] => rfl
  | a :: r => by simp [Tm.depths, maxl, tmDepths_max r]
theorem nodeE_size {tys : List Ty} {tms : List Tm} {n : MN} (h : ∀ j ∈ n.sub, 0 ≤ j ∧ j < tms.length) : (nodeE tys tms n).size = 1 + (n.sub.map fun j => (tms.map Tm.size).getD j.toNat 0).sum := by
  simp only [nodeE, Tm.size, tmSizes_sum, List.map_map]
  congr 2
  refine List.map_congr_left fun j hj => ?_
  rw [getD_map' Tm.size tms zTm 0 (by have := h j hj; omega)]; rfl
theorem nodeE_depth {tys : List Ty} {tms : List Tm} {n : MN} (h : ∀ j ∈ n.sub, 0 ≤ j ∧ j < tms.length) : (nodeE tys tms n).depth = 1 + maxl (n.sub.map fun j => (tms.map Tm.depth).getD j.toNat 0) := by
  simp only [nodeE, Tm.depth, tmDepths_max, List.map_map]
  congr 2
  refine List.map_congr_left fun j hj => ?_
  rw [getD_map' Tm.depth tms zTm 0 (by have := h j hj; omega)]; rfl
def capM (tms : List Tm) : List Int := (tms.map Tm.size).map cS
def capMD (tms : List Tm) : List Int := (tms.map Tm.depth).map cD
theorem nodeE_take {tys : List Ty} {tms : List Tm} {n : MN} {k : Nat} (h : blw n.sub k = true) (hk : k ≤ tms.length) : nodeE tys (tms.take k) n = nodeE tys tms n := by
  have := nodeE_tms (tys := tys) (tms := tms.take k) (e := tms.drop k) (n := n) (blw_mono h (by simp; omega))
  rw [List.take_append_drop] at this
  exact this.symm
theorem size_l {tys : List Ty} {ms : List MN} {tms : List Tm} (h : WM tys ms tms) (i : Nat) (hi : i < ms.length) (hl : ms.length ≤ lim) (b0 : List TN) (b1 : List MN) (b3 : List (HashTypeKey × Int)) (b4 : List (HashTermKey × Int)) : ∀ (j k : Nat), k + j = i + 1 →
    hash_table_size_io_l0 ((ms.take (i + 1)).drop k) (capM (tms.take k)) (capMD (tms.take k)) i b0 b1 b3 b4 = hash_table_size_io_j0 i b0 b1 b3 b4 (capM (tms.take (i + 1))) (capMD (tms.take (i + 1)))
  | 0, k, hk => by
    have : k = i + 1 := by omega
    subst this
    rw [hash_table_size_io_l0_eq, List.drop_eq_nil_of_le (by simp; omega)]
  | j + 1, k, hk => by
    simp only [lim] at hl
    have hlm := h.len
    have hkl : k < (ms.take (i + 1)).length := by simp; omega
    rw [hash_table_size_io_l0_eq, List.drop_eq_getElem_cons hkl]
    simp only []
    have hn : ms[k]? = some (ms.take (i + 1))[k] := by rw [List.getElem_take, ← List.getElem?_eq_getElem]
    obtain ⟨g1, g2⟩ := h.node hn
    generalize (ms.take (i + 1))[k] = n at *
    have hb := blw_iff.1 g2.bel
    have hm := hash_measure_eq ((tms.take k).map Tm.size) ((tms.take k).map Tm.depth) (by simp) n.sub (fun q hq => by have := hb q hq; simp; omega) (by have := g2.len; omega)
    rw [capM, capMD, hm, bs]
    simp only []
    have hb' : ∀ q ∈ n.sub, 0 ≤ q ∧ q < (tms.take k).length := fun q hq => by have := hb q hq; simp; omega
    rw [← nodeE_size (tys := tys) hb', ← nodeE_depth (tys := tys) hb', nodeE_take g2.bel (by omega), app_ok (by simp; omega), bs, app_ok (by simp; omega), bs]
    have ih := size_l h i hi (by simp only [lim]; omega) b0 b1 b3 b4 j (k + 1) (by omega)
    have ht : tms.take (k + 1) = tms.take k ++ [nodeE tys tms n] := by
      have hk2 : k < tms.length := (List.getElem?_eq_some_iff.1 g1).1
      rw [List.take_succ_eq_append_getElem hk2]
      have := (List.getElem?_eq_some_iff.1 g1).2
      rw [this]
    have e1 : (tms.take k |>.map Tm.size |>.map cS) ++ [cS (nodeE tys tms n).size] = capM (tms.take (k + 1)) := by rw [ht]; simp [capM]
    have e2 : (tms.take k |>.map Tm.depth |>.map cD) ++ [cD (nodeE tys tms n).depth] = capMD (tms.take (k + 1)) := by rw [ht]; simp [capMD]
    rw [e1, e2]
    exact ih
theorem table_size_eq {a : AStore} {tys : List Ty} {tms : List Tm} (h : Sto a tys tms) {i : Nat} {x : Tm} (hi : tms[i]? = some x) (hs : x.size ≤ 32000) (hd : x.depth ≤ 300) (b0 : List TN) (b3 : List (HashTypeKey × Int)) (b4 : List (HashTermKey × Int)) :
    hash_table_size_io i b0 a.terms b3 b4 = some ((x.size : Int), 0, b0, a.terms, b3, b4) := by
  obtain ⟨f1, f2⟩ := few_iff.1 h.few
  have hlt : i < a.terms.length := by rw [← h.wm.len]; exact (List.getElem?_eq_some_iff.1 hi).1
  unfold hash_table_size_io
  simp only [ATermNode.Ds_len]
  rw [if_neg (show ¬ (i : Int) < 0 by omega), if_neg (show ¬ (a.terms.length : Int) ≤ (i : Int) by omega), bs, wr (by omega) (by omega), cut, if_pos (by omega), bs]
  have := size_l h.wm i hlt (by simp only [lim]; omega) b0 a.terms b3 b4 (i + 1) 0 (by omega)
  simp only [List.take_zero, List.drop_zero] at this
  have e : ((i : Int) + 1).toNat = i + 1 := by omega
  simp only [e, Int.toNat_zero, List.drop_zero]
  have this : hash_table_size_io_l0 (a.terms.take (i + 1)) [] [] i b0 a.terms b3 b4 = _ := this
  rw [this]
  unfold hash_table_size_io_j0
  have g1 : geti (capM (tms.take (i + 1))) (i : Int) = some (cS x.size) := by
    rw [geti_nat, capM, List.getElem?_map, List.getElem?_map, List.getElem?_take, if_pos (by omega), hi]; rfl
  have g2 : geti (capMD (tms.take (i + 1))) (i : Int) = some (cD x.depth) := by
    rw [geti_nat, capMD, List.getElem?_map, List.getElem?_map, List.getElem?_take, if_pos (by omega), hi]; rfl
  rw [g1, bs, g2, if_neg (by simp only [cS]; omega), bs, if_neg (by simp only [cD]; omega), bs]
  simp only [cS, Option.some.injEq, Prod.mk.injEq, and_true]
  omega
theorem hash_Size_at {a : AStore} {tys : List Ty} {tms : List Tm} (h : Sto a tys tms) {i : Nat} {x : Tm} (hi : tms[i]? = some x) (hs : x.size ≤ 32000) (hd : x.depth ≤ 300) : hash_Size a i = some ((x.size : Int), 0) := by
  unfold hash_Size
  rw [open_eq a h.thin, bs, if_pos h.few, if_pos h.wf]
  simp only [hash_Size_j0c]
  rw [table_size_eq h hi hs hd, bs]
/-! ### decoding -/
theorem typ_l {ns : List TN} {tys : List Ty} (ms : List MN) (b3 : List (HashTypeKey × Int)) (b4 : List (HashTermKey × Int)) (n : TN) : ∀ (js : List Int) (acc : List Ty),
    (∀ j ∈ js, hash_table_typ_io j ns ms b3 b4 = some (tys.getD j.toNat zTy, ns, ms, b3, b4)) → acc.length + js.length ≤ 100 →
    hash_table_typ_io_l0 js ns ms b3 b4 acc n = some (Ty.mk n.var n.name (acc ++ js.map fun j => tys.getD j.toNat zTy), ns, ms, b3, b4)
  | [], acc, h, hl => by rw [hash_table_typ_io_l0_eq]; simp
  | j :: r, acc, h, hl => by
    simp only [List.length_cons] at hl
    rw [hash_table_typ_io_l0_eq]; simp only []
    rw [h j (by simp), bs, app_ok (by simp; omega), bs]
    simp only []
    rw [typ_l ms b3 b4 n r _ (fun q hq => h q (by simp [hq])) (by simp; omega)]
    simp
theorem typ_io_eq {ns : List TN} {tys : List Ty} (h : WT ns tys) (ms : List MN) (b3 : List (HashTypeKey × Int)) (b4 : List (HashTermKey × Int)) : ∀ (i : Nat) (t : Ty), tys[i]? = some t → hash_table_typ_io i ns ms b3 b4 = some (t, ns, ms, b3, b4) := by
  intro i
  induction i using Nat.strongRecOn with
  | _ i ih =>
    intro t ht
    have hlt : i < ns.length := by rw [← h.len]; exact (List.getElem?_eq_some_iff.1 ht).1
    have hn := List.getElem?_eq_getElem hlt
    obtain ⟨g1, g2, g3⟩ := h.node hn
    rw [ht] at g1
    injection g1 with g1
    rw [hash_table_typ_io_eq, geti_nat, hn, bs, typ_l (tys := tys) ms b3 b4 _ _ [] (fun j hj => ?_) (by have := g3.len; simp; omega)]
    · rw [g1]; rfl
    · obtain ⟨q1, q2⟩ := blw_iff.1 g2 j hj
      have hl : j.toNat < tys.length := by have := h.len; omega
      have := ih j.toNat (by omega) _ (List.getElem?_eq_getElem hl)
      rw [Int.toNat_of_nonneg q1] at this
      rw [this, List.getD_eq_getElem?_getD, List.getElem?_eq_getElem hl]; rfl
mutual
/-- the names of abstractions are names -/
def Tm.ng : Tm → Prop
  | .mk k n t i xs => (k = 5 → cname n = true) ∧ Tm.ngs xs
def Tm.ngs : List Tm → Prop
  | [] => True
  | a :: r => a.ng ∧ Tm.ngs r
end
theorem ngs_mem : ∀ {xs : List Tm}, Tm.ngs xs ↔ ∀ x ∈ xs, x.ng
  | [] => by simp [Tm.ngs]
  | a :: r => by simp [Tm.ngs, ngs_mem (xs := r)]
theorem term_l {ns : List TN} {ms : List MN} {tms : List Tm} (b3 : List (HashTypeKey × Int)) (b4 : List (HashTermKey × Int)) (v : Bool) (s : ByteArray) (ts : List Ty) (n : MN) : ∀ (js : List Int) (acc : List Tm),
    (∀ j ∈ js, ∃ y : Tm, hash_table_term_io j ns ms b3 b4 = some (y, ns, ms, b3, b4) ∧ y.er = tms.getD j.toNat zTm ∧ y.ng) → acc.length + js.length ≤ 100 →
    ∃ ys : List Tm, hash_table_term_io_l0 js ns ms b3 b4 acc v s ts n = some (Tm.mk n.kind n.name (.mk v s ts) n.index (acc ++ ys), ns, ms, b3, b4) ∧ Tm.ers ys = (js.map fun j => tms.getD j.toNat zTm) ∧ Tm.ngs ys
  | [], acc, h, hl => ⟨[], by rw [hash_table_term_io_l0_eq]; simp, rfl, trivial⟩
  | j :: r, acc, h, hl => by
    simp only [List.length_cons] at hl
    obtain ⟨y, h1, h2, h3⟩ := h j (by simp)
    obtain ⟨ys, k1, k2, k3⟩ := term_l b3 b4 v s ts n r (acc ++ [y]) (fun q hq => h q (by simp [hq])) (by simp; omega)
    refine ⟨y :: ys, ?_, by simp [Tm.ers, h2, k2], ⟨h3, k3⟩⟩
    rw [hash_table_term_io_l0_eq]; simp only []
    rw [h1, bs, app_ok (by simp; omega), bs]
    simp only []
    rw [k1]; simp
theorem term_io_eq {ns : List TN} {tys : List Ty} (hw : WT ns tys) {ms : List MN} {tms : List Tm} (h : WM tys ms tms) (b3 : List (HashTypeKey × Int)) (b4 : List (HashTermKey × Int)) : ∀ (i : Nat) (x : Tm), tms[i]? = some x →
    ∃ y : Tm, hash_table_term_io i ns ms b3 b4 = some (y, ns, ms, b3, b4) ∧ y.er = x ∧ y.ng := by
  intro i
  induction i using Nat.strongRecOn with
  | _ i ih =>
    intro x hx
    have hlt : i < ms.length := by rw [← h.len]; exact (List.getElem?_eq_some_iff.1 hx).1
    have hn := List.getElem?_eq_getElem hlt
    obtain ⟨g1, g2⟩ := h.node hn
    generalize ms[i] = n at *
    rw [hx] at g1
    injection g1 with g1
    have main : ∀ (v : Bool) (s : ByteArray) (ts : List Ty), Ty.mk v s ts = tyOf tys n.type_ → ∃ y : Tm, hash_table_term_io_j0 ns ms b3 b4 v s ts n = some (y, ns, ms, b3, b4) ∧ y.er = x ∧ y.ng := fun v s ts ht => by
      obtain ⟨ys, k1, k2, k3⟩ := term_l (ns := ns) (ms := ms) (tms := tms) b3 b4 v s ts n n.sub [] (fun j hj => by
        obtain ⟨q1, q2⟩ := blw_iff.1 g2.bel j hj
        have hl : j.toNat < tms.length := by have := h.len; omega
        obtain ⟨y, p1, p2, p3⟩ := ih j.toNat (by omega) _ (List.getElem?_eq_getElem hl)
        rw [Int.toNat_of_nonneg q1] at p1
        exact ⟨y, p1, by rw [p2, List.getD_eq_getElem?_getD, List.getElem?_eq_getElem hl]; rfl, p3⟩) (by have := g2.len; simp; omega)
      refine ⟨_, by rw [hash_table_term_io_j0_eq, k1], ?_, ?_⟩
      · rw [g1]
        simp only [Tm.er, nodeE, Tm.mk.injEq, true_and, List.nil_append]
        exact ⟨ht, k2⟩
      · simp only [Tm.ng, List.nil_append]
        refine ⟨fun h5 => ?_, k3⟩
        have := g2.kd
        simp [fineK, h5] at this
        exact this.2.2.2
    rw [hash_table_term_io_eq, geti_nat, hn, bs]
    by_cases ht : 0 ≤ n.type_
    · rw [if_pos ht]
      have hl : n.type_.toNat < tys.length := by
        rcases g2.ty with ⟨_, q⟩ | ⟨_, _, q⟩ <;> omega
      have := typ_io_eq hw ms b3 b4 n.type_.toNat _ (List.getElem?_eq_getElem hl)
      rw [Int.toNat_of_nonneg ht] at this
      rw [this, bs]
      refine main _ _ _ ?_
      rw [tyOf, if_pos ht, List.getD_eq_getElem?_getD, List.getElem?_eq_getElem hl]
      simp only [Option.getD_some]
      generalize tys[n.type_.toNat] = q
      cases q; rfl
    · rw [if_neg ht]
      exact main _ _ _ (by rw [tyOf, if_neg ht]; rfl)
mutual
theorem er_size : ∀ a : Tm, a.er.size = a.size ∧ a.er.depth = a.depth
  | .mk k n t i xs => by
    have := ers_size xs
    simp only [Tm.er, Tm.size, Tm.depth]; omega
theorem ers_size : ∀ xs : List Tm, Tm.sizes (Tm.ers xs) = Tm.sizes xs ∧ Tm.depths (Tm.ers xs) = Tm.depths xs
  | [] => ⟨rfl, rfl⟩
  | a :: r => by
    have h1 := er_size a
    have h2 := ers_size r
    simp only [Tm.ers, Tm.sizes, Tm.depths]; omega
end
mutual
theorem er_tys : ∀ a b : Tm, a.er = b.er → a.tys → b.tys
  | .mk k n t i xs, .mk k' n' t' i' ys, h, ha => by
    simp only [Tm.er, Tm.mk.injEq] at h
    obtain ⟨rfl, _, rfl, _, h5⟩ := h
    exact ⟨ha.1, ers_tys xs ys h5 ha.2⟩
theorem ers_tys : ∀ xs ys : List Tm, Tm.ers xs = Tm.ers ys → Tm.tyss xs → Tm.tyss ys
  | [], [], _, _ => trivial
  | a :: r, b :: q, h, ha => by
    simp only [Tm.ers, List.cons.injEq] at h
    exact ⟨er_tys a b h.1 ha.1, ers_tys r q h.2 ha.2⟩
  | [], _ :: _, h, _ => by simp [Tm.ers] at h
  | _ :: _, [], h, _ => by simp [Tm.ers] at h
end
theorem cname_big {s : ByteArray} (h : cname s = true) : s.size ≤ big := by
  simp only [cname, Bool.and_eq_true] at h; exact Name_small h.1
theorem formed_subs4 {l : List Ty} {n : ByteArray} {t : Ty} {i : Int} {xs : List Tm} (h : (Tm.formed l (.mk 4 n t i xs)).2 = true) : ∀ x ∈ xs, (Tm.formed l x).2 = true := by
  simp only [Tm.formed] at h
  rw [if_neg (by omega), if_neg (by omega), if_pos trivial] at h
  split at h
  · rename_i hc
    obtain ⟨g1, g2, g3, g4⟩ := hc
    match xs, g4 with
    | [a, b], _ =>
      simp only [Tm.formeds] at h
      split at h
      · rename_i hab
        simp [hab.1, hab.2]
      · cases h
  · cases h
theorem formed_subs5 {l : List Ty} {n : ByteArray} {t : Ty} {i : Int} {xs : List Tm} (h : (Tm.formed l (.mk 5 n t i xs)).2 = true) : cname n = true ∧ ∀ x ∈ xs, (Tm.formed (t :: l) x).2 = true := by
  simp only [Tm.formed] at h
  rw [if_neg (by omega), if_neg (by omega), if_neg (by omega), if_pos trivial] at h
  split at h
  · rename_i hc
    obtain ⟨g1, g2, g3, g4⟩ := hc
    match xs, g4 with
    | [b], _ =>
      simp only [Tm.formeds, Bool.and_eq_true] at h
      exact ⟨g1, by simp [h.1]⟩
  · cases h
mutual
theorem er_formed : ∀ (a b : Tm) (l : List Ty), a.er = b.er → b.ng → (Tm.formed l a).2 = true → Tm.formed l b = Tm.formed l a
  | .mk k n t i xs, .mk k' n' t' i' ys, l, h, hb, hf => by
    simp only [Tm.er, Tm.mk.injEq] at h
    obtain ⟨rfl, h2, rfl, rfl, h5⟩ := h
    obtain ⟨hn, hg⟩ := hb
    have hl : ys.length = xs.length := by simpa [Tm.ers_map] using (congrArg List.length h5).symm
    by_cases h5' : k = 5
    · subst h5'
      obtain ⟨c1, c2⟩ := formed_subs5 hf
      have e := ers_formed xs ys (t :: l) h5 hg c2
      simp only [Tm.formed]
      rw [e, hl, c1, hn rfl]
      rw [if_neg (show ¬ ((5 : Int) = 1 ∨ (5 : Int) = 2) by omega), if_neg (show ¬ ((5 : Int) = 3) by omega), if_neg (show ¬ ((5 : Int) = 4) by omega)]
      rw [if_neg (show ¬ ((5 : Int) = 1 ∨ (5 : Int) = 2) by omega), if_neg (show ¬ ((5 : Int) = 3) by omega), if_neg (show ¬ ((5 : Int) = 4) by omega)]
    · rw [if_neg h5', if_neg h5'] at h2
      subst h2
      by_cases h4 : k = 4
      · subst h4
        have e := ers_formed xs ys l h5 hg (formed_subs4 hf)
        simp only [Tm.formed]
        rw [e, hl]
        simp
      · simp only [Tm.formed, if_neg h4, if_neg h5', hl]
theorem ers_formed : ∀ (xs ys : List Tm) (l : List Ty), Tm.ers xs = Tm.ers ys → Tm.ngs ys → (∀ x ∈ xs, (Tm.formed l x).2 = true) → Tm.formeds l ys = Tm.formeds l xs
  | [], [], l, _, _, _ => rfl
  | a :: r, b :: q, l, h, hb, hf => by
    simp only [Tm.ers, List.cons.injEq] at h
    simp only [Tm.formeds]
    rw [er_formed a b l h.1 hb.1 (hf a (by simp)), ers_formed r q l h.2 hb.2 (fun x hx => hf x (by simp [hx]))]
  | [], _ :: _, l, h, _, _ => by simp [Tm.ers] at h
  | _ :: _, [], l, h, _, _ => by simp [Tm.ers] at h
end
end Go.Proofs.Ytpgecpmonaldiaa.Fw

namespace Go.Proofs.Ytpgecpmonaldiaa.Fw
open Go Go.Proofs

mutual
theorem er_ok : ∀ a b : Tm, a.er = b.er → b.ng → a.ok → b.ok
  | .mk k n t i xs, .mk k' n' t' i' ys, h, hb, ha => by
    simp only [Tm.er, Tm.mk.injEq] at h
    obtain ⟨rfl, h2, rfl, rfl, h5⟩ := h
    obtain ⟨hn, hg⟩ := hb
    obtain ⟨g1, g2, g3, g4, g5, g6⟩ := ha
    have hl : ys.length = xs.length := by simpa [Tm.ers_map] using (congrArg List.length h5).symm
    refine ⟨g1, ?_, g3, g4, by omega, ers_ok xs ys h5 hg g6⟩
    by_cases hk : k = 5
    · exact cname_big (hn hk)
    · rw [if_neg hk, if_neg hk] at h2; rw [← h2]; exact g2
theorem ers_ok : ∀ xs ys : List Tm, Tm.ers xs = Tm.ers ys → Tm.ngs ys → Tm.oks xs → Tm.oks ys
  | [], [], _, _, _ => trivial
  | a :: r, b :: q, h, hb, ha => by
    simp only [Tm.ers, List.cons.injEq] at h
    exact ⟨er_ok a b h.1 hb.1 ha.1, ers_ok r q h.2 hb.2 ha.2⟩
  | [], _ :: _, h, _, _ => by simp [Tm.ers] at h
  | _ :: _, [], h, _, _ => by simp [Tm.ers] at h
end
theorem Get_at {a : AStore} {tys : List Ty} {tms : List Tm} (h : Sto a tys tms) {t : Tm} (hc : t.check = 0) (hok : t.ok) (ht : t.tys) {i : Nat} (hi : tms[i]? = some t.er) :
    ∃ y : Tm, hash_Get a i = some (y, 0) ∧ y.er = t.er ∧ y.ok := by
  obtain ⟨c1, c2, c3⟩ := check_zero' hc
  obtain ⟨z1, z2⟩ := er_size t
  obtain ⟨y, k1, k2, k3⟩ := term_io_eq h.wt h.wm (mapOf keyT 0 a.types) (mapOf keyM 0 a.terms) i _ hi
  have hy : y.ok := er_ok t y k2.symm k3 hok
  have hyt : y.tys := er_tys t y k2.symm ht
  obtain ⟨w1, w2⟩ := er_size y
  rw [k2] at w1 w2
  have hyc : y.check = 0 := by
    rw [Tm.check_zero, er_formed t y [] k2.symm k3 c3]
    refine ⟨?_, c3⟩
    simp only [Tm.small, Bool.and_eq_true, decide_eq_true_eq]; omega
  refine ⟨y, ?_, k2, hy⟩
  unfold hash_Get
  rw [open_eq a h.thin, bs, if_pos h.few, if_pos h.wf]
  simp only [hash_Get_j0c]
  rw [table_size_eq h hi (by omega) (by omega), bs]
  simp only [ne_eq, not_true_eq_false, if_false]
  rw [k1, bs]
  simp only []
  rw [terms_Check_eq y hy (by simp only [lim]; omega) hyt, bs, hyc]
  rfl
/-! ### stores that are the same -/
theorem ints_l (xs : List Int) : ∀ (j k : Nat), k + j = xs.length → sequentref31_ints_l0 (xs.drop k) k xs = some true
  | 0, k, h => by rw [sequentref31_ints_l0_eq, List.drop_eq_nil_of_le (by omega)]
  | j + 1, k, h => by
    obtain ⟨y, g1, g2⟩ := geti_drop (l := xs) (k := k) (n := j) h
    rw [sequentref31_ints_l0_eq, g2]
    simp only []
    rw [g1, bs, if_neg (by simp)]
    exact ints_l xs j (k + 1) (by omega)
theorem ints_self (xs : List Int) : sequentref31_ints xs xs = some true := by
  rw [sequentref31_ints, if_neg (by simp)]
  exact ints_l xs xs.length 0 (by omega)
theorem same_l1 (a : AStore) : ∀ (j k : Nat), k + j = a.terms.length → sequentref31_Same_l1 (a.terms.drop k) k a = some true
  | 0, k, h => by rw [sequentref31_Same_l1_eq, List.drop_eq_nil_of_le (by omega)]
  | j + 1, k, h => by
    obtain ⟨y, g1, g2⟩ := geti_drop (l := a.terms) (k := k) (n := j) h
    rw [sequentref31_Same_l1_eq, g2]
    simp only []
    have hs : sequentref31_sameTerm y y = some true := by
      unfold sequentref31_sameTerm
      simp only [ints_self, bs, if_true]
      split <;> rfl
    rw [g1, bs, hs, bs, if_pos rfl, bs, if_neg (by simp)]
    exact same_l1 a j (k + 1) (by omega)
theorem same_l0 (a : AStore) : ∀ (j k : Nat), k + j = a.types.length → sequentref31_Same_l0 (a.types.drop k) k a a = some true
  | 0, k, h => by
    rw [sequentref31_Same_l0_eq, List.drop_eq_nil_of_le (by omega)]
    exact same_l1 a a.terms.length 0 (by omega)
  | j + 1, k, h => by
    obtain ⟨y, g1, g2⟩ := geti_drop (l := a.types) (k := k) (n := j) h
    rw [sequentref31_Same_l0_eq, g2]
    simp only []
    have hs : sequentref31_sameType y y = some true := by
      unfold sequentref31_sameType
      simp only [ints_self, bs, if_true]
    rw [g1, bs, hs, bs, if_pos rfl]
    exact same_l0 a j (k + 1) (by omega)
theorem same_store (a : AStore) : sequentref31_Same a a = some true := by
  rw [sequentref31_Same, if_neg (by simp), if_neg (by simp)]
  exact same_l0 a a.types.length 0 (by omega)
/-! ### what a caller hands in -/
structure AStore.ok (a : AStore) : Prop where
  at_ : ∀ n ∈ a.types, n.name.size ≤ big
  am : ∀ n ∈ a.terms, n.name.size ≤ big
/-! ### the terms are the same -/
theorem uint8_self (a : Int) : cmp_Compare_uint8 a a = some 0 := by
  simp [cmp_Compare_uint8, cmp_isNaN_uint8, bs]
mutual
theorem terms_Compare_er : ∀ a b : Tm, a.er = b.er → terms_Compare a b = some 0
  | .mk k n t i xs, .mk k' n' t' i' ys, h => by
    simp only [Tm.er, Tm.mk.injEq] at h
    obtain ⟨rfl, h2, rfl, rfl, h5⟩ := h
    have hl : xs.length = ys.length := by simpa [Tm.ers_map] using congrArg List.length h5
    have hj : terms_Compare_j0 (.mk k n t i xs) (.mk k n' t i ys) = some 0 := by
      rw [terms_Compare_j0_eq]
      simp only [types_Compare_eq2, bs, cmp_int_eq, Tm.Ds_len, cmp_Or_eq]
      have e : ors [Ty.cmp t t, icmp i i, icmp (xs.length : Int) (ys.length : Int)] = 0 := by
        rw [ors_zero]; simp [Ty.cmp_zero, icmp_zero, hl]
      rw [e, if_neg (by simp), slices_CompareFunc_Term_Term_Term_Term__terms_Compare_eq, terms_cmp_er xs ys xs ys 0 h5 (by simp) hl (by omega)]
      rfl
    rw [terms_Compare_eq]
    simp only [uint8_self, bs, strings_Compare_eq]
    rw [if_neg (by simp)]
    by_cases hk : k = 5
    · rw [hj]; simp [hk]
    · rw [if_neg hk, if_neg hk] at h2
      subst h2
      rw [hj]
      have : bcmp n n = 0 := (bcmp_zero n n).2 rfl
      simp [this]
theorem terms_cmp_er : ∀ (xs ys xs0 ys0 : List Tm) (k : Nat), Tm.ers xs = Tm.ers ys → ys0.drop k = ys → xs0.length = ys0.length → k + xs.length = ys0.length → slices_CompareFunc_Term_Term_Term_Term__terms_Compare_l0 xs k xs0 ys0 = some 0
  | [], ys, xs0, ys0, k, h, hd, hl, hk => by
    rw [slices_CompareFunc_Term_Term_Term_Term__terms_Compare_l0_eq]; simp only [Tm.Ds_len, hl]; simp
  | a :: r, [], xs0, ys0, k, h, hd, hl, hk => by simp [Tm.ers] at h
  | a :: r, b :: q, xs0, ys0, k, h, hd, hl, hk => by
    simp only [Tm.ers, List.cons.injEq] at h
    simp only [List.length_cons] at hk
    obtain ⟨y, h1, h2⟩ := geti_drop (l := ys0) (k := k) (n := r.length) (by omega)
    rw [hd] at h2
    simp only [List.cons.injEq] at h2
    obtain ⟨rfl, h2⟩ := h2
    rw [slices_CompareFunc_Term_Term_Term_Term__terms_Compare_l0_eq]; simp only [Tm.Ds_len]
    rw [if_neg (by omega), h1, bs, terms_Compare_er a b h.1, bs, if_neg (by simp), terms_cmp_er r q xs0 ys0 (k + 1) h.2 h2.symm hl (by omega)]
end
theorem terms_Same_er {a b : Tm} (h : a.er = b.er) : terms_Same a b = some true := by rw [terms_Same, terms_Compare_er a b h, bs]; rfl
end Go.Proofs.Ytpgecpmonaldiaa.Fw

namespace Go.Proofs.Ytpgecpmonaldiaa.Fw
open Go Go.Proofs

def bA : ByteArray := ⟨#[39, 97]⟩
def bF : ByteArray := ⟨#[102]⟩
def bX : ByteArray := ⟨#[120]⟩
def tyA : Ty := .mk true bA []
def tF : Tm := .mk 1 bF (Ty.fn tyA tyA) 0 []
def tX : Tm := .mk 1 bX tyA 0 []
def tW : Tm := .mk 4 ByteArray.empty zTy 0 [tF, .mk 4 ByteArray.empty zTy 0 [tF, tX]]
def sW : AStore := .mk [.mk true bA [], .mk false bFun [0, 0]] [.mk 1 bF 1 0 [], .mk 1 bX 0 0 [], .mk 4 ByteArray.empty (-1) 0 [0, 1], .mk 4 ByteArray.empty (-1) 0 [0, 2]]
theorem twice_eq : sequentlaw31_twice = some tW := by
  unfold sequentlaw31_twice
  rw [show (Ty.mk true (ByteArray.mk #[39, 97]) ([] : List Ty)) = tyA from rfl, types_Fun_eq tyA tyA (by decide) (by decide)]
  rfl
theorem tW_ok : tW.ok := by
  refine ⟨by decide, by decide, ⟨by decide, by decide, trivial⟩, by decide, by decide, ?_, ?_, trivial⟩
  · exact ⟨by decide, by decide, ⟨by decide, by decide, ⟨by decide, by decide, trivial⟩, ⟨by decide, by decide, trivial⟩, trivial⟩, by decide, by decide, trivial⟩
  · refine ⟨by decide, by decide, ⟨by decide, by decide, trivial⟩, by decide, by decide, ?_, ?_, trivial⟩
    · exact ⟨by decide, by decide, ⟨by decide, by decide, ⟨by decide, by decide, trivial⟩, ⟨by decide, by decide, trivial⟩, trivial⟩, by decide, by decide, trivial⟩
    · exact ⟨by decide, by decide, ⟨by decide, by decide, trivial⟩, by decide, by decide, trivial⟩
theorem tW_tys : tW.tys := ⟨by decide, ⟨by decide, trivial⟩, ⟨by decide, ⟨by decide, trivial⟩, ⟨by decide, trivial⟩, trivial⟩, trivial⟩
theorem tW_check : tW.check = 0 := by decide
theorem tW_add : AddS noS tW = (sW, 3, 0) := by kernel_rfl
theorem sW_Sto : ∃ tys tms, Sto sW tys tms ∧ tms[3]? = some tW.er := by
  obtain ⟨hc, tys, tms, hs, i, e, e', f, f', h1, h2⟩ := AddS_ok (a := noS) (t := tW) (by rw [tW_add])
  rw [tW_add] at h1
  simp only [Prod.mk.injEq, and_true] at h1
  obtain ⟨g1, g2⟩ := h1
  have : i = 3 := by omega
  subst this
  exact ⟨_, _, g1 ▸ h2.st, h2.at_⟩
theorem sW_Shared : hash_Shared sW 3 = some (4, 0) := by
  obtain ⟨tys, tms, hs, hi⟩ := sW_Sto
  unfold hash_Shared
  rw [open_eq sW hs.thin, bs, if_pos hs.few, if_pos hs.wf]
  simp only [hash_Shared_j0c, ATermNode.Ds_len]
  rw [if_neg (by decide), if_neg (by decide), bs, show IntKind.i64.wrap (3 + 1) = ((4 : Nat) : Int) by decide]
  rw [show mkn false ((4 : Nat) : Int) = some [false, false, false, false] from rfl, bs, wantb, if_pos (by decide), bs, show seti [false, false, false, false] 3 true = some [false, false, false, true] from rfl, bs]
  rw [hash_Shared_l0_eq, if_pos (by decide), wantb, if_pos (by decide), bs, show geti [false, false, false, true] (3 : Int) = some true from rfl, bs, if_pos rfl, bs, show IntKind.i64.wrap (0 + 1) = 1 by decide, show geti sW.terms 3 = some (.mk 4 ByteArray.empty (-1) 0 [0, 2]) from rfl, bs]
  simp only []
  rw [hash_Shared_l1_eq]; simp only []
  rw [wantb, if_pos (by decide), bs, show seti [false, false, false, true] 0 true = some [true, false, false, true] from rfl, bs]
  rw [hash_Shared_l1_eq]; simp only []
  rw [wantb, if_pos (by decide), bs, show seti [true, false, false, true] 2 true = some [true, false, true, true] from rfl, bs]
  rw [hash_Shared_l1_eq]; simp only []
  rw [bs, show IntKind.i64.wrap (3 - 1) = 2 by decide]
  rw [hash_Shared_l0_eq, if_pos (by decide), wantb, if_pos (by decide), bs, show geti [true, false, true, true] (2 : Int) = some true from rfl, bs, if_pos rfl, bs, show IntKind.i64.wrap (1 + 1) = 2 by decide, show geti sW.terms 2 = some (.mk 4 ByteArray.empty (-1) 0 [0, 1]) from rfl, bs]
  simp only []
  rw [hash_Shared_l1_eq]; simp only []
  rw [wantb, if_pos (by decide), bs, show seti [true, false, true, true] 0 true = some [true, false, true, true] from rfl, bs]
  rw [hash_Shared_l1_eq]; simp only []
  rw [wantb, if_pos (by decide), bs, show seti [true, false, true, true] 1 true = some [true, true, true, true] from rfl, bs]
  rw [hash_Shared_l1_eq]; simp only []
  rw [bs, show IntKind.i64.wrap (2 - 1) = 1 by decide]
  rw [hash_Shared_l0_eq, if_pos (by decide), wantb, if_pos (by decide), bs, show geti [true, true, true, true] (1 : Int) = some true from rfl, bs, if_pos rfl, bs, show IntKind.i64.wrap (2 + 1) = 3 by decide, show geti sW.terms 1 = some (.mk 1 bX 0 0 []) from rfl, bs]
  simp only []
  rw [hash_Shared_l1_eq]; simp only []
  rw [bs, show IntKind.i64.wrap (1 - 1) = 0 by decide]
  rw [hash_Shared_l0_eq, if_pos (by decide), wantb, if_pos (by decide), bs, show geti [true, true, true, true] (0 : Int) = some true from rfl, bs, if_pos rfl, bs, show IntKind.i64.wrap (3 + 1) = 4 by decide, show geti sW.terms 0 = some (.mk 1 bF 1 0 []) from rfl, bs]
  simp only []
  rw [hash_Shared_l1_eq]; simp only []
  rw [bs, show IntKind.i64.wrap (0 - 1) = -1 by decide]
  rw [hash_Shared_l0_eq, if_neg (by decide)]
theorem alive_eq : sequentlaw31_alive = some true := by
  obtain ⟨tys, tms, hs, hi⟩ := sW_Sto
  unfold sequentlaw31_alive
  rw [twice_eq, bs, show (AStore.mk ([] : List ATypeNode) ([] : List ATermNode)) = noS from rfl, hash_Add_eq noS noS_Sto.thin tW tW_ok (by decide) tW_tys, bs, tW_add]
  simp only []
  have h1 := hash_Size_at hs hi (by rw [(er_size tW).1]; decide) (by rw [(er_size tW).2]; decide)
  obtain ⟨y, h2, h3, h4⟩ := Get_at hs tW_check tW_ok tW_tys hi
  have h1 : hash_Size sW 3 = some ((tW.er.size : Int), 0) := h1
  have h2 : hash_Get sW 3 = some (y, 0) := h2
  rw [h1, bs, sW_Shared, bs, h2, bs]
  simp only []
  have h5 : (tW.er.size : Int) = 5 := by rw [(er_size tW).1]; decide
  simp only [h5, if_true, bs, terms_Same_er h3]
  exact congrArg (fun o : Option Bool => o >>= some) (same_store sW)
end Go.Proofs.Ytpgecpmonaldiaa.Fw
