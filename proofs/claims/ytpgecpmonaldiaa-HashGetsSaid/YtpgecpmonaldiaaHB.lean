/- Terms in a store. -/
import Derived.Test.YtpgecpmonaldiaaHA
import Derived.Test.YtpgecpmonaldiaaMB
set_option autoImplicit false
set_option linter.unusedVariables false
set_option linter.unusedSimpArgs false
namespace Go.Proofs.Ytpgecpmonaldiaa.Fw
open Go Go.Proofs

mutual
/-- the term without the names of abstractions -/
def Tm.er : Tm → Tm
  | .mk k n t i xs => .mk k (if k = 5 then ByteArray.empty else n) t i (Tm.ers xs)
def Tm.ers : List Tm → List Tm
  | [] => []
  | a :: r => a.er :: Tm.ers r
end
theorem Tm.ers_map : ∀ xs : List Tm, Tm.ers xs = xs.map Tm.er
  | [] => rfl
  | a :: r => by simp [Tm.ers, Tm.ers_map r]
def tyOf (tys : List Ty) (j : Int) : Ty := if 0 ≤ j then tys.getD j.toNat zTy else zTy
def nodeE (tys : List Ty) (tms : List Tm) (n : MN) : Tm := .mk n.kind (if n.kind = 5 then ByteArray.empty else n.name) (tyOf tys n.type_) n.index (n.sub.map fun j => tms.getD j.toNat zTm)
structure fineN (n : MN) (k nt : Int) : Prop where
  ar : arity n.kind = some (n.sub.length : Int)
  bel : blw n.sub k = true
  kd : fineK n nt = true
theorem fineM_iff {n : MN} {k nt : Int} : fineM n k nt = true ↔ fineN n k nt := by
  simp only [fineM, Bool.and_eq_true]
  constructor
  · rintro ⟨h1, h2, h3⟩
    refine ⟨?_, h2, h3⟩
    cases ha : arity n.kind with
    | none => rw [ha] at h1; cases h1
    | some r => rw [ha] at h1; simp only [decide_eq_true_eq] at h1; rw [h1]
  · rintro ⟨h1, h2, h3⟩
    exact ⟨by rw [h1]; simp, h2, h3⟩
theorem arity_le {k r : Int} (h : arity k = some r) : r ≤ 2 := by
  simp only [arity] at h
  repeat' split at h
  all_goals first | (injection h with h; omega) | cases h
theorem fineN.len {n : MN} {k nt : Int} (h : fineN n k nt) : n.sub.length ≤ 2 := by have := arity_le h.ar; omega
theorem fineN.ty {n : MN} {k nt : Int} (h : fineN n k nt) : (n.kind = 3 ∨ n.kind = 4) ∧ n.type_ = -1 ∨ (¬ (n.kind = 3 ∨ n.kind = 4) ∧ 0 ≤ n.type_ ∧ n.type_ < nt) := by
  have := h.kd
  simp only [fineK] at this
  by_cases h3 : n.kind = 3
  · simp only [h3, if_true, Bool.and_eq_true, decide_eq_true_eq] at this
    exact .inl ⟨.inl h3, this.1⟩
  · by_cases h4 : n.kind = 4
    · rw [if_neg h3, if_pos h4] at this
      simp only [Bool.and_eq_true, decide_eq_true_eq] at this
      exact .inl ⟨.inr h4, this.1⟩
    · rw [if_neg h3, if_neg h4] at this
      simp only [Bool.and_eq_true, decide_eq_true_eq] at this
      exact .inr ⟨by simp [h3, h4], this.2.1, this.2.2.1⟩
theorem fineN.mono {n : MN} {k nt k' nt' : Int} (h : fineN n k nt) (hk : k ≤ k') (ht : nt ≤ nt') : fineN n k' nt' := by
  refine ⟨h.ar, blw_iff.2 fun j hj => by have := blw_iff.1 h.bel j hj; omega, ?_⟩
  have := h.kd
  simp only [fineK] at this ⊢
  by_cases h3 : n.kind = 3
  · simpa only [h3, if_true] using this
  · by_cases h4 : n.kind = 4
    · simpa only [h3, h4, if_true, if_false] using this
    · rw [if_neg h3, if_neg h4] at this ⊢
      simp only [Bool.and_eq_true, decide_eq_true_eq] at this ⊢
      exact ⟨this.1, this.2.1, by omega, this.2.2.2⟩
/-- nodes and the terms that they stand for -/
inductive WM (tys : List Ty) : List MN → List Tm → Prop
  | nil : WM tys [] []
  | snoc (ms : List MN) (tms : List Tm) (n : MN) : WM tys ms tms → fineN n ms.length tys.length → idxK keyM ms (keyM n) = none → WM tys (ms ++ [n]) (tms ++ [nodeE tys tms n])
def decE (tys : List Ty) : List Tm → List MN → List Tm
  | tms, [] => tms
  | tms, n :: r => decE tys (tms ++ [nodeE tys tms n]) r
theorem decE_snoc (tys : List Ty) (n : MN) : ∀ (ms : List MN) (tms : List Tm), decE tys tms (ms ++ [n]) = decE tys tms ms ++ [nodeE tys (decE tys tms ms) n]
  | [], tms => rfl
  | a :: r, tms => by simp only [List.cons_append, decE]; rw [decE_snoc tys n r]
theorem openM_snoc (nt : Int) (n : MN) : ∀ (ms pre : List MN), openM nt pre (ms ++ [n]) = (openM nt pre ms && (fineM n (pre.length + ms.length : Nat) nt && (idxK keyM (pre ++ ms) (keyM n)).isNone))
  | [], pre => by simp [openM]
  | a :: r, pre => by
    simp only [List.cons_append, openM]
    rw [openM_snoc nt n r]
    simp only [List.length_append, List.length_cons, List.length_nil, List.append_assoc, List.cons_append, List.nil_append, Bool.and_assoc]
    have : pre.length + (0 + 1) + r.length = pre.length + (r.length + 1) := by omega
    rw [this]
theorem WM.of {tys : List Ty} {ms : List MN} : openM tys.length [] ms = true → WM tys ms (decE tys [] ms) := by
  induction ms using snoc_ind with
  | h0 => intro _; exact .nil
  | h1 l a ih =>
    intro h
    rw [openM_snoc, Bool.and_eq_true, Bool.and_eq_true] at h
    rw [decE_snoc]
    exact .snoc _ _ _ (ih h.1) (fineM_iff.1 (by simpa using h.2.1)) (by simpa using h.2.2)
theorem WM.open {tys : List Ty} {ms : List MN} {tms : List Tm} (h : WM tys ms tms) : openM tys.length [] ms = true := by
  induction h with
  | nil => rfl
  | snoc ms tms n hw hk hi ih =>
    rw [openM_snoc, ih]
    simp [hi, fineM_iff.2 hk]
theorem WM.len {tys : List Ty} {ms : List MN} {tms : List Tm} (h : WM tys ms tms) : tms.length = ms.length := by
  induction h with
  | nil => rfl
  | snoc ms tms n _ _ _ ih => simp [ih]
theorem nodeE_tms {tys : List Ty} {tms e : List Tm} {n : MN} (h : blw n.sub tms.length = true) : nodeE tys (tms ++ e) n = nodeE tys tms n := by
  have hj := blw_iff.1 h
  simp only [nodeE, Tm.mk.injEq, true_and]
  exact List.map_congr_left fun j hq => getD_app _ _ _ (by have := hj j hq; omega)
theorem WM.node {tys : List Ty} {ms : List MN} {tms : List Tm} (h : WM tys ms tms) : ∀ {i : Nat} {n : MN}, ms[i]? = some n → tms[i]? = some (nodeE tys tms n) ∧ fineN n i tys.length := by
  induction h with
  | nil => intro i n h; simp at h
  | snoc ms tms m hw hk hi ih =>
    intro i n h
    have hl := hw.len
    rcases snoc_get h with ⟨h1, h2⟩ | ⟨h1, h2⟩
    · obtain ⟨g1, g2⟩ := ih h2
      refine ⟨by rw [List.getElem?_append_left (by omega), g1, nodeE_tms (blw_mono g2.bel (by omega))], g2⟩
    · subst h2; subst h1
      refine ⟨by rw [nodeE_tms (by rw [hl]; exact hk.bel), ← hl]; simp, hk⟩
theorem keyM_eq {n m : MN} (hn : n.sub.length ≤ 2) (hm : m.sub.length ≤ 2) (h : keyM n = keyM m) : n.kind = m.kind ∧ n.type_ = m.type_ ∧ n.index = m.index ∧ n.sub = m.sub ∧ (if n.kind = 5 then ByteArray.empty else n.name) = (if m.kind = 5 then ByteArray.empty else m.name) := by
  simp only [keyM, XK.mk.injEq] at h
  obtain ⟨h1, h2, h3, h4, h5, h6, h7⟩ := h
  refine ⟨h1, h3, h4, getD_ext (by omega) fun i hi => ?_, h2⟩
  have : i < 2 := by omega
  match i, this with
  | 0, _ => exact h6
  | 1, _ => exact h7
theorem keyM_of {n m : MN} (h : n.kind = m.kind ∧ n.type_ = m.type_ ∧ n.index = m.index ∧ n.sub = m.sub ∧ (if n.kind = 5 then ByteArray.empty else n.name) = (if m.kind = 5 then ByteArray.empty else m.name)) : keyM n = keyM m := by
  obtain ⟨h1, h2, h3, h4, h5⟩ := h
  simp only [keyM, XK.mk.injEq]
  exact ⟨h1, h5, h2, h3, by rw [h4], by rw [h4], by rw [h4]⟩
theorem nodeE_inj {tys : List Ty} (ht : Uniq tys) {tms : List Tm} (hu : Uniq tms) {n m : MN} (hn : fineN n tms.length tys.length) (hm : fineN m tms.length tys.length) (h : nodeE tys tms n = nodeE tys tms m) : keyM n = keyM m := by
  simp only [nodeE, Tm.mk.injEq] at h
  obtain ⟨h1, h2, h3, h4, h5⟩ := h
  refine keyM_of ⟨h1, ?_, h4, map_getD_inj hu zTm hn.bel hm.bel h5, h2⟩
  rcases hn.ty with ⟨a, b⟩ | ⟨a, b, c⟩ <;> rcases hm.ty with ⟨a', b'⟩ | ⟨a', b', c'⟩
  · rw [b, b']
  · rw [h1] at a; exact absurd a a'
  · rw [h1] at a; exact absurd a' a
  · simp only [tyOf, if_pos b, if_pos b'] at h3
    have l1 : n.type_.toNat < tys.length := by omega
    have l2 : m.type_.toNat < tys.length := by omega
    rw [List.getD_eq_getElem?_getD, List.getD_eq_getElem?_getD, List.getElem?_eq_getElem l1, List.getElem?_eq_getElem l2, Option.getD_some, Option.getD_some] at h3
    have := ht _ _ _ (List.getElem?_eq_getElem l1) (by rw [List.getElem?_eq_getElem l2, h3])
    omega
theorem WM.uniq {tys : List Ty} (ht : Uniq tys) {ms : List MN} {tms : List Tm} (h : WM tys ms tms) : Uniq tms := by
  induction h with
  | nil => intro i j x h; simp at h
  | snoc ms tms n hw hk hi ih =>
    refine ih.snoc fun hm => ?_
    obtain ⟨i, hi'⟩ := List.getElem?_of_mem hm
    have hlt : i < ms.length := by rw [← hw.len]; exact (List.getElem?_eq_some_iff.1 hi').1
    obtain ⟨g1, g2⟩ := hw.node (List.getElem?_eq_getElem hlt)
    rw [hi'] at g1
    injection g1 with g1
    have := nodeE_inj ht ih (by rw [hw.len]; exact hk) (g2.mono (by rw [hw.len]; omega) (Int.le_refl _)) g1
    exact (idxK_none keyM).1 hi _ (List.getElem_mem hlt) this
mutual
def Tm.parts : Tm → List Tm
  | .mk k n t i xs => .mk k n t i xs :: Tm.partss xs
def Tm.partss : List Tm → List Tm
  | [] => []
  | a :: r => a.parts ++ Tm.partss r
end
end Go.Proofs.Ytpgecpmonaldiaa.Fw


namespace Go.Proofs.Ytpgecpmonaldiaa.Fw
open Go Go.Proofs

/-- a store with the types and terms that it holds -/
structure Sto (a : AStore) (tys : List Ty) (tms : List Tm) : Prop where
  wt : WT a.types tys
  wm : WM tys a.terms tms
  few : a.few = true
theorem Sto.of {a : AStore} (h1 : a.few = true) (h2 : a.wf = true) : Sto a (decT [] a.types) (decE (decT [] a.types) [] a.terms) := by
  simp only [AStore.wf, Bool.and_eq_true] at h2
  have hw := WT.of h2.1
  exact ⟨hw, WM.of (by rw [hw.len]; exact h2.2), h1⟩
theorem Sto.wf {a : AStore} {tys : List Ty} {tms : List Tm} (h : Sto a tys tms) : a.wf = true := by
  simp only [AStore.wf, Bool.and_eq_true]
  exact ⟨h.wt.open, by rw [← h.wt.len]; exact h.wm.open⟩
theorem few_iff {a : AStore} : a.few = true ↔ a.types.length ≤ 4096 ∧ a.terms.length ≤ 4096 := by simp [AStore.few]
theorem Name_small {s : ByteArray} (h : Name s = true) : s.size ≤ big := by
  simp only [Name, Bool.and_eq_true, decide_eq_true_eq] at h
  simp only [big]; omega
theorem fineN.name {n : MN} {k nt : Int} (h : fineN n k nt) : n.name = ByteArray.empty ∨ cname n.name = true := by
  have := h.kd
  simp only [fineK] at this
  by_cases h3 : n.kind = 3
  · simp only [h3, if_true, Bool.and_eq_true, decide_eq_true_eq] at this
    exact .inl this.2.1
  · by_cases h4 : n.kind = 4
    · rw [if_neg h3, if_pos h4] at this
      simp only [Bool.and_eq_true, decide_eq_true_eq] at this
      exact .inl this.2.1
    · rw [if_neg h3, if_neg h4] at this
      simp only [Bool.and_eq_true, decide_eq_true_eq] at this
      exact .inr this.2.2.2
theorem Sto.thin {a : AStore} {tys : List Ty} {tms : List Tm} (h : Sto a tys tms) : a.thin := by
  obtain ⟨h1, h2⟩ := few_iff.1 h.few
  refine ⟨by omega, by omega, fun n hn => ?_, fun n hn => ?_⟩
  · obtain ⟨i, hi⟩ := List.getElem?_of_mem hn
    obtain ⟨-, -, g⟩ := h.wt.node hi
    have hv := g.val
    simp only [Ty.valid, Ty.shape, Ty.head, Bool.and_eq_true] at hv
    exact ⟨Name_small hv.2.1.1, by have := g.len; omega⟩
  · obtain ⟨i, hi⟩ := List.getElem?_of_mem hn
    obtain ⟨-, g⟩ := h.wm.node hi
    refine ⟨?_, by have := g.len; omega⟩
    rcases g.name with e | e
    · rw [e]; simp [big]
    · simp only [cname, Bool.and_eq_true] at e; exact Name_small e.1
theorem hash_Check_eq (a : AStore) (h : a.thin) : hash_Check a = some (if a.few = true then (if a.wf = true then 0 else 8) else 4) := by
  unfold hash_Check
  rw [open_eq a h, bs]
  by_cases h1 : a.few = true
  · rw [if_pos h1, if_pos h1]
    by_cases h2 : a.wf = true
    · rw [if_pos h2, if_pos h2]
    · rw [if_neg h2, if_neg h2]
  · rw [if_neg h1, if_neg h1]
end Go.Proofs.Ytpgecpmonaldiaa.Fw


namespace Go.Proofs.Ytpgecpmonaldiaa.Fw
open Go Go.Proofs

theorem tmSizes_sum : ∀ xs : List Tm, Tm.sizes xs = (xs.map Tm.size).sum
  | [] => rfl
  | a :: r => by simp [Tm.sizes, tmSizes_sum r]
theorem tmDepths_max : ∀ xs : List Tm, Tm.depths xs = maxl (xs.map Tm.depth)
  | [] => rfl
  | a :: r => by simp [Tm.depths, maxl, tmDepths_max r]
theorem nodeE_size {tys : List Ty} {tms : List Tm} {n : MN} (h : ∀ j ∈ n.sub, 0 ≤ j ∧ j < tms.length) : (nodeE tys tms n).size = 1 + (n.sub.map fun j => (tms.map Tm.size).getD j.toNat 0).sum := by
  simp only [nodeE, Tm.size, tmSizes_sum, List.map_map]
  congr 2
  refine List.map_congr_left fun j hj => ?_
  rw [getD_map' Tm.size tms zTm 0 (by have := h j hj; omega)]; rfl
theorem nodeE_depth {tys : List Ty} {tms : List Tm} {n : MN} (h : ∀ j ∈ n.sub, 0 ≤ j ∧ j < tms.length) : (nodeE tys tms n).depth = 1 + maxl (n.sub.map fun j => (tms.map Tm.depth).getD j.toNat 0) := by
  simp only [nodeE, Tm.depth, tmDepths_max, List.map_map]
  congr 2
  refine List.map_congr_left fun j hj => ?_
  rw [getD_map' Tm.depth tms zTm 0 (by have := h j hj; omega)]; rfl
def capM (tms : List Tm) : List Int := (tms.map Tm.size).map cS
def capMD (tms : List Tm) : List Int := (tms.map Tm.depth).map cD
theorem nodeE_take {tys : List Ty} {tms : List Tm} {n : MN} {k : Nat} (h : blw n.sub k = true) (hk : k ≤ tms.length) : nodeE tys (tms.take k) n = nodeE tys tms n := by
  have := nodeE_tms (tys := tys) (tms := tms.take k) (e := tms.drop k) (n := n) (blw_mono h (by simp; omega))
  rw [List.take_append_drop] at this
  exact this.symm
theorem size_l {tys : List Ty} {ms : List MN} {tms : List Tm} (h : WM tys ms tms) (i : Nat) (hi : i < ms.length) (hl : ms.length ≤ lim) (b0 : List TN) (b1 : List MN) (b3 : List (YK × Int)) (b4 : List (XK × Int)) : ∀ (j k : Nat), k + j = i + 1 →
    hash_table_size_io_l0 ((ms.take (i + 1)).drop k) (capM (tms.take k)) (capMD (tms.take k)) i b0 b1 b3 b4 = hash_table_size_io_j0 i b0 b1 b3 b4 (capM (tms.take (i + 1))) (capMD (tms.take (i + 1)))
  | 0, k, hk => by
    have : k = i + 1 := by omega
    subst this
    rw [hash_table_size_io_l0_eq, List.drop_eq_nil_of_le (by simp; omega)]
  | j + 1, k, hk => by
    simp only [lim] at hl
    have hlm := h.len
    have hkl : k < (ms.take (i + 1)).length := by simp; omega
    rw [hash_table_size_io_l0_eq, List.drop_eq_getElem_cons hkl]
    simp only []
    have hn : ms[k]? = some (ms.take (i + 1))[k] := by rw [List.getElem_take, ← List.getElem?_eq_getElem]
    obtain ⟨g1, g2⟩ := h.node hn
    generalize (ms.take (i + 1))[k] = n at *
    have hb := blw_iff.1 g2.bel
    have hm := hash_measure_eq ((tms.take k).map Tm.size) ((tms.take k).map Tm.depth) (by simp) n.sub (fun q hq => by have := hb q hq; simp; omega) (by have := g2.len; omega)
    rw [capM, capMD, hm, bs]
    simp only []
    have hb' : ∀ q ∈ n.sub, 0 ≤ q ∧ q < (tms.take k).length := fun q hq => by have := hb q hq; simp; omega
    rw [← nodeE_size (tys := tys) hb', ← nodeE_depth (tys := tys) hb', nodeE_take g2.bel (by omega), app_ok (by simp; omega), bs, app_ok (by simp; omega), bs]
    have ih := size_l h i hi (by simp only [lim]; omega) b0 b1 b3 b4 j (k + 1) (by omega)
    have ht : tms.take (k + 1) = tms.take k ++ [nodeE tys tms n] := by
      have hk2 : k < tms.length := (List.getElem?_eq_some_iff.1 g1).1
      rw [List.take_succ_eq_append_getElem hk2]
      have := (List.getElem?_eq_some_iff.1 g1).2
      rw [this]
    have e1 : (tms.take k |>.map Tm.size |>.map cS) ++ [cS (nodeE tys tms n).size] = capM (tms.take (k + 1)) := by rw [ht]; simp [capM]
    have e2 : (tms.take k |>.map Tm.depth |>.map cD) ++ [cD (nodeE tys tms n).depth] = capMD (tms.take (k + 1)) := by rw [ht]; simp [capMD]
    rw [e1, e2]
    exact ih
/-! ### decoding -/
theorem typ_l {ns : List TN} {tys : List Ty} (ms : List MN) (b3 : List (YK × Int)) (b4 : List (XK × Int)) (n : TN) : ∀ (js : List Int) (acc : List Ty),
    (∀ j ∈ js, hash_table_typ_io j ns ms b3 b4 = some (tys.getD j.toNat zTy, ns, ms, b3, b4)) → acc.length + js.length ≤ 100 →
    hash_table_typ_io_l0 js ns ms b3 b4 acc n = some (Ty.mk n.var n.name (acc ++ js.map fun j => tys.getD j.toNat zTy), ns, ms, b3, b4)
  | [], acc, h, hl => by rw [hash_table_typ_io_l0_eq]; simp
  | j :: r, acc, h, hl => by
    simp only [List.length_cons] at hl
    rw [hash_table_typ_io_l0_eq]; simp only []
    rw [h j (by simp), bs, app_ok (by simp; omega), bs]
    simp only []
    rw [typ_l ms b3 b4 n r _ (fun q hq => h q (by simp [hq])) (by simp; omega)]
    simp
theorem typ_io_eq {ns : List TN} {tys : List Ty} (h : WT ns tys) (ms : List MN) (b3 : List (YK × Int)) (b4 : List (XK × Int)) : ∀ (i : Nat) (t : Ty), tys[i]? = some t → hash_table_typ_io i ns ms b3 b4 = some (t, ns, ms, b3, b4) := by
  intro i
  induction i using Nat.strongRecOn with
  | _ i ih =>
    intro t ht
    have hlt : i < ns.length := by rw [← h.len]; exact (List.getElem?_eq_some_iff.1 ht).1
    have hn := List.getElem?_eq_getElem hlt
    obtain ⟨g1, g2, g3⟩ := h.node hn
    rw [ht] at g1
    injection g1 with g1
    rw [hash_table_typ_io_eq, geti_nat, hn, bs, typ_l (tys := tys) ms b3 b4 _ _ [] (fun j hj => ?_) (by have := g3.len; simp; omega)]
    · rw [g1]; rfl
    · obtain ⟨q1, q2⟩ := blw_iff.1 g2 j hj
      have hl : j.toNat < tys.length := by have := h.len; omega
      have := ih j.toNat (by omega) _ (List.getElem?_eq_getElem hl)
      rw [Int.toNat_of_nonneg q1] at this
      rw [this, List.getD_eq_getElem?_getD, List.getElem?_eq_getElem hl]; rfl
mutual
/-- the names of abstractions are names -/
def Tm.ng : Tm → Prop
  | .mk k n t i xs => (k = 5 → cname n = true) ∧ Tm.ngs xs
def Tm.ngs : List Tm → Prop
  | [] => True
  | a :: r => a.ng ∧ Tm.ngs r
end
mutual
theorem er_size : ∀ a : Tm, a.er.size = a.size ∧ a.er.depth = a.depth
  | .mk k n t i xs => by
    have := ers_size xs
    simp only [Tm.er, Tm.size, Tm.depth]; omega
theorem ers_size : ∀ xs : List Tm, Tm.sizes (Tm.ers xs) = Tm.sizes xs ∧ Tm.depths (Tm.ers xs) = Tm.depths xs
  | [] => ⟨rfl, rfl⟩
  | a :: r => by
    have h1 := er_size a
    have h2 := ers_size r
    simp only [Tm.ers, Tm.sizes, Tm.depths]; omega
end
end Go.Proofs.Ytpgecpmonaldiaa.Fw


namespace Go.Proofs.Ytpgecpmonaldiaa.Fw
open Go Go.Proofs

/-! ### what a caller hands in -/
structure AStore.ok (a : AStore) : Prop where
  at_ : ∀ n ∈ a.types, n.name.size ≤ big
  am : ∀ n ∈ a.terms, n.name.size ≤ big
theorem Great_l1 : ∀ (rest : List MN) (t : Int), ∃ b, r31_Great_l1 rest t = some b ∧ (b = false → ∀ n ∈ rest, n.sub.length ≤ 20)
  | [], t => ⟨false, by rw [r31_Great_l1_eq], by simp⟩
  | n :: r, t => by
    rw [r31_Great_l1_eq]
    simp only [bs, intDs_i64_len]
    by_cases h1 : (20 : Int) < (n.sub.length : Int)
    · rw [if_pos h1]; exact ⟨true, rfl, by simp⟩
    · rw [if_neg h1]
      split
      · exact ⟨true, rfl, by simp⟩
      · obtain ⟨b, g1, g2⟩ := Great_l1 r (IntKind.i64.wrap (t + n.name.size))
        refine ⟨b, g1, fun hb m hm => ?_⟩
        rcases List.mem_cons.1 hm with rfl | hm
        · omega
        · exact g2 hb m hm
theorem Great_l0 (a : AStore) : ∀ (rest : List TN) (t : Int), ∃ b, r31_Great_l0 rest t a = some b ∧ (b = false → (∀ n ∈ rest, n.args.length ≤ 20) ∧ ∀ n ∈ a.terms, n.sub.length ≤ 20)
  | [], t => by
    rw [r31_Great_l0_eq]
    obtain ⟨b, g1, g2⟩ := Great_l1 a.terms t
    exact ⟨b, g1, fun hb => ⟨by simp, g2 hb⟩⟩
  | n :: r, t => by
    rw [r31_Great_l0_eq]
    simp only [bs, intDs_i64_len]
    by_cases h1 : (20 : Int) < (n.args.length : Int)
    · rw [if_pos h1]; exact ⟨true, rfl, by simp⟩
    · rw [if_neg h1]
      split
      · exact ⟨true, rfl, by simp⟩
      · obtain ⟨b, g1, g2⟩ := Great_l0 a r (IntKind.i64.wrap (t + n.name.size))
        refine ⟨b, g1, fun hb => ⟨fun m hm => ?_, (g2 hb).2⟩⟩
        rcases List.mem_cons.1 hm with rfl | hm
        · omega
        · exact (g2 hb).1 m hm
theorem store_Great (a : AStore) (h : a.ok) : ∃ b, r31_Great a = some b ∧ (b = false → a.thin) := by
  have key : ∀ t3 : Bool, ∃ b, r31_Great_j0 t3 a = some b ∧ (b = false → a.thin) := fun t3 => by
    obtain ⟨b, g1, g2⟩ := Great_l0 a a.types 0
    unfold r31_Great_j0
    simp only [YN.Ds_len, XN.Ds_len, r31_Great_j1]
    by_cases h1 : (4200 : Int) < (a.types.length : Int)
    · rw [if_pos h1]; exact ⟨true, rfl, by simp⟩
    rw [if_neg h1]
    by_cases h2 : (4200 : Int) < (a.terms.length : Int)
    · rw [if_pos h2]; exact ⟨true, rfl, by simp⟩
    rw [if_neg h2]
    have fin : ∃ b, r31_Great_l0 a.types 0 a = some b ∧ (b = false → a.thin) := ⟨b, g1, fun hb => ⟨by omega, by omega, fun n hn => ⟨h.at_ n hn, (g2 hb).1 n hn⟩, fun n hn => ⟨h.am n hn, (g2 hb).2 n hn⟩⟩⟩
    split
    · exact fin
    · split
      · exact ⟨true, rfl, by simp⟩
      · split
        · exact ⟨true, rfl, by simp⟩
        · exact fin
  unfold r31_Great
  split
  · exact key _
  · split <;> exact key _
/-! ### the terms are the same -/
end Go.Proofs.Ytpgecpmonaldiaa.Fw


namespace Go.Proofs.Ytpgecpmonaldiaa.Fw
open Go Go.Proofs

end Go.Proofs.Ytpgecpmonaldiaa.Fw

