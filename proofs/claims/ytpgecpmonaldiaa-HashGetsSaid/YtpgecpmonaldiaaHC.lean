/- Stores: how many nodes. -/
import Derived.Test.YtpgecpmonaldiaaHB
set_option autoImplicit false
set_option linter.unusedVariables false
set_option linter.unusedSimpArgs false
namespace Go.Proofs.Ytpgecpmonaldiaa.Fw
open Go Go.Proofs

theorem Uniq.nodup {α : Type} {l : List α} (h : Uniq l) : l.Nodup := by
  rw [List.Nodup, List.pairwise_iff_getElem]
  intro i j hi hj hij e
  have := h i j (l[i]) (List.getElem?_eq_getElem hi) (by rw [List.getElem?_eq_getElem hj, e])
  omega
theorem nodup_le {α : Type} : ∀ (l l' : List α), l.Nodup → (∀ x ∈ l, x ∈ l') → l.length ≤ l'.length
  | [], l', _, _ => by simp
  | a :: r, l', hn, hs => by
    classical
    rw [List.nodup_cons] at hn
    have ha := hs a (by simp)
    have := nodup_le r (l'.erase a) hn.2 fun x hx => by
      have hne : x ≠ a := fun e => hn.1 (e ▸ hx)
      exact (List.mem_erase_of_ne hne).2 (hs x (by simp [hx]))
    rw [List.length_erase_of_mem ha] at this
    have hp : 0 < l'.length := List.length_pos_of_mem ha
    simp only [List.length_cons]; omega
theorem nodup_eq {α : Type} {l l' : List α} (h : l.Nodup) (h' : l'.Nodup) (e : ∀ x, x ∈ l ↔ x ∈ l') : l.length = l'.length :=
  Nat.le_antisymm (nodup_le l l' h fun x hx => (e x).1 hx) (nodup_le l' l h' fun x hx => (e x).2 hx)
end Go.Proofs.Ytpgecpmonaldiaa.Fw


namespace Go.Proofs.Ytpgecpmonaldiaa.Fw
open Go Go.Proofs

theorem mem_partss {y : Tm} : ∀ {xs : List Tm}, y ∈ Tm.partss xs ↔ ∃ z ∈ xs, y ∈ z.parts
  | [] => by simp [Tm.partss]
  | a :: r => by simp [Tm.partss, mem_partss (xs := r)]
theorem Tm.self_parts (a : Tm) : a ∈ a.parts := by obtain ⟨k, n, t, i, xs⟩ := a; simp [Tm.parts]
theorem child_parts {k : Int} {n : ByteArray} {t : Ty} {i : Int} {xs : List Tm} {z : Tm} (h : z ∈ xs) : z ∈ (Tm.mk k n t i xs).parts := by
  simp only [Tm.parts, List.mem_cons]
  exact .inr (mem_partss.2 ⟨z, h, z.self_parts⟩)
mutual
theorem parts_trans : ∀ (x y z : Tm), y ∈ x.parts → z ∈ y.parts → z ∈ x.parts
  | .mk k n t i xs, y, z, hy, hz => by
    simp only [Tm.parts, List.mem_cons] at hy ⊢
    rcases hy with rfl | hy
    · simp only [Tm.parts, List.mem_cons] at hz; exact hz
    · exact .inr (partss_trans xs y z hy hz)
theorem partss_trans : ∀ (xs : List Tm) (y z : Tm), y ∈ Tm.partss xs → z ∈ y.parts → z ∈ Tm.partss xs
  | [], y, z, hy, hz => by simp [Tm.partss] at hy
  | a :: r, y, z, hy, hz => by
    simp only [Tm.partss, List.mem_append] at hy ⊢
    rcases hy with hy | hy
    · exact .inl (parts_trans a y z hy hz)
    · exact .inr (partss_trans r y z hy hz)
end
mutual
theorem parts_parent : ∀ (x y : Tm), y ∈ x.parts → y = x ∨ ∃ w ∈ x.parts, y ∈ w.sub
  | .mk k n t i xs, y, hy => by
    simp only [Tm.parts, List.mem_cons] at hy
    rcases hy with rfl | hy
    · exact .inl rfl
    · right
      rcases partss_parent xs y hy with h | ⟨w, h1, h2⟩
      · exact ⟨.mk k n t i xs, Tm.self_parts _, h⟩
      · exact ⟨w, by simp only [Tm.parts, List.mem_cons]; exact .inr h1, h2⟩
theorem partss_parent : ∀ (xs : List Tm) (y : Tm), y ∈ Tm.partss xs → y ∈ xs ∨ ∃ w ∈ Tm.partss xs, y ∈ w.sub
  | [], y, hy => by simp [Tm.partss] at hy
  | a :: r, y, hy => by
    simp only [Tm.partss, List.mem_append] at hy
    rcases hy with hy | hy
    · rcases parts_parent a y hy with rfl | ⟨w, h1, h2⟩
      · exact .inl (by simp)
      · exact .inr ⟨w, by simp only [Tm.partss, List.mem_append]; exact .inl h1, h2⟩
    · rcases partss_parent r y hy with h | ⟨w, h1, h2⟩
      · exact .inl (by simp [h])
      · exact .inr ⟨w, by simp only [Tm.partss, List.mem_append]; exact .inr h1, h2⟩
end
theorem getD_at {l : List Tm} {j : Nat} (h : j < l.length) : l[j]? = some (l.getD j zTm) := by
  rw [List.getD_eq_getElem?_getD, List.getElem?_eq_getElem h]; rfl
theorem parts_le {tys : List Ty} {ms : List MN} {tms : List Tm} (h : WM tys ms tms) : ∀ (i : Nat) (x : Tm), tms[i]? = some x → ∀ y ∈ x.parts, ∃ j, j ≤ i ∧ tms[j]? = some y := by
  intro i
  induction i using Nat.strongRecOn with
  | _ i ih =>
    intro x hx y hy
    have hlt : i < ms.length := by rw [← h.len]; exact (List.getElem?_eq_some_iff.1 hx).1
    obtain ⟨g1, g2⟩ := h.node (List.getElem?_eq_getElem hlt)
    rw [hx] at g1
    injection g1 with g1
    have hp : x.parts = x :: Tm.partss ((ms[i]).sub.map fun j => tms.getD j.toNat zTm) := by rw [g1]; simp only [nodeE, Tm.parts]
    rw [hp, List.mem_cons] at hy
    rcases hy with rfl | hy
    · exact ⟨i, Nat.le_refl _, hx⟩
    · obtain ⟨z, hz, hyz⟩ := mem_partss.1 hy
      obtain ⟨q, hq, rfl⟩ := List.mem_map.1 hz
      obtain ⟨q1, q2⟩ := blw_iff.1 g2.bel q hq
      have hl : q.toNat < tms.length := by have := h.len; omega
      obtain ⟨j, j1, j2⟩ := ih q.toNat (by omega) _ (getD_at hl) y hyz
      exact ⟨j, by omega, j2⟩
/-! ### the count -/
open Classical in
noncomputable def cntR (R : Nat → Prop) : Nat → Nat
  | 0 => 0
  | t + 1 => cntR R t + if R t then 1 else 0
theorem Shared_l1 (v4 : List TN × List MN × List (YK × Int) × List (XK × Int)) (t c : Int) : ∀ (subs : List Int) (arr : List Bool), (∀ j ∈ subs, 0 ≤ j ∧ j < arr.length) →
    ∃ arr' : List Bool, arr'.length = arr.length ∧ (∀ j : Nat, arr'[j]? = some true ↔ arr[j]? = some true ∨ (j : Int) ∈ subs) ∧ hash_Shared_l1 subs arr t v4 c = hash_Shared_l0 c (IntKind.i64.wrap (t - 1)) arr' v4
  | [], arr, h => ⟨arr, rfl, by simp, by rw [hash_Shared_l1_eq]; rfl⟩
  | q :: r, arr, h => by
    obtain ⟨h1, h2⟩ := h q (by simp)
    obtain ⟨arr', g1, g2, g3⟩ := Shared_l1 v4 t c r (arr.set q.toNat true) (fun j hj => by have := h j (by simp [hj]); simpa using this)
    refine ⟨arr', by simpa using g1, fun j => ?_, ?_⟩
    · rw [g2, List.getElem?_set]
      by_cases hj : q.toNat = j
      · rw [if_pos hj, if_pos (by omega)]
        have : (j : Int) = q := by omega
        simp [this]
      · rw [if_neg hj]
        have : ¬ (j : Int) = q := by omega
        simp [this]
    · rw [hash_Shared_l1_eq]
      simp only []
      rw [wantb, if_pos ⟨h1, h2⟩, bs, seti, if_pos ⟨h1, h2⟩, bs, g3]
theorem Shared_l0 (v4 : List TN × List MN × List (YK × Int) × List (XK × Int)) (i : Nat) (hi : i < v4.2.1.length) (hl : v4.2.1.length ≤ 5000) (R : Nat → Prop) (hRi : R i) (hle : ∀ p, R p → p ≤ i)
    (hbel : ∀ (p : Nat) (n : MN), v4.2.1[p]? = some n → blw n.sub p = true) (hsub : ∀ (p : Nat) (n : MN), R p → v4.2.1[p]? = some n → ∀ j : Nat, (j : Int) ∈ n.sub → R j)
    (hpar : ∀ j : Nat, R j → j ≠ i → ∃ (p : Nat) (n : MN), R p ∧ v4.2.1[p]? = some n ∧ (j : Int) ∈ n.sub) : ∀ (t : Nat) (c : Nat) (arr : List Bool), t ≤ i + 1 → c + t ≤ 10000 → arr.length = i + 1 →
      (∀ j, j < t → (arr[j]? = some true ↔ j = i ∨ ∃ (p : Nat) (n : MN), t ≤ p ∧ R p ∧ v4.2.1[p]? = some n ∧ (j : Int) ∈ n.sub)) →
      hash_Shared_l0 c ((t : Int) - 1) arr v4 = some (((c + cntR R t : Nat) : Int), 0)
  | 0, c, arr, ht, hc, ha, hinv => by
    rw [hash_Shared_l0_eq, if_neg (by omega)]; simp [cntR]
  | t + 1, c, arr, ht, hc, ha, hinv => by
    have hmark : arr[t]? = some true ↔ R t := by
      rw [hinv t (by omega)]
      constructor
      · rintro (rfl | ⟨p, n, h1, h2, h3, h4⟩)
        · exact hRi
        · exact hsub p n h2 h3 t h4
      · intro hR
        by_cases hti : t = i
        · exact .inl hti
        · obtain ⟨p, n, h2, h3, h4⟩ := hpar t hR hti
          have := blw_iff.1 (hbel p n h3) _ h4
          exact .inr ⟨p, n, by omega, h2, h3, h4⟩
    have e : ((t + 1 : Nat) : Int) - 1 = (t : Int) := by omega
    rw [e, hash_Shared_l0_eq, if_pos (by omega), wantb, if_pos (by omega), bs]
    have hlt : t < arr.length := by omega
    have hg : geti arr (t : Int) = some arr[t] := by rw [geti_nat, List.getElem?_eq_getElem hlt]
    rw [hg, bs]
    rw [List.getElem?_eq_getElem hlt] at hmark
    by_cases hb : arr[t] = true
    · have hR : R t := hmark.1 (by rw [hb])
      have hlm : t < v4.2.1.length := by omega
      rw [if_pos hb, bs, wr (by omega) (by omega), geti_nat, List.getElem?_eq_getElem hlm, bs]
      have hn := List.getElem?_eq_getElem hlm
      have hbl := blw_iff.1 (hbel t _ hn)
      obtain ⟨arr', g1, g2, g3⟩ := Shared_l1 v4 t ((c : Int) + 1) (v4.2.1[t]).sub arr (fun j hj => by have := hbl j hj; omega)
      rw [g3, wr (by omega) (by omega)]
      have ih := Shared_l0 v4 i hi hl R hRi hle hbel hsub hpar t (c + 1) arr' (by omega) (by omega) (by omega) (fun j hj => by
        rw [g2, hinv j (by omega)]
        constructor
        · rintro ((h | ⟨p, n, h1, h2, h3, h4⟩) | h)
          · exact .inl h
          · exact .inr ⟨p, n, by omega, h2, h3, h4⟩
          · exact .inr ⟨t, _, Nat.le_refl _, hR, hn, h⟩
        · rintro (h | ⟨p, n, h1, h2, h3, h4⟩)
          · exact .inl (.inl h)
          · by_cases hp : p = t
            · subst hp
              rw [hn] at h3; injection h3 with h3
              exact .inr (h3 ▸ h4)
            · exact .inl (.inr ⟨p, n, by omega, h2, h3, h4⟩))
      rw [show ((c + 1 : Nat) : Int) = (c : Int) + 1 from rfl] at ih
      rw [ih, cntR, if_pos hR]
      congr 3; omega
    · have hR : ¬ R t := fun h => hb (by have := hmark.2 h; injection this)
      rw [if_neg hb, bs, wr (by omega) (by omega)]
      have ih := Shared_l0 v4 i hi hl R hRi hle hbel hsub hpar t c arr (by omega) (by omega) ha (fun j hj => by
        rw [hinv j (by omega)]
        constructor
        · rintro (h | ⟨p, n, h1, h2, h3, h4⟩)
          · exact .inl h
          · exact .inr ⟨p, n, by omega, h2, h3, h4⟩
        · rintro (h | ⟨p, n, h1, h2, h3, h4⟩)
          · exact .inl h
          · refine .inr ⟨p, n, ?_, h2, h3, h4⟩
            have : p ≠ t := fun e => hR (e ▸ h2)
            omega)
      rw [ih, cntR, if_neg hR]; rfl
open Classical in
theorem cnt_filter (tms : List Tm) (x : Tm) : ∀ t, t ≤ tms.length → ((tms.take t).filter fun y => decide (y ∈ x.parts)).length = cntR (fun j => ∃ y, tms[j]? = some y ∧ y ∈ x.parts) t
  | 0, _ => by simp [cntR]
  | t + 1, h => by
    have hlt : t < tms.length := by omega
    rw [List.take_succ_eq_append_getElem hlt, List.filter_append, List.length_append, cnt_filter tms x t (by omega), cntR]
    congr 1
    have e : (∃ y, tms[t]? = some y ∧ y ∈ x.parts) ↔ tms[t] ∈ x.parts := by
      rw [List.getElem?_eq_getElem hlt]; simp
    by_cases hm : tms[t] ∈ x.parts
    · rw [if_pos (e.2 hm)]; simp [hm]
    · rw [if_neg (fun h => hm (e.1 h))]; simp [hm]
theorem Shared_at {a : AStore} {tys : List Ty} {tms : List Tm} (h : Sto a tys tms) {i : Nat} {x : Tm} (hi : tms[i]? = some x) :
    ∃ L : List Tm, L.Nodup ∧ (∀ y, y ∈ L ↔ y ∈ x.parts) ∧ hash_Shared a i = some ((L.length : Int), 0) := by
  classical
  obtain ⟨f1, f2⟩ := few_iff.1 h.few
  have hu := h.wm.uniq h.wt.uniq
  have hlt : i < tms.length := (List.getElem?_eq_some_iff.1 hi).1
  have hln := h.wm.len
  let R : Nat → Prop := fun j => ∃ y, tms[j]? = some y ∧ y ∈ x.parts
  have hle : ∀ p, R p → p ≤ i := fun p ⟨y, h1, h2⟩ => by
    obtain ⟨j, j1, j2⟩ := parts_le h.wm i x hi y h2
    rw [hu p j y h1 j2]; exact j1
  have node : ∀ {p : Nat} {n : MN}, a.terms[p]? = some n → tms[p]? = some (nodeE tys tms n) ∧ blw n.sub p = true := fun hp => ⟨(h.wm.node hp).1, (h.wm.node hp).2.bel⟩
  refine ⟨(tms.take (i + 1)).filter fun y => decide (y ∈ x.parts), (hu.nodup.sublist (List.take_sublist _ _)).filter _, fun y => ?_, ?_⟩
  · rw [List.mem_filter]
    simp only [decide_eq_true_eq]
    refine ⟨fun h => h.2, fun hy => ⟨?_, hy⟩⟩
    obtain ⟨j, j1, j2⟩ := parts_le h.wm i x hi y hy
    refine List.mem_of_getElem? (i := j) ?_
    rw [List.getElem?_take, if_pos (by omega), j2]
  · unfold hash_Shared
    rw [open_eq a h.thin, bs, if_pos h.few, if_pos h.wf]
    simp only [hash_Shared_j0c, XN.Ds_len]
    rw [if_neg (show ¬ (i : Int) < 0 by omega), if_neg (show ¬ (a.terms.length : Int) ≤ (i : Int) by omega), bs, wr (by omega) (by omega), mkn, if_pos (by omega), bs]
    have e : ((i : Int) + 1).toNat = i + 1 := by omega
    rw [e, wantb, if_pos (by simp; omega), bs, seti_nat (by simp), bs]
    have main := Shared_l0 (a.types, a.terms, mapOf keyT 0 a.types, mapOf keyM 0 a.terms) i (by show i < a.terms.length; omega) (by show a.terms.length ≤ 5000; omega) R ⟨x, hi, x.self_parts⟩ hle
      (fun p n hp => (node hp).2)
      (fun p n ⟨y, h1, h2⟩ hp j hj => by
        obtain ⟨g1, g2⟩ := node hp
        rw [h1] at g1; injection g1 with g1
        have hb := blw_iff.1 g2 _ hj
        have hl : j < tms.length := by have := (List.getElem?_eq_some_iff.1 h1).1; omega
        refine ⟨_, getD_at hl, parts_trans x y _ h2 ?_⟩
        rw [g1]
        exact child_parts (List.mem_map.2 ⟨(j : Int), hj, by simp⟩))
      (fun j ⟨y, h1, h2⟩ hji => by
        rcases parts_parent x y h2 with rfl | ⟨w, w1, w2⟩
        · exact absurd (hu j i y h1 hi) hji
        · obtain ⟨p, p1, p2⟩ := parts_le h.wm i x hi w w1
          have hp : p < a.terms.length := by have := (List.getElem?_eq_some_iff.1 p2).1; omega
          obtain ⟨g1, g2⟩ := node (List.getElem?_eq_getElem hp)
          rw [p2] at g1; injection g1 with g1
          rw [g1] at w2
          obtain ⟨q, hq, e⟩ := List.mem_map.1 w2
          have hb := blw_iff.1 g2 q hq
          have hl : q.toNat < tms.length := by omega
          have := hu j q.toNat y h1 (by rw [getD_at hl, e])
          exact ⟨p, _, ⟨w, p2, w1⟩, List.getElem?_eq_getElem hp, by rw [this, Int.toNat_of_nonneg hb.1]; exact hq⟩)
      (i + 1) 0 ((List.replicate (i + 1) false).set i true) (Nat.le_refl _) (by omega) (by simp) (fun j hj => by
        rw [List.getElem?_set]
        by_cases hji : i = j
        · simp [hji]
        · rw [if_neg hji, List.getElem?_replicate]
          constructor
          · intro h; split at h <;> simp at h
          · rintro (h | ⟨p, n, q1, q2, _⟩)
            · exact absurd h.symm hji
            · have := hle p q2; omega)
    rw [show (((i + 1 : Nat) : Int) - 1) = (i : Int) by omega] at main
    refine Eq.trans main ?_
    rw [cnt_filter tms x (i + 1) (by omega)]
    simp [R]
end Go.Proofs.Ytpgecpmonaldiaa.Fw


namespace Go.Proofs.Ytpgecpmonaldiaa.Fw
open Go Go.Proofs

theorem ints_lk (ys : List Int) : ∀ (xs : List Int) (k : Nat), k + xs.length = ys.length → r31_ints_l0 xs k ys = some (decide (xs = ys.drop k))
  | [], k, h => by
    have : ys.drop k = [] := List.drop_eq_nil_of_le (by simp at h; omega)
    rw [r31_ints_l0_eq]; simp [this]
  | x :: r, k, h => by
    simp only [List.length_cons] at h
    obtain ⟨y, g1, g2⟩ := geti_drop (l := ys) (k := k) (n := r.length) (by omega)
    rw [r31_ints_l0_eq]
    simp only []
    rw [g1, bs, g2]
    by_cases he : x = y
    · subst he
      rw [if_neg (by simp), ints_lk ys r (k + 1) (by omega)]
      simp
    · rw [if_pos he]; simp [he]
theorem ints_eqk (xs ys : List Int) : r31_ints xs ys = some (decide (xs = ys)) := by
  rw [r31_ints]
  simp only [intDs_i64_len]
  by_cases h : xs.length = ys.length
  · rw [if_neg (by simp [h]), ints_lk ys xs 0 (by omega)]; simp
  · rw [if_pos (by omega)]
    have : xs ≠ ys := fun e => h (by rw [e])
    simp [this]
def eqT (n m : TN) : Bool := decide (n.var = m.var) && (decide (n.name = m.name) && decide (n.args = m.args))
theorem eqT_iff {n m : TN} : eqT n m = true ↔ n = m := by
  obtain ⟨a, b, c⟩ := n; obtain ⟨a', b', c'⟩ := m
  simp [eqT]
theorem sameType_eq (n m : TN) : r31_sameType n m = some (eqT n m) := by
  rw [r31_sameType, ints_eqk, eqT]
  by_cases h1 : n.var = m.var
  · rw [if_pos h1]
    by_cases h2 : n.name = m.name
    · rw [if_pos h2, bs]; simp [h1, h2]
    · rw [if_neg h2]; simp [h2]
  · rw [if_neg h1]; simp [h1]
def eqM (n m : MN) : Bool := decide (n.kind = m.kind) && ((decide (n.kind = 5) || decide (n.name = m.name)) && (decide (n.type_ = m.type_) && (decide (n.index = m.index) && decide (n.sub = m.sub))))
theorem sameTerm_eq (n m : MN) : r31_sameTerm n m = some (eqM n m) := by
  rw [r31_sameTerm, ints_eqk, eqM]
  by_cases h1 : n.kind = m.kind
  · rw [if_pos h1]
    by_cases h5 : n.kind = 5
    · rw [if_pos h5]
      by_cases h2 : n.type_ = m.type_
      · rw [if_pos h2]
        by_cases h3 : n.index = m.index
        · rw [if_pos h3, bs]; simp [← h1, h5, h2, h3]
        · rw [if_neg h3]; simp [h3]
      · rw [if_neg h2]; simp [h2]
    · rw [if_neg h5]
      by_cases h0 : n.name = m.name
      · rw [if_pos h0]
        by_cases h2 : n.type_ = m.type_
        · rw [if_pos h2]
          by_cases h3 : n.index = m.index
          · rw [if_pos h3, bs]; simp [h1, h0, h2, h3]
          · rw [if_neg h3]; simp [h3]
        · rw [if_neg h2]; simp [h2]
      · rw [if_neg h0]; simp [h0, h5]
  · rw [if_neg h1]; simp [h1]
theorem eqM_iff {n m : MN} (hn : n.sub.length ≤ 2) (hm : m.sub.length ≤ 2) : eqM n m = true ↔ keyM n = keyM m := by
  constructor
  · intro h
    simp only [eqM, Bool.and_eq_true, Bool.or_eq_true, decide_eq_true_eq] at h
    obtain ⟨h1, h2, h3, h4, h5⟩ := h
    refine keyM_of ⟨h1, h3, h4, h5, ?_⟩
    rw [← h1]
    by_cases hk : n.kind = 5
    · rw [if_pos hk, if_pos hk]
    · rw [if_neg hk, if_neg hk]; exact h2.resolve_left hk
  · intro h
    obtain ⟨h1, h2, h3, h4, h5⟩ := keyM_eq hn hm h
    simp only [eqM, Bool.and_eq_true, Bool.or_eq_true, decide_eq_true_eq]
    refine ⟨h1, ?_, h2, h3, h4⟩
    by_cases hk : n.kind = 5
    · exact .inl hk
    · rw [← h1, if_neg hk, if_neg hk] at h5; exact .inr h5
theorem below_lk (k : Int) : ∀ xs : List Int, r31_below_l0 xs k = some (blw xs k)
  | [] => by rw [r31_below_l0_eq]; rfl
  | x :: r => by
    rw [r31_below_l0_eq]
    simp only []
    rw [below_lk k r]
    by_cases h1 : x < 0
    · rw [if_pos h1]; simp [blw]; omega
    · rw [if_neg h1]
      by_cases h2 : k ≤ x
      · rw [if_pos h2]; simp [blw]; omega
      · rw [if_neg h2]
        have a1 : decide (0 ≤ x) = true := by simp; omega
        have a2 : decide (x < k) = true := by simp; omega
        simp [blw, a1, a2]
theorem below_eqk (xs : List Int) (k : Int) : r31_below xs k = some (blw xs k) := by rw [r31_below, below_lk]
/-! ### sizes -/
def c4 (n : Nat) : Int := ((min n 40000 : Nat) : Int)
/-- the sizes and depths of what nodes stand for -/
structure Szs (parts : List (List Int)) (S D : List Nat) : Prop where
  ls : S.length = parts.length
  ld : D.length = parts.length
  at_ : ∀ (i : Nat) (p : List Int), parts[i]? = some p → p.length ≤ 20 ∧ blw p i = true ∧ S[i]? = some (1 + (p.map fun j => S.getD j.toNat 0).sum) ∧ D[i]? = some (1 + maxl (p.map fun j => D.getD j.toNat 0))
theorem c4_min (q : Nat) : min (q : Int) 40000 = c4 q := by simp only [c4]; omega
theorem c4_sum (L : List Nat) : min (1 + (L.map fun x => min x 40000).sum) 40000 = min (1 + L.sum) 40000 := by
  induction L with
  | nil => rfl
  | cons a r ih => simp only [List.map_cons, List.sum_cons]; omega
theorem c4_max (L : List Nat) : min (1 + maxl (L.map fun x => min x 40000)) 40000 = min (1 + maxl L) 40000 := by
  induction L with
  | nil => rfl
  | cons a r ih => simp only [List.map_cons, maxl]; omega
theorem Sized_l1k {parts : List (List Int)} {S D : List Nat} (h : Szs parts S D) (i : Nat) (p : List Int) (hp : parts[i]? = some p) (hi : i ≤ lim) : ∀ (j k n d : Nat), k + j = p.length → n ≤ 40000 * k + 1 → d ≤ 40000 →
    r31_Sized_l1 ((S.take i).map c4) ((D.take i).map c4) (i : Int) (n : Int) (d : Int) (k : Int) parts =
      r31_Sized_l0 ((S.take i).map c4 ++ [c4 (n + ((p.drop k).map fun j => min (S.getD j.toNat 0) 40000).sum)]) ((D.take i).map c4 ++ [c4 (max d (maxl ((p.drop k).map fun j => min (D.getD j.toNat 0) 40000)) + 1)]) ((i + 1 : Nat) : Int) parts
  | 0, k, n, d, hk, hn, hd => by
    have hil : i < parts.length := (List.getElem?_eq_some_iff.1 hp).1
    have h1 := h.ls
    have h2 := h.ld
    have g1 := (h.at_ i p hp).1
    simp only [lim] at hi
    have hdr : p.drop k = [] := List.drop_eq_nil_of_le (by omega)
    rw [r31_Sized_l1_eq, geti_nat, hp, bs]
    simp only [intDs_i64_len]
    rw [if_neg (by omega), app_ok (by simp; omega), bs, wr (by omega) (by omega), bs, app_ok (by simp; omega), bs, wr (by omega) (by omega), bs, hdr]
    have e1 := c4_min n
    have e2 : min ((d : Int) + 1) 40000 = c4 (d + 1) := by
      have h := c4_min (d + 1)
      rw [show ((d + 1 : Nat) : Int) = (d : Int) + 1 by omega] at h
      exact h
    have e3 : (i : Int) + 1 = ((i + 1 : Nat) : Int) := by omega
    simp only [List.map_nil, List.sum_nil, maxl, Nat.add_zero, Nat.max_zero, e1, e2, e3]
  | j + 1, k, n, d, hk, hn, hd => by
    have hkl : k < p.length := by omega
    obtain ⟨g1, g2, g3, g4⟩ := h.at_ i p hp
    have hx := blw_iff.1 g2 p[k] (List.getElem_mem hkl)
    have hil : i < parts.length := (List.getElem?_eq_some_iff.1 hp).1
    have h1 := h.ls
    have h2 := h.ld
    have hdr : p.drop k = p[k] :: p.drop (k + 1) := List.drop_eq_getElem_cons hkl
    have hg : ∀ L : List Nat, L.length = parts.length → geti ((L.take i).map c4) p[k] = some (c4 (L.getD p[k].toNat 0)) := fun L hL => by
      rw [geti, if_pos hx.1, List.getElem?_map, List.getElem?_take, if_pos (by omega), List.getElem?_eq_getElem (by omega), List.getD_eq_getElem?_getD, List.getElem?_eq_getElem (by omega)]; rfl
    rw [r31_Sized_l1_eq, geti_nat, hp, bs]
    simp only [intDs_i64_len]
    rw [if_pos (by omega), bs, geti_nat, List.getElem?_eq_getElem hkl, bs, hg S h1, bs, wr (by simp only [c4]; omega) (by simp only [c4]; omega), bs, bs, geti_nat, List.getElem?_eq_getElem hkl, bs, hg D h2, bs, wr (by omega) (by omega), bs]
    have e1 : (n : Int) + c4 (S.getD p[k].toNat 0) = ((n + min (S.getD p[k].toNat 0) 40000 : Nat) : Int) := by simp only [c4]; omega
    have e2 : max (d : Int) (c4 (D.getD p[k].toNat 0)) = ((max d (min (D.getD p[k].toNat 0) 40000) : Nat) : Int) := by simp only [c4]; omega
    have e3 : (k : Int) + 1 = ((k + 1 : Nat) : Int) := by omega
    rw [e1, e2, e3, Sized_l1k h i p hp hi j (k + 1) _ _ (by omega) (by omega) (by omega), hdr]
    simp only [List.map_cons, List.sum_cons, maxl, Nat.add_assoc, Nat.max_assoc]
theorem Sized_l0k {parts : List (List Int)} {S D : List Nat} (h : Szs parts S D) (hl : parts.length ≤ lim) : ∀ (j i : Nat), i + j = parts.length →
    r31_Sized_l0 ((S.take i).map c4) ((D.take i).map c4) (i : Int) parts = some (S.map c4, D.map c4)
  | 0, i, hi => by
    have h1 := h.ls
    have h2 := h.ld
    rw [r31_Sized_l0_eq]
    simp only [intDs_i64s_len]
    rw [if_neg (by omega), List.take_of_length_le (by omega), List.take_of_length_le (by omega)]
  | j + 1, i, hi => by
    have h1 := h.ls
    have h2 := h.ld
    have hil : i < parts.length := by omega
    obtain ⟨g1, g2, g3, g4⟩ := h.at_ i _ (List.getElem?_eq_getElem hil)
    rw [r31_Sized_l0_eq]
    simp only [intDs_i64s_len]
    rw [if_pos (by omega)]
    have := Sized_l1k h i _ (List.getElem?_eq_getElem hil) (by omega) (parts[i]).length 0 1 0 (by omega) (by omega) (by omega)
    simp only [List.drop_zero] at this
    have e : ∀ x : Int, (1 : Int) = ((1 : Nat) : Int) := fun _ => rfl
    refine Eq.trans this ?_
    have es : (S.take i).map c4 ++ [c4 (1 + ((parts[i]).map fun j => min (S.getD j.toNat 0) 40000).sum)] = (S.take (i + 1)).map c4 := by
      rw [List.take_add_one, g3, List.map_append]
      congr 1
      simp only [Option.toList, List.map_cons, List.map_nil, List.cons.injEq, and_true, c4]
      congr 1
      have := c4_sum ((parts[i]).map fun j => S.getD j.toNat 0)
      rw [List.map_map] at this
      exact this
    have ed : (D.take i).map c4 ++ [c4 (max 0 (maxl ((parts[i]).map fun j => min (D.getD j.toNat 0) 40000)) + 1)] = (D.take (i + 1)).map c4 := by
      rw [List.take_add_one, g4, List.map_append]
      congr 1
      simp only [Option.toList, List.map_cons, List.map_nil, List.cons.injEq, and_true, c4]
      congr 1
      have := c4_max ((parts[i]).map fun j => D.getD j.toNat 0)
      rw [List.map_map] at this
      rw [Nat.zero_max, Nat.add_comm]
      exact this
    rw [es, ed]
    exact Sized_l0k h hl j (i + 1) (by omega)
theorem Sized_eqk {parts : List (List Int)} {S D : List Nat} (h : Szs parts S D) (hl : parts.length ≤ lim) : r31_Sized parts = some (S.map c4, D.map c4) := by
  have := Sized_l0k h hl parts.length 0 (by omega)
  simpa [r31_Sized] using this
end Go.Proofs.Ytpgecpmonaldiaa.Fw


namespace Go.Proofs.Ytpgecpmonaldiaa.Fw
open Go Go.Proofs

theorem dec_node : ∀ ns : List TN, (∀ (i : Nat) (n : TN), ns[i]? = some n → blw n.args i = true) → ∀ (i : Nat) (n : TN), ns[i]? = some n → (decT [] ns)[i]? = some (nodeT (decT [] ns) n) := by
  intro ns
  induction ns using snoc_ind with
  | h0 => intro _ i n h; simp at h
  | h1 l a ih =>
    intro hb i n h
    have hl : (decT [] l).length = l.length := by rw [decT_len]; simp
    have hb' : ∀ (i : Nat) (n : TN), l[i]? = some n → blw n.args i = true := fun i n hi => hb i n (by rw [List.getElem?_append_left (List.getElem?_eq_some_iff.1 hi).1]; exact hi)
    rw [decT_snoc]
    rcases snoc_get h with ⟨h1, h2⟩ | ⟨h1, h2⟩
    · have g := ih hb' i n h2
      have gb := hb' i n h2
      rw [List.getElem?_append_left (by omega), g, nodeT_app (blw_mono gb (by omega))]
    · subst h2; subst h1
      have gb := hb _ _ h
      rw [nodeT_app (by rw [hl]; exact gb), ← hl]; simp
theorem Szs_types {ns : List TN} (h : ∀ (i : Nat) (n : TN), ns[i]? = some n → n.args.length ≤ 20 ∧ blw n.args i = true) : Szs (ns.map (·.args)) ((decT [] ns).map Ty.size) ((decT [] ns).map Ty.depth) := by
  have hl : (decT [] ns).length = ns.length := by rw [decT_len]; simp
  refine ⟨by simp [hl], by simp [hl], fun i p hp => ?_⟩
  rw [List.getElem?_map, Option.map_eq_some_iff] at hp
  obtain ⟨n, hn, rfl⟩ := hp
  obtain ⟨g1, g2⟩ := h i n hn
  have g3 := dec_node ns (fun i n hi => (h i n hi).2) i n hn
  have hlt := (List.getElem?_eq_some_iff.1 hn).1
  have hj : ∀ j ∈ n.args, 0 ≤ j ∧ j < (decT [] ns).length := fun j hj => by have := blw_iff.1 g2 j hj; omega
  refine ⟨g1, g2, ?_, ?_⟩
  · rw [List.getElem?_map, g3, Option.map_some, nodeT_size hj]
  · rw [List.getElem?_map, g3, Option.map_some, nodeT_depth hj]
structure okS (ns : List TN) (i : Nat) (n : TN) : Prop where
  len : n.args.length ≤ 8
  var : n.var = true → n.args = []
  val : Ty.valid (.mk n.var n.name []) = true
  bel : blw n.args i = true
  new : ∀ j, j < i → ns[j]? ≠ some n
theorem tv_l1 (ns : List TN) (T : List (List Int)) (i : Nat) (n : TN) (hn : ns[i]? = some n) (hT : T.length < lim) (hi : i < lim) : ∀ (j k : Nat), k + j = i →
    ((∃ q, k ≤ q ∧ q < i ∧ ns[q]? = some n) ∧ r31_typesValid_l1 T i k ns = some false) ∨ ((∀ q, k ≤ q → q < i → ns[q]? ≠ some n) ∧ r31_typesValid_l1 T i k ns = r31_typesValid_l0 (T ++ [n.args]) ((i + 1 : Nat) : Int) ns)
  | 0, k, hk => by
    simp only [lim] at hT hi
    refine .inr ⟨fun q h1 h2 => by omega, ?_⟩
    rw [r31_typesValid_l1_eq, if_neg (by omega), geti_nat, hn, bs, app_ok (by simp; omega), bs, wr (by omega) (by omega), bs]
    rw [show (i : Int) + 1 = ((i + 1 : Nat) : Int) by omega]
  | j + 1, k, hk => by
    have hlt := (List.getElem?_eq_some_iff.1 hn).1
    have hk2 : k < ns.length := by omega
    have ih := tv_l1 ns T i n hn hT hi j (k + 1) (by omega)
    simp only [lim] at hT hi
    rw [r31_typesValid_l1_eq, if_pos (by omega), geti_nat, List.getElem?_eq_getElem hk2, bs, geti_nat, hn, bs, sameType_eq, bs]
    cases he : eqT ns[k] n with
    | true =>
      refine .inl ⟨⟨k, Nat.le_refl _, by omega, ?_⟩, by simp⟩
      rw [List.getElem?_eq_getElem hk2, eqT_iff.1 he]
    | false =>
      have hne : ns[k]? ≠ some n := fun h => by
        rw [List.getElem?_eq_getElem hk2] at h
        injection h with h
        rw [eqT_iff.2 h] at he; cases he
      rw [if_neg (by simp), wr (by omega) (by omega), bs, show (k : Int) + 1 = ((k + 1 : Nat) : Int) by omega]
      rcases ih with ⟨⟨q, q1, q2, q3⟩, e⟩ | ⟨q, e⟩
      · exact .inl ⟨⟨q, by omega, q2, q3⟩, e⟩
      · refine .inr ⟨fun p p1 p2 => ?_, e⟩
        by_cases hp : p = k
        · subst hp; exact hne
        · exact q p (by omega) p2
theorem c4_lt {n k : Nat} (hk : k < 40000) : (k : Int) < c4 n ↔ k < n := by simp only [c4]; omega
theorem tv_l2 (S D : List Nat) : ∀ (rest : List TN) (k : Nat), k + rest.length = S.length → D.length = S.length →
    ∃ b, r31_typesValid_l2 rest k (S.map c4, D.map c4) = some b ∧ (b = true ↔ ∀ q s d, k ≤ q → S[q]? = some s → D[q]? = some d → s ≤ 500 ∧ d ≤ 200)
  | [], k, hk, hl => by
    refine ⟨true, by rw [r31_typesValid_l2_eq], ?_⟩
    simp only [true_iff]
    intro q s d h1 h2
    have := (List.getElem?_eq_some_iff.1 h2).1
    simp at hk; omega
  | n :: r, k, hk, hl => by
    simp only [List.length_cons] at hk
    obtain ⟨b, g1, g2⟩ := tv_l2 S D r (k + 1) (by omega) hl
    have hs : S[k]? = some S[k] := List.getElem?_eq_getElem (by omega)
    have hd : D[k]? = some D[k] := List.getElem?_eq_getElem (by omega)
    rw [r31_typesValid_l2_eq]
    simp only []
    rw [geti_nat, List.getElem?_map, hs, Option.map_some, bs]
    have e5 : (500 : Int) < c4 S[k] ↔ 500 < S[k] := c4_lt (k := 500) (by omega)
    have e2 : (200 : Int) < c4 D[k] ↔ 200 < D[k] := c4_lt (k := 200) (by omega)
    by_cases h1 : 500 < S[k]
    · rw [if_pos (e5.2 h1)]
      exact ⟨false, rfl, by simp; exact ⟨k, Nat.le_refl _, _, hs, _, hd, fun h => by omega⟩⟩
    · rw [if_neg (fun h => h1 (e5.1 h)), geti_nat, List.getElem?_map, hd, Option.map_some, bs]
      by_cases h2 : 200 < D[k]
      · rw [if_pos (e2.2 h2)]
        exact ⟨false, rfl, by simp; exact ⟨k, Nat.le_refl _, _, hs, _, hd, fun h => by omega⟩⟩
      · rw [if_neg (fun h => h2 (e2.1 h))]
        refine ⟨b, g1, g2.trans ⟨fun h q s d q1 q2 q3 => ?_, fun h q s d q1 => h q s d (by omega)⟩⟩
        by_cases hq : q = k
        · subst hq
          rw [hs] at q2; rw [hd] at q3
          injection q2 with q2; injection q3 with q3
          omega
        · exact h q s d (by omega) q2 q3
theorem tv_l0 (ns : List TN) (hl : ns.length ≤ 4200) (hz : ∀ n ∈ ns, n.name.size ≤ big) : ∀ (j i : Nat), i + j = ns.length → (∀ q n, q < i → ns[q]? = some n → okS ns q n) →
    ∃ b, r31_typesValid_l0 ((ns.take i).map (·.args)) i ns = some b ∧ (b = true ↔ (∀ q n, i ≤ q → ns[q]? = some n → okS ns q n) ∧ ((∀ q n, ns[q]? = some n → okS ns q n) → ∀ t ∈ decT [] ns, t.size ≤ 500 ∧ t.depth ≤ 200))
  | 0, i, hi, ho => by
    have ho' : ∀ q n, ns[q]? = some n → okS ns q n := fun q n h => ho q n (by have := (List.getElem?_eq_some_iff.1 h).1; omega) h
    have hS := Szs_types (ns := ns) fun q n h => ⟨by have := (ho' q n h).len; omega, (ho' q n h).bel⟩
    have hdl : (decT [] ns).length = ns.length := by rw [decT_len]; simp
    rw [r31_typesValid_l0_eq]
    simp only [YN.Ds_len]
    rw [if_neg (by omega), r31_typesValid_j1, List.take_of_length_le (by omega), Sized_eqk hS (by simp [lim]; omega), bs]
    obtain ⟨b, g1, g2⟩ := tv_l2 ((decT [] ns).map Ty.size) ((decT [] ns).map Ty.depth) ns 0 (by simp [hdl]) (by simp)
    refine ⟨b, g1, g2.trans ⟨fun h => ⟨fun q n hq hn => ho' q n hn, fun _ t ht => ?_⟩, fun h q s d _ h1 h2 => ?_⟩⟩
    · obtain ⟨q, hq⟩ := List.getElem?_of_mem ht
      exact h q t.size t.depth (by omega) (by rw [List.getElem?_map, hq]; rfl) (by rw [List.getElem?_map, hq]; rfl)
    · rw [List.getElem?_map, Option.map_eq_some_iff] at h1 h2
      obtain ⟨t, t1, rfl⟩ := h1
      obtain ⟨t', t2, rfl⟩ := h2
      rw [t1] at t2; injection t2 with t2; subst t2
      exact h.2 ho' t (List.mem_of_getElem? t1)
  | j + 1, i, hi, ho => by
    have hil : i < ns.length := by omega
    have hn := List.getElem?_eq_getElem hil
    have hmem := List.getElem_mem hil
    generalize ns[i] = n at hn hmem
    have hsz := hz n hmem
    rw [r31_typesValid_l0_eq]
    simp only [YN.Ds_len]
    have hb : ∀ {b : Bool}, b = false → ¬ okS ns i n → (b = true ↔ (∀ q n, i ≤ q → ns[q]? = some n → okS ns q n) ∧ ((∀ q n, ns[q]? = some n → okS ns q n) → ∀ t ∈ decT [] ns, t.size ≤ 500 ∧ t.depth ≤ 200)) := fun hb hno => by
      subst hb
      simp only [Bool.false_eq_true, false_iff]
      exact fun h => hno (h.1 i n (Nat.le_refl _) hn)
    have hval : r01_Valid (Ty.mk n.var n.name []) = some (Ty.valid (.mk n.var n.name [])) := ref_Valid_eq _ (show Ty.ok (.mk n.var n.name []) from ⟨hsz, by simp [big], trivial⟩) (by simp [Ty.size, Ty.sizes, lim])
    rw [if_pos (by omega)]
    simp only [geti_nat, hn, bs, intDs_i64_len, hval, below_eqk]
    have main : n.args.length ≤ 8 → (n.var = true → n.args = []) → Ty.valid (.mk n.var n.name []) = true → blw n.args i = true → ∃ b, r31_typesValid_j0 ns ((ns.take i).map (·.args)) i = some b ∧ (b = true ↔ (∀ q n, i ≤ q → ns[q]? = some n → okS ns q n) ∧ ((∀ q n, ns[q]? = some n → okS ns q n) → ∀ t ∈ decT [] ns, t.size ≤ 500 ∧ t.depth ≤ 200)) := fun m1 m2 m3 m4 => by
      rw [r31_typesValid_j0_eq]
      rcases tv_l1 ns ((ns.take i).map (·.args)) i n hn (by simp [lim]; omega) (by simp [lim]; omega) i 0 (by omega) with ⟨⟨q, q1, q2, q3⟩, e⟩ | ⟨hnew, e⟩
      · exact ⟨false, e, hb rfl fun h => h.new q q2 q3⟩
      · have hok : okS ns i n := ⟨m1, m2, m3, m4, fun q hq => hnew q (by omega) hq⟩
        obtain ⟨b, g1, g2⟩ := tv_l0 ns hl hz j (i + 1) (by omega) fun q m h1 h2 => by
          by_cases hq : q = i
          · subst hq; rw [hn] at h2; injection h2 with h2; subst h2; exact hok
          · exact ho q m (by omega) h2
        have et : (ns.take i).map (·.args) ++ [n.args] = (ns.take (i + 1)).map (·.args) := by rw [List.take_add_one, hn]; simp
        refine ⟨b, ?_, g2.trans ⟨fun h => ⟨fun q m h1 h2 => ?_, h.2⟩, fun h => ⟨fun q m h1 h2 => h.1 q m (by omega) h2, h.2⟩⟩⟩
        · rw [← et] at g1
          have e : r31_typesValid_l1 _ (i : Int) ((0 : Nat) : Int) ns = _ := e
          exact e.trans g1
        · by_cases hq : q = i
          · subst hq; rw [hn] at h2; injection h2 with h2; subst h2; exact hok
          · exact h.1 q m (by omega) h2
    by_cases hv : n.var = true
    · rw [if_pos hv]
      by_cases h0 : 0 < n.args.length
      · rw [if_pos (by omega)]
        exact ⟨false, rfl, hb rfl fun h => by rw [h.var hv] at h0; simp at h0⟩
      · have hnil : n.args = [] := List.length_eq_zero_iff.1 (by omega)
        rw [if_neg (by omega), if_neg (by omega)]
        by_cases hvl : Ty.valid (.mk n.var n.name []) = true
        · rw [if_pos hvl]
          by_cases hbl : blw n.args i = true
          · rw [if_pos hbl]; exact main (by omega) (fun _ => hnil) hvl hbl
          · rw [if_neg hbl]; exact ⟨false, rfl, hb rfl fun h => hbl h.bel⟩
        · rw [if_neg hvl]; exact ⟨false, rfl, hb rfl fun h => hvl h.val⟩
    · rw [if_neg hv]
      by_cases h8 : 8 < n.args.length
      · rw [if_pos (by omega)]; exact ⟨false, rfl, hb rfl fun h => by have := h.len; omega⟩
      · rw [if_neg (by omega)]
        by_cases hvl : Ty.valid (.mk n.var n.name []) = true
        · rw [if_pos hvl]
          by_cases hbl : blw n.args i = true
          · rw [if_pos hbl]; exact main (by omega) (fun h => absurd h hv) hvl hbl
          · rw [if_neg hbl]; exact ⟨false, rfl, hb rfl fun h => hbl h.bel⟩
        · rw [if_neg hvl]; exact ⟨false, rfl, hb rfl fun h => hvl h.val⟩
theorem openT_of : ∀ ns : List TN, (∀ q n, ns[q]? = some n → okS ns q n) → (∀ t ∈ decT [] ns, t.size ≤ 500 ∧ t.depth ≤ 200) → openT [] [] ns = true := by
  intro ns
  induction ns using snoc_ind with
  | h0 => intros; rfl
  | h1 l a ih =>
    intro ho ht
    have hl : (decT [] l).length = l.length := by rw [decT_len]; simp
    have ha : okS (l ++ [a]) l.length a := ho _ _ (by simp)
    rw [decT_snoc] at ht
    have h1 := ih (fun q n hq => by
      have hlt := (List.getElem?_eq_some_iff.1 hq).1
      have := ho q n (by rw [List.getElem?_append_left hlt]; exact hq)
      exact ⟨this.len, this.var, this.val, this.bel, fun j hj h => this.new j hj (by rw [List.getElem?_append_left (by omega)]; exact h)⟩) fun t h => ht t (by simp [h])
    rw [openT_snoc, h1, Bool.true_and]
    have hsz := ht (nodeT (decT [] l) a) (by simp)
    rw [okT_iff.2 ⟨ha.len, ha.var, ha.val, by rw [hl]; exact ha.bel, hsz.1, hsz.2⟩, Bool.true_and, List.nil_append]
    rw [show idxK keyT l (keyT a) = none from (idxK_none (key := keyT)).2 fun b hb e => by
      obtain ⟨q, hq⟩ := List.getElem?_of_mem hb
      have hlt := (List.getElem?_eq_some_iff.1 hq).1
      have hbo := ho q b (by rw [List.getElem?_append_left hlt]; exact hq)
      have := keyT_inj ha.len hbo.len e
      subst this
      exact ha.new q hlt (by rw [List.getElem?_append_left hlt]; exact hq)]
    rfl
theorem typesValid_eq (ns : List TN) (hl : ns.length ≤ 4200) (hz : ∀ n ∈ ns, n.name.size ≤ big) : r31_typesValid ns = some (openT [] [] ns) := by
  obtain ⟨b, g1, g2⟩ := tv_l0 ns hl hz ns.length 0 (by omega) fun q n h => by omega
  have e : r31_typesValid ns = some b := g1
  rw [e]
  congr 1
  rw [Bool.eq_iff_iff, g2]
  constructor
  · rintro ⟨h1, h2⟩
    have ho : ∀ q n, ns[q]? = some n → okS ns q n := fun q n h => h1 q n (by omega) h
    exact openT_of ns ho (h2 ho)
  · intro h
    have hw := WT.of h
    refine ⟨fun q n _ hn => ?_, fun _ t ht => ?_⟩
    · obtain ⟨k1, k2, k3⟩ := hw.node hn
      refine ⟨k3.len, k3.var, k3.val, k2, fun j hj hjn => ?_⟩
      obtain ⟨k1', _, _⟩ := hw.node hjn
      have := hw.uniq _ _ _ k1 k1'
      omega
    · obtain ⟨q, hq⟩ := List.getElem?_of_mem ht
      have hlt : q < ns.length := by rw [← hw.len]; exact (List.getElem?_eq_some_iff.1 hq).1
      obtain ⟨k1, k2, k3⟩ := hw.node (List.getElem?_eq_getElem hlt)
      rw [hq] at k1; injection k1 with k1
      rw [k1]; exact ⟨k3.sz, k3.dp⟩
/-! ### terms -/
theorem fine_eqk (n : MN) (k nt : Int) (h : n.name.size ≤ big) : r31_fine n k nt = some (fineM n k nt) := by
  have key : ∀ t7 : Bool, t7 = decide (n.index = 0 ∧ 0 ≤ n.type_ ∧ n.type_ < nt ∧ cname n.name = true) → blw n.sub k = true → r31_fine_j0 t7 n = some (fineM n k nt) := fun t7 h7 hb => by
    have k2 : ∀ t8 : Bool, t8 = decide (n.type_ = -1 ∧ n.name = ByteArray.empty) → r31_fine_j1 t8 n t7 = some (fineM n k nt) := fun t8 h8 => by
      unfold r31_fine_j1
      simp only [intDs_i64_len]
      rw [fineM, hb, Bool.true_and]
      by_cases e1 : n.kind = 1
      · rw [if_pos e1, h7]
        simp only [arity, fineK, e1]
        by_cases g1 : n.index = 0 <;> by_cases g2 : 0 ≤ n.type_ <;> by_cases g3 : n.type_ < nt <;> by_cases g4 : cname n.name = true <;> simp [g1, g2, g3, g4]
      · rw [if_neg e1]
        by_cases e2 : n.kind = 2
        · rw [if_pos e2, h7]
          simp only [arity, fineK, e2]
          by_cases g1 : n.index = 0 <;> by_cases g2 : 0 ≤ n.type_ <;> by_cases g3 : n.type_ < nt <;> by_cases g4 : cname n.name = true <;> simp [g1, g2, g3, g4]
        · rw [if_neg e2]
          by_cases e3 : n.kind = 3
          · rw [if_pos e3, h8]
            simp only [arity, fineK, e3]
            by_cases g1 : n.type_ = -1 <;> by_cases g2 : n.name = ByteArray.empty <;> by_cases g3 : 0 ≤ n.index <;> by_cases g4 : n.index < 300 <;> simp [g1, g2, g3, g4]
          · rw [if_neg e3]
            by_cases e4 : n.kind = 4
            · rw [if_pos e4, h8]
              simp only [arity, fineK, e4]
              by_cases g1 : n.type_ = -1 <;> by_cases g2 : n.name = ByteArray.empty <;> by_cases g3 : n.index = 0 <;> simp [g1, g2, g3]
            · rw [if_neg e4]
              by_cases e5 : n.kind = 5
              · rw [if_pos e5, h7]
                simp only [arity, fineK, e5]
                by_cases g1 : n.index = 0 <;> by_cases g2 : 0 ≤ n.type_ <;> by_cases g3 : n.type_ < nt <;> by_cases g4 : cname n.name = true <;> simp [g1, g2, g3, g4]
              · rw [if_neg e5]
                simp [arity, e1, e2, e3, e4, e5]
    unfold r31_fine_j0
    by_cases g1 : n.name = ByteArray.empty
    · rw [if_pos g1]
      by_cases g2 : n.type_ = -1
      · rw [if_pos g2]; exact k2 _ (by simp [g1, g2])
      · rw [if_neg g2]; exact k2 _ (by simp [g2])
    · rw [if_neg g1]; exact k2 _ (by simp [g1])
  unfold r31_fine
  rw [below_eqk, bs]
  by_cases hb : blw n.sub k = true
  · rw [if_pos hb, ref2_name_eq _ h, bs]
    by_cases g4 : cname n.name = true
    · rw [if_pos g4]
      by_cases g2 : 0 ≤ n.type_
      · rw [if_pos g2]
        by_cases g3 : n.type_ < nt
        · rw [if_pos g3]
          by_cases g1 : n.index = 0
          · rw [if_pos g1]; exact key _ (by simp [g1, g2, g3, g4]) hb
          · rw [if_neg g1]; exact key _ (by simp [g1]) hb
        · rw [if_neg g3]; exact key _ (by simp [g3]) hb
      · rw [if_neg g2]; exact key _ (by simp [g2]) hb
    · rw [if_neg g4]; exact key _ (by simp [g4]) hb
  · rw [if_neg hb]; simp [fineM, hb]
theorem vl_1 (a : AStore) (rest : List MN) (i : Nat) (n : MN) (hi : i ≤ a.terms.length) (hlm : a.terms.length ≤ 4200) : ∀ (j k : Nat), k + j = i →
    ((∃ q m, k ≤ q ∧ q < i ∧ a.terms[q]? = some m ∧ eqM m n = true) ∧ r31_Valid_l1 k a i rest n = some false) ∨ ((∀ q m, k ≤ q → q < i → a.terms[q]? = some m → eqM m n = false) ∧ r31_Valid_l1 k a i rest n = r31_Valid_l0 rest (i + 1) a)
  | 0, k, hk => by
    refine .inr ⟨fun q m h1 h2 => by omega, ?_⟩
    rw [r31_Valid_l1_eq, if_neg (by omega)]
  | j + 1, k, hk => by
    have hk2 : k < a.terms.length := by omega
    have ih := vl_1 a rest i n hi hlm j (k + 1) (by omega)
    rw [r31_Valid_l1_eq, if_pos (by omega), geti_nat, List.getElem?_eq_getElem hk2, bs, sameTerm_eq, bs]
    cases he : eqM a.terms[k] n with
    | true => exact .inl ⟨⟨k, _, Nat.le_refl _, by omega, List.getElem?_eq_getElem hk2, he⟩, by simp⟩
    | false =>
      rw [if_neg (by simp), wr (by omega) (by omega), bs, show (k : Int) + 1 = ((k + 1 : Nat) : Int) by omega]
      rcases ih with ⟨⟨q, m, q1, q2, q3, q4⟩, e⟩ | ⟨q, e⟩
      · exact .inl ⟨⟨q, m, by omega, q2, q3, q4⟩, e⟩
      · refine .inr ⟨fun p m p1 p2 p3 => ?_, e⟩
        by_cases hp : p = k
        · subst hp
          rw [List.getElem?_eq_getElem hk2] at p3; injection p3 with p3; subst p3; exact he
        · exact q p m (by omega) p2 p3
theorem vl_0 (a : AStore) (hlm : a.terms.length ≤ 4200) (hz : ∀ n ∈ a.terms, n.name.size ≤ big) : ∀ (j i : Nat), i + j = a.terms.length → (∀ m ∈ a.terms.take i, m.sub.length ≤ 2) →
    r31_Valid_l0 (a.terms.drop i) i a = some (openM a.types.length (a.terms.take i) (a.terms.drop i))
  | 0, i, hi, ho => by
    rw [r31_Valid_l0_eq, List.drop_eq_nil_of_le (by omega)]; rfl
  | j + 1, i, hi, ho => by
    have hil : i < a.terms.length := by omega
    have hd := List.drop_eq_getElem_cons hil
    have hn := List.getElem?_eq_getElem hil
    have hmem := List.getElem_mem hil
    rw [hd]
    generalize a.terms[i] = n at *
    rw [r31_Valid_l0_eq]
    simp only [YN.Ds_len]
    rw [fine_eqk n _ _ (hz n hmem), bs]
    have htl : (a.terms.take i).length = i := by simp; omega
    simp only [openM, htl]
    by_cases hf : fineM n i a.types.length = true
    · rw [if_pos hf, hf, Bool.true_and]
      have hsub := (fineM_iff.1 hf).len
      have et : a.terms.take i ++ [n] = a.terms.take (i + 1) := by rw [List.take_add_one, hn]; rfl
      have hkey : idxK keyM (a.terms.take i) (keyM n) = none ↔ ∀ q m, q < i → a.terms[q]? = some m → eqM m n = false := by
        rw [idxK_none]
        constructor
        · intro h q m hq hm
          have hmt : m ∈ a.terms.take i := List.mem_of_getElem? (i := q) (by rw [List.getElem?_take, if_pos hq]; exact hm)
          cases he : eqM m n with
          | false => rfl
          | true => exact absurd ((eqM_iff (ho m hmt) hsub).1 he).symm (h m hmt)
        · intro h m hmt e
          obtain ⟨q, hq⟩ := List.getElem?_of_mem hmt
          have hqi : q < i := by have := (List.getElem?_eq_some_iff.1 hq).1; omega
          rw [List.getElem?_take, if_pos hqi] at hq
          have := h q m hqi hq
          rw [(eqM_iff (ho m hmt) hsub).2 e.symm] at this; cases this
      rcases vl_1 a (a.terms.drop (i + 1)) i n (by omega) hlm i 0 (by omega) with ⟨⟨q, m, q1, q2, q3, q4⟩, e⟩ | ⟨hnew, e⟩
      · have e : r31_Valid_l1 ((0 : Nat) : Int) a i (a.terms.drop (i + 1)) n = _ := e
        refine e.trans ?_
        cases hk : idxK keyM (a.terms.take i) (keyM n) with
        | some _ => rfl
        | none => have := hkey.1 hk q m q2 q3; rw [q4] at this; cases this
      · have e : r31_Valid_l1 ((0 : Nat) : Int) a i (a.terms.drop (i + 1)) n = _ := e
        refine e.trans ?_
        rw [hkey.2 fun q m hq hm => hnew q m (by omega) hq hm, et]
        simp only [Option.isNone_none, Bool.true_and]
        exact vl_0 a hlm hz j (i + 1) (by omega) fun m hm => by
          rw [← et] at hm
          rcases List.mem_append.1 hm with hm | hm
          · exact ho m hm
          · simp at hm; subst hm; exact hsub
    · rw [if_neg hf]
      simp only [Bool.not_eq_true] at hf
      rw [hf]; rfl
theorem ref_Check_k (a : AStore) (h : a.thin) : r31_Check a = some (if a.few = true then (if a.wf = true then 0 else 8) else 4) := by
  have h1 := h.nt
  have h2 := h.nm
  unfold r31_Check
  simp only [YN.Ds_len, XN.Ds_len]
  by_cases g1 : a.types.length ≤ 4096
  · rw [if_neg (by omega)]
    by_cases g2 : a.terms.length ≤ 4096
    · rw [if_neg (by omega), if_pos (few_iff.2 ⟨g1, g2⟩), r31_Valid, typesValid_eq _ h1 fun n hn => (h.at_ n hn).1, bs]
      have hv := vl_0 a h2 (fun n hn => (h.am n hn).1) a.terms.length 0 (by omega) (by simp)
      simp only [List.drop_zero, List.take_zero] at hv
      rw [AStore.wf]
      by_cases ho : openT [] [] a.types = true
      · rw [if_pos ho, hv, bs, ho, Bool.true_and]
        split <;> rfl
      · rw [if_neg ho, bs]
        simp [ho]
    · rw [if_pos (by omega), if_neg (fun hf => g2 (few_iff.1 hf).2)]
  · rw [if_pos (by omega), if_neg (fun hf => g1 (few_iff.1 hf).1)]
end Go.Proofs.Ytpgecpmonaldiaa.Fw


namespace Go.Proofs.Ytpgecpmonaldiaa.Fw
open Go Go.Proofs

theorem typeAt_l {a : AStore} {tys : List Ty} (i : Nat) (n : TN) (hn : a.types[i]? = some n) (h20 : n.args.length ≤ 20) (hr : ∀ j ∈ n.args, r31_TypeAt a j = some (tys.getD j.toNat zTy)) (n1 n2 : TN) : ∀ (j k : Nat) (acc : List Ty), k + j = n.args.length → acc.length = k →
    r31_TypeAt_l0 k acc a i n1 n2 = some (Ty.mk n1.var n2.name (acc ++ (n.args.drop k).map fun j => tys.getD j.toNat zTy))
  | 0, k, acc, hk, ha => by
    rw [r31_TypeAt_l0_eq, geti_nat, hn, bs]
    simp only [intDs_i64_len]
    rw [if_neg (by omega), List.drop_eq_nil_of_le (by omega)]; simp
  | j + 1, k, acc, hk, ha => by
    have hkl : k < n.args.length := by omega
    rw [r31_TypeAt_l0_eq, geti_nat, hn, bs]
    simp only [intDs_i64_len]
    rw [if_pos (by omega), bs, geti_nat, List.getElem?_eq_getElem hkl, bs, hr _ (List.getElem_mem hkl), bs, app_ok (by simp; omega), bs, wr (by omega) (by omega), bs, show (k : Int) + 1 = ((k + 1 : Nat) : Int) by omega]
    rw [typeAt_l i n hn h20 hr n1 n2 j (k + 1) _ (by omega) (by simp [ha]), List.drop_eq_getElem_cons hkl]
    simp only [List.map_cons, List.append_assoc, List.cons_append, List.nil_append]
theorem typeAt_eq {a : AStore} {tys : List Ty} (h : WT a.types tys) : ∀ (i : Nat) (t : Ty), tys[i]? = some t → r31_TypeAt a i = some t := by
  intro i
  induction i using Nat.strongRecOn with
  | _ i ih =>
    intro t ht
    have hlt : i < a.types.length := by rw [← h.len]; exact (List.getElem?_eq_some_iff.1 ht).1
    have hn := List.getElem?_eq_getElem hlt
    obtain ⟨g1, g2, g3⟩ := h.node hn
    rw [ht] at g1
    injection g1 with g1
    have hr : ∀ j ∈ (a.types[i]).args, r31_TypeAt a j = some (tys.getD j.toNat zTy) := fun j hj => by
      obtain ⟨q1, q2⟩ := blw_iff.1 g2 j hj
      have hl : j.toNat < tys.length := by have := h.len; omega
      have := ih j.toNat (by omega) _ (List.getElem?_eq_getElem hl)
      rw [Int.toNat_of_nonneg q1] at this
      rw [this, List.getD_eq_getElem?_getD, List.getElem?_eq_getElem hl]; rfl
    rw [r31_TypeAt_eq, geti_nat, hn, bs, bs]
    have := typeAt_l i _ hn (by have := g3.len; omega) hr a.types[i] a.types[i] (a.types[i]).args.length 0 [] (by omega) rfl
    refine Eq.trans this ?_
    rw [g1]; simp [nodeT]
theorem GetType_both (a : AStore) (h : a.thin) (i : Int) : ∃ v : Ty × Int, hash_GetType a i = some v ∧ r31_GetType a i = some v := by
  unfold hash_GetType r31_GetType
  rw [open_eq a h, bs, ref_Check_k a h, bs]
  by_cases hf : a.few = true
  · rw [if_pos hf, if_pos hf]
    by_cases hw : a.wf = true
    · rw [if_pos hw, if_pos hw, if_pos rfl]
      simp only [hash_GetType_j0c, YN.Ds_len, r31_GetType_j0]
      by_cases h1 : i < 0
      · rw [if_pos h1, if_pos h1]; exact ⟨_, rfl, by simp⟩
      · rw [if_neg h1, if_neg h1]
        by_cases h2 : (a.types.length : Int) ≤ i
        · rw [if_pos h2, if_pos h2]; exact ⟨_, rfl, by simp⟩
        · rw [if_neg h2, if_neg h2]
          have hs := Sto.of hf hw
          have hl := hs.wt.len
          have ht : (decT [] a.types)[i.toNat]? = some (decT [] a.types)[i.toNat] := List.getElem?_eq_getElem (by omega)
          have e1 := typ_io_eq hs.wt a.terms (mapOf keyT 0 a.types) (mapOf keyM 0 a.terms) i.toNat _ ht
          have e2 := typeAt_eq hs.wt i.toNat _ ht
          rw [Int.toNat_of_nonneg (by omega)] at e1 e2
          rw [e1, bs, if_neg (by simp), e2, bs]
          exact ⟨_, rfl, rfl⟩
    · rw [if_neg hw, if_neg hw, if_neg (by omega)]
      exact ⟨_, rfl, by simp [r31_GetType_j0]⟩
  · rw [if_neg hf, if_neg hf, if_neg (by omega)]
    exact ⟨_, rfl, by simp [r31_GetType_j0]⟩
/-! ### sizes -/
theorem Szs_terms {tys : List Ty} {ms : List MN} {tms : List Tm} (h : WM tys ms tms) : Szs (ms.map (·.sub)) (tms.map Tm.size) (tms.map Tm.depth) := by
  have hl := h.len
  refine ⟨by simp [hl], by simp [hl], fun i p hp => ?_⟩
  rw [List.getElem?_map, Option.map_eq_some_iff] at hp
  obtain ⟨n, hn, rfl⟩ := hp
  obtain ⟨g1, g2⟩ := h.node hn
  have hlt := (List.getElem?_eq_some_iff.1 hn).1
  have hj : ∀ j ∈ n.sub, 0 ≤ j ∧ j < tms.length := fun j hj => by have := blw_iff.1 g2.bel j hj; omega
  refine ⟨by have := g2.len; omega, g2.bel, ?_, ?_⟩
  · rw [List.getElem?_map, g1, Option.map_some, nodeE_size hj]
  · rw [List.getElem?_map, g1, Option.map_some, nodeE_depth hj]
def sizeR (x : Tm) : Int × Int := if x.size ≤ 32000 ∧ x.depth ≤ 300 then ((x.size : Int), 0) else (0, 21)
theorem table_size_k {a : AStore} {tys : List Ty} {tms : List Tm} (h : Sto a tys tms) {i : Nat} {x : Tm} (hi : tms[i]? = some x) (b0 : List TN) (b3 : List (YK × Int)) (b4 : List (XK × Int)) :
    hash_table_size_io i b0 a.terms b3 b4 = some ((sizeR x).1, (sizeR x).2, b0, a.terms, b3, b4) := by
  obtain ⟨f1, f2⟩ := few_iff.1 h.few
  have hlt : i < a.terms.length := by rw [← h.wm.len]; exact (List.getElem?_eq_some_iff.1 hi).1
  unfold hash_table_size_io
  simp only [XN.Ds_len]
  rw [if_neg (show ¬ (i : Int) < 0 by omega), if_neg (show ¬ (a.terms.length : Int) ≤ (i : Int) by omega), bs, wr (by omega) (by omega), cut, if_pos (by omega), bs]
  have := size_l h.wm i hlt (by simp only [lim]; omega) b0 a.terms b3 b4 (i + 1) 0 (by omega)
  simp only [List.take_zero, List.drop_zero] at this
  have e : ((i : Int) + 1).toNat = i + 1 := by omega
  simp only [e, Int.toNat_zero, List.drop_zero]
  have this : hash_table_size_io_l0 (a.terms.take (i + 1)) [] [] i b0 a.terms b3 b4 = _ := this
  rw [this]
  unfold hash_table_size_io_j0
  have g1 : geti (capM (tms.take (i + 1))) (i : Int) = some (cS x.size) := by
    rw [geti_nat, capM, List.getElem?_map, List.getElem?_map, List.getElem?_take, if_pos (by omega), hi]; rfl
  have g2 : geti (capMD (tms.take (i + 1))) (i : Int) = some (cD x.depth) := by
    rw [geti_nat, capMD, List.getElem?_map, List.getElem?_map, List.getElem?_take, if_pos (by omega), hi]; rfl
  rw [g1, bs, g2, sizeR]
  by_cases hs : x.size ≤ 32000
  · rw [if_neg (by simp only [cS]; omega), bs]
    by_cases hd : x.depth ≤ 300
    · rw [if_neg (by simp only [cD]; omega), bs, if_pos ⟨hs, hd⟩]
      simp only [cS, Option.some.injEq, Prod.mk.injEq, and_true]
      omega
    · rw [if_pos (by simp only [cD]; omega), if_neg (fun h => hd h.2)]
  · rw [if_pos (by simp only [cS]; omega), if_neg (fun h => hs h.1)]
theorem refSize_l (ms : List MN) (i : Int) (hl : ms.length ≤ 4200) : ∀ (j k : Nat), k + j = ms.length → r31_Size_l0 (ms.drop k) ((ms.take k).map (·.sub)) i = r31_Size_j1 i (ms.map (·.sub))
  | 0, k, hk => by rw [r31_Size_l0_eq, List.drop_eq_nil_of_le (by omega), List.take_of_length_le (by omega)]
  | j + 1, k, hk => by
    have hkl : k < ms.length := by omega
    rw [r31_Size_l0_eq, List.drop_eq_getElem_cons hkl]
    simp only []
    rw [app_ok (by simp; omega), bs]
    have e : (ms.take k).map (·.sub) ++ [(ms[k]).sub] = (ms.take (k + 1)).map (·.sub) := by rw [List.take_succ_eq_append_getElem hkl, List.map_append]; rfl
    rw [e]
    exact refSize_l ms i hl j (k + 1) (by omega)
theorem refSize_k {a : AStore} {tys : List Ty} {tms : List Tm} (h : Sto a tys tms) {i : Nat} {x : Tm} (hi : tms[i]? = some x) : r31_Size_l0 a.terms [] i = some (sizeR x) := by
  obtain ⟨f1, f2⟩ := few_iff.1 h.few
  have := refSize_l a.terms i (by omega) a.terms.length 0 (by omega)
  simp only [List.drop_zero, List.take_zero, List.map_nil] at this
  rw [this, r31_Size_j1, Sized_eqk (Szs_terms h.wm) (by simp [lim]; omega), bs]
  simp only []
  rw [geti_nat, geti_nat, List.getElem?_map, List.getElem?_map, List.getElem?_map, List.getElem?_map, hi]
  simp only [Option.map_some, bs]
  have e1 : (32000 : Int) < c4 x.size ↔ 32000 < x.size := c4_lt (k := 32000) (by omega)
  have e2 : (300 : Int) < c4 x.depth ↔ 300 < x.depth := c4_lt (k := 300) (by omega)
  rw [sizeR]
  by_cases hs : x.size ≤ 32000
  · rw [if_neg (fun h => by have := e1.1 h; omega)]
    by_cases hd : x.depth ≤ 300
    · rw [if_neg (fun h => by have := e2.1 h; omega), if_pos ⟨hs, hd⟩]
      simp only [c4, Option.some.injEq, Prod.mk.injEq, and_true]
      omega
    · rw [if_pos (e2.2 (by omega)), if_neg (fun h => hd h.2)]
  · rw [if_pos (e1.2 (by omega)), if_neg (fun h => hs h.1)]
/-- what Size answers -/
inductive SizeAns (a : AStore) (i : Int) : Int × Int → Prop
  | err (e : Int) (he : e ≠ 0) (h1 : hash_open_io a = some (if a.few = true then (if a.wf = true then .inr (.inr (a.types, a.terms, mapOf keyT 0 a.types, mapOf keyM 0 a.terms)) else .inr (.inl ())) else .inl ())) (hno : ¬ (a.few = true ∧ a.wf = true ∧ 0 ≤ i ∧ i < a.terms.length)) : SizeAns a i (0, e)
  | at_ (tys : List Ty) (tms : List Tm) (x : Tm) (hs : Sto a tys tms) (h0 : 0 ≤ i) (hi : tms[i.toNat]? = some x) : SizeAns a i (sizeR x)
theorem Size_both (a : AStore) (h : a.thin) (i : Int) : ∃ v : Int × Int, hash_Size a i = some v ∧ r31_Size a i = some v ∧ SizeAns a i v := by
  unfold hash_Size r31_Size
  have ho := open_eq a h
  rw [ho, bs, ref_Check_k a h, bs]
  by_cases hf : a.few = true
  · rw [if_pos hf, if_pos hf]
    by_cases hw : a.wf = true
    · rw [if_pos hw, if_pos hw, if_pos rfl]
      simp only [hash_Size_j0c, XN.Ds_len, r31_Size_j0]
      by_cases h1 : i < 0
      · rw [if_pos h1, hash_table_size_io, if_pos h1, bs]; exact ⟨_, rfl, by simp, .err 6 (by omega) ho (by omega)⟩
      · rw [if_neg h1]
        by_cases h2 : (a.terms.length : Int) ≤ i
        · rw [if_pos h2, hash_table_size_io, if_neg h1]
          simp only [XN.Ds_len]
          rw [if_pos h2, bs]; exact ⟨_, rfl, by simp, .err 6 (by omega) ho (by omega)⟩
        · rw [if_neg h2]
          have hs := Sto.of hf hw
          have hl := hs.wm.len
          have ht : (decE (decT [] a.types) [] a.terms)[i.toNat]? = some (decE (decT [] a.types) [] a.terms)[i.toNat] := List.getElem?_eq_getElem (by omega)
          have e1 := table_size_k hs ht a.types (mapOf keyT 0 a.types) (mapOf keyM 0 a.terms)
          have e2 := refSize_k hs ht
          rw [Int.toNat_of_nonneg (by omega)] at e1 e2
          rw [e1, bs, if_neg (by simp), e2]
          exact ⟨_, rfl, rfl, .at_ _ _ _ hs (by omega) ht⟩
    · rw [if_neg hw, if_neg hw, if_neg (by omega)]
      exact ⟨_, rfl, by simp [r31_Size_j0], .err 8 (by omega) ho (fun h => hw h.2.1)⟩
  · rw [if_neg hf, if_neg hf, if_neg (by omega)]
    exact ⟨_, rfl, by simp [r31_Size_j0], .err 4 (by omega) ho (fun h => hf h.1)⟩
theorem Huge_k (a : AStore) (h : a.thin) (i : Int) : ∃ b, r31_Huge a i = some b := by
  obtain ⟨v, _, h2, _⟩ := Size_both a h i
  rw [r31_Huge, h2, bs]
  split <;> exact ⟨_, rfl⟩
/-! ### terms -/
theorem Ty.oks_of : ∀ {xs : List Ty}, (∀ x ∈ xs, x.ok) → Ty.oks xs
  | [], _ => trivial
  | a :: r, h => ⟨h a (by simp), Ty.oks_of fun x hx => h x (by simp [hx])⟩
theorem Tm.oks_ofH : ∀ {xs : List Tm}, (∀ x ∈ xs, x.ok) → Tm.oks xs
  | [], _ => trivial
  | a :: r, h => ⟨h a (by simp), Tm.oks_ofH fun x hx => h x (by simp [hx])⟩
theorem WT.okd {ns : List TN} {tys : List Ty} (h : WT ns tys) (hz : ∀ n ∈ ns, n.name.size ≤ big) : ∀ (i : Nat) (t : Ty), tys[i]? = some t → t.ok ∧ t.size ≤ 500 := by
  intro i
  induction i using Nat.strongRecOn with
  | _ i ih =>
    intro t ht
    have hlt : i < ns.length := by rw [← h.len]; exact (List.getElem?_eq_some_iff.1 ht).1
    have hn := List.getElem?_eq_getElem hlt
    obtain ⟨g1, g2, g3⟩ := h.node hn
    rw [ht] at g1
    injection g1 with g1
    refine ⟨?_, by rw [g1]; exact g3.sz⟩
    rw [g1]
    refine ⟨hz _ (List.getElem_mem hlt), by have := g3.len; simp [nodeT, big]; omega, ?_⟩
    refine (Ty.oks_of ?_)
    intro x hx
    obtain ⟨j, hj, rfl⟩ := List.mem_map.1 hx
    obtain ⟨q1, q2⟩ := blw_iff.1 g2 j hj
    have hl : j.toNat < tys.length := by have := h.len; omega
    rw [List.getD_eq_getElem?_getD, List.getElem?_eq_getElem hl]
    exact (ih j.toNat (by omega) _ (List.getElem?_eq_getElem hl)).1
end Go.Proofs.Ytpgecpmonaldiaa.Fw


namespace Go.Proofs.Ytpgecpmonaldiaa.Fw
open Go Go.Proofs

theorem tyss_ofO : ∀ {xs : List Tm}, (∀ x ∈ xs, x.tys) → Tm.tyss xs
  | [], _ => trivial
  | a :: r, h => ⟨h a (by simp), tyss_ofO fun x hx => h x (by simp [hx])⟩
theorem term_lO {a : AStore} {ns : List TN} {ms : List MN} {tms : List Tm} (b3 : List (YK × Int)) (b4 : List (XK × Int)) (v : Bool) (s : ByteArray) (ts : List Ty) (n : MN) : ∀ (js : List Int) (acc : List Tm),
    (∀ j ∈ js, ∃ y : Tm, hash_table_term_io j ns ms b3 b4 = some (y, ns, ms, b3, b4) ∧ r31_At a j = some y ∧ y.er = tms.getD j.toNat zTm ∧ y.ng ∧ y.ok ∧ y.tys) → acc.length + js.length ≤ 100 →
    ∃ ys : List Tm, hash_table_term_io_l0 js ns ms b3 b4 acc v s ts n = some (Tm.mk n.kind n.name (.mk v s ts) n.index (acc ++ ys), ns, ms, b3, b4) ∧ r31_At_l0 js acc a v s ts n = some (Tm.mk n.kind n.name (.mk v s ts) n.index (acc ++ ys)) ∧
      Tm.ers ys = (js.map fun j => tms.getD j.toNat zTm) ∧ Tm.ngs ys ∧ ∀ y ∈ ys, y.ok ∧ y.tys
  | [], acc, h, hl => ⟨[], by rw [hash_table_term_io_l0_eq]; simp, by rw [r31_At_l0_eq]; simp, rfl, trivial, by simp⟩
  | j :: r, acc, h, hl => by
    simp only [List.length_cons] at hl
    obtain ⟨y, h1, h1', h2, h3, h4⟩ := h j (by simp)
    obtain ⟨ys, k1, k1', k2, k3, k4⟩ := term_lO b3 b4 v s ts n r (acc ++ [y]) (fun q hq => h q (by simp [hq])) (by simp; omega)
    refine ⟨y :: ys, ?_, ?_, by simp [Tm.ers, h2, k2], ⟨h3, k3⟩, fun z hz => ?_⟩
    · rw [hash_table_term_io_l0_eq]; simp only []
      rw [h1, bs, app_ok (by simp; omega), bs]
      simp only []
      rw [k1]; simp
    · rw [r31_At_l0_eq]; simp only []
      rw [h1', bs, app_ok (by simp; omega), bs, k1']; simp
    · rcases List.mem_cons.1 hz with rfl | hz
      · exact h4
      · exact k4 z hz
theorem arity_kind {k r : Int} (h : arity k = some r) : 0 ≤ k ∧ k ≤ 255 := by
  simp only [arity] at h
  repeat' split at h
  all_goals first | omega | cases h
theorem At_both {a : AStore} (hth : a.thin) {tys : List Ty} {tms : List Tm} (hs : Sto a tys tms) (b3 : List (YK × Int)) (b4 : List (XK × Int)) : ∀ (i : Nat) (x : Tm), tms[i]? = some x →
    ∃ y : Tm, hash_table_term_io i a.types a.terms b3 b4 = some (y, a.types, a.terms, b3, b4) ∧ r31_At a i = some y ∧ y.er = x ∧ y.ng ∧ y.ok ∧ y.tys := by
  have hw := hs.wt
  have h := hs.wm
  intro i
  induction i using Nat.strongRecOn with
  | _ i ih =>
    intro x hx
    have hlt : i < a.terms.length := by rw [← h.len]; exact (List.getElem?_eq_some_iff.1 hx).1
    have hn := List.getElem?_eq_getElem hlt
    obtain ⟨g1, g2⟩ := h.node hn
    have hnb := (hth.am _ (List.getElem_mem hlt)).1
    generalize a.terms[i] = n at *
    rw [hx] at g1
    injection g1 with g1
    have main : ∀ (v : Bool) (s : ByteArray) (ts : List Ty), Ty.mk v s ts = tyOf tys n.type_ → (Ty.mk v s ts).ok ∧ (Ty.mk v s ts).size ≤ 500 → ∃ y : Tm, hash_table_term_io_j0 a.types a.terms b3 b4 v s ts n = some (y, a.types, a.terms, b3, b4) ∧ r31_At_j0 v s ts a n = some y ∧ y.er = x ∧ y.ng ∧ y.ok ∧ y.tys := fun v s ts ht hto => by
      obtain ⟨ys, k1, k1', k2, k3, k4⟩ := term_lO (a := a) (ns := a.types) (ms := a.terms) (tms := tms) b3 b4 v s ts n n.sub [] (fun j hj => by
        obtain ⟨q1, q2⟩ := blw_iff.1 g2.bel j hj
        have hl : j.toNat < tms.length := by have := h.len; omega
        obtain ⟨y, p1, p1', p2, p3, p4⟩ := ih j.toNat (by omega) _ (List.getElem?_eq_getElem hl)
        rw [Int.toNat_of_nonneg q1] at p1 p1'
        exact ⟨y, p1, p1', by rw [p2, List.getD_eq_getElem?_getD, List.getElem?_eq_getElem hl]; rfl, p3, p4⟩) (by have := g2.len; simp; omega)
      have hyl : ys.length = n.sub.length := by have := congrArg List.length k2; simpa [Tm.ers_map] using this
      refine ⟨_, by rw [hash_table_term_io_j0_eq, k1], by rw [r31_At_j0_eq, k1'], ?_, ?_, ?_, ?_⟩
      · rw [g1]
        simp only [Tm.er, nodeE, Tm.mk.injEq, true_and, List.nil_append]
        exact ⟨ht, k2⟩
      · simp only [Tm.ng, List.nil_append]
        refine ⟨fun h5 => ?_, k3⟩
        have := g2.kd
        simp [fineK, h5] at this
        exact this.2.2.2
      · have hix : -9223372036854775808 ≤ n.index ∧ n.index ≤ 9223372036854775807 := by
          have := g2.kd
          simp only [fineK] at this
          split at this
          · simp only [Bool.and_eq_true, decide_eq_true_eq] at this; omega
          · split at this
            · simp only [Bool.and_eq_true, decide_eq_true_eq] at this; omega
            · simp only [Bool.and_eq_true, decide_eq_true_eq] at this; omega
        refine ⟨arity_kind g2.ar, hnb, hto.1, hix, ?_, Tm.oks_ofH fun z hz => (k4 z (by simpa using hz)).1⟩
        have := g2.len
        simp [big]; omega
      · refine ⟨by have := hto.2; simp [tlim]; omega, tyss_ofO fun z hz => (k4 z (by simpa using hz)).2⟩
    rw [hash_table_term_io_eq, r31_At_eq, geti_nat, hn, bs, bs]
    by_cases ht : 0 ≤ n.type_
    · rw [if_pos ht, if_pos ht]
      have hl : n.type_.toNat < tys.length := by
        rcases g2.ty with ⟨_, q⟩ | ⟨_, _, q⟩ <;> omega
      have this := typ_io_eq hw a.terms b3 b4 n.type_.toNat _ (List.getElem?_eq_getElem hl)
      have this2 := typeAt_eq hw n.type_.toNat _ (List.getElem?_eq_getElem hl)
      have hok := hw.okd (fun n hn => (hth.at_ n hn).1) n.type_.toNat _ (List.getElem?_eq_getElem hl)
      rw [Int.toNat_of_nonneg ht] at this this2
      rw [this, this2, bs, bs]
      have e : tys[n.type_.toNat] = tyOf tys n.type_ := by
        rw [tyOf, if_pos ht, List.getD_eq_getElem?_getD, List.getElem?_eq_getElem hl]; rfl
      generalize tys[n.type_.toNat] = q at *
      obtain ⟨v, s, ts⟩ := q
      exact main _ _ _ e hok
    · rw [if_neg ht, if_neg ht]
      exact main _ _ _ (by rw [tyOf, if_neg ht]; rfl) ⟨⟨by simp [big], by simp [big], trivial⟩, by simp [Ty.size, Ty.sizes]⟩
theorem beqT_self (t : Ty) : Ty.beq t t = true := (Ty.beq_iff t t).2 rfl
theorem exact_l (a b : Tm) (hs : ∀ x ∈ b.sub, r02_Exact x x = some true) : ∀ (j k : Nat), k + j = b.sub.length → r02_Exact_l0 (b.sub.drop k) k b = some true
  | 0, k, hk => by rw [r02_Exact_l0_eq, List.drop_eq_nil_of_le (by omega)]
  | j + 1, k, hk => by
    have hkl : k < b.sub.length := by omega
    rw [r02_Exact_l0_eq, List.drop_eq_getElem_cons hkl]
    simp only []
    rw [geti_nat, List.getElem?_eq_getElem hkl, bs, hs _ (List.getElem_mem hkl), bs, if_pos rfl]
    exact exact_l a b hs j (k + 1) (by omega)
mutual
theorem exact_self : ∀ t : Tm, r02_Exact t t = some true
  | .mk k n t i xs => by
    rw [r02_Exact_eq, if_neg (by simp), if_neg (by simp), ref_Same_eq, bs, beqT_self, if_pos rfl, if_neg (by simp), if_neg (by simp)]
    have := exact_l (.mk k n t i xs) (.mk k n t i xs) (exacts_self xs) xs.length 0 (by show 0 + xs.length = xs.length; omega)
    simpa using this
theorem exacts_self : ∀ xs : List Tm, ∀ x ∈ xs, r02_Exact x x = some true
  | [], x, hx => by cases hx
  | a :: r, x, hx => by
    rcases List.mem_cons.1 hx with e | hx
    · rw [e]; exact exact_self a
    · exact exacts_self r x hx
end
theorem Get_both (a : AStore) (h : a.thin) (i : Int) : ∃ v : Tm × Int, hash_Get a i = some v ∧ r31_Get a i = some v := by
  obtain ⟨v, h1, h2, h3⟩ := Size_both a h i
  unfold r31_Get hash_Get
  rw [h2, bs]
  unfold hash_Size at h1
  have ho := open_eq a h
  cases h3 with
  | err e he hoo hno =>
    simp only []
    rw [if_pos he]
    refine ⟨_, ?_, rfl⟩
    rw [ho, bs] at h1 ⊢
    by_cases hf : a.few = true
    · rw [if_pos hf] at h1 ⊢
      by_cases hw : a.wf = true
      · rw [if_pos hw] at h1 ⊢
        simp only [hash_Size_j0c, hash_Get_j0c] at h1 ⊢
        have hne : hash_table_size_io i a.types a.terms (mapOf keyT 0 a.types) (mapOf keyM 0 a.terms) = some (0, 6, a.types, a.terms, mapOf keyT 0 a.types, mapOf keyM 0 a.terms) := by
          unfold hash_table_size_io
          simp only [XN.Ds_len]
          by_cases h0 : i < 0
          · rw [if_pos h0]
          · rw [if_neg h0, if_pos (by rcases Int.lt_or_le i a.terms.length with h9 | h9; exact absurd ⟨hf, hw, by omega, h9⟩ hno; exact h9)]
        rw [hne, bs] at h1 ⊢
        injection h1 with h1; injection h1 with _ h1
        simp only [] at h1 ⊢
        subst h1
        rw [if_pos (by omega)]
      · rw [if_neg hw] at h1 ⊢
        injection h1 with h1; injection h1 with _ h1
        subst h1; rfl
    · rw [if_neg hf] at h1 ⊢
      injection h1 with h1; injection h1 with _ h1
      subst h1; rfl
  | at_ tys tms x hs h0 hi =>
    have e1 := table_size_k hs hi a.types (mapOf keyT 0 a.types) (mapOf keyM 0 a.terms)
    obtain ⟨y, k1, k1', k2, k3, k4, k5⟩ := At_both h hs (mapOf keyT 0 a.types) (mapOf keyM 0 a.terms) i.toNat x hi
    rw [Int.toNat_of_nonneg h0] at e1 k1 k1'
    rw [ho, bs, if_pos hs.few, if_pos hs.wf]
    simp only [hash_Get_j0c]
    rw [e1, bs]
    simp only []
    obtain ⟨w1, w2⟩ := er_size y
    rw [k2] at w1 w2
    by_cases hz : x.size ≤ 32000 ∧ x.depth ≤ 300
    · have es : sizeR x = ((x.size : Int), 0) := by rw [sizeR, if_pos hz]
      rw [es]
      simp only []
      rw [if_neg (by simp), k1, bs, if_neg (by simp), k1', bs]
      simp only []
      rw [terms_Check_eq y k4 (by simp only [lim]; omega) k5, ref2_Check_eq y k4 (by simp only [lim]; omega) k5, bs]
      split <;> exact ⟨_, rfl, rfl⟩
    · have es : sizeR x = (0, 21) := by rw [sizeR, if_neg hz]
      rw [es]
      simp only []
      rw [if_pos (by omega), if_pos (by omega)]
      exact ⟨_, rfl, rfl⟩
/-! ### what a term is built from -/
def Rch (tms : List Tm) (i p : Nat) : Prop := ∃ x y, tms[i]? = some x ∧ tms[p]? = some y ∧ y ∈ x.parts
theorem Rch.trans {tms : List Tm} {i j p : Nat} (h : Rch tms i j) (k : Rch tms j p) : Rch tms i p := by
  obtain ⟨x, y, h1, h2, h3⟩ := h
  obtain ⟨y', z, k1, k2, k3⟩ := k
  rw [h2] at k1; injection k1 with k1; subst k1
  exact ⟨x, z, h1, k2, parts_trans x y z h3 k3⟩
theorem Rch.self {tms : List Tm} {i : Nat} (h : i < tms.length) : Rch tms i i := ⟨_, _, List.getElem?_eq_getElem h, List.getElem?_eq_getElem h, Tm.self_parts _⟩
theorem Rch_node {tys : List Ty} {ms : List MN} {tms : List Tm} (hu : Uniq tms) (h : WM tys ms tms) {i : Nat} {n : MN} (hn : ms[i]? = some n) (p : Nat) : Rch tms i p ↔ p = i ∨ ∃ j ∈ n.sub, Rch tms j.toNat p := by
  obtain ⟨g1, g2⟩ := h.node hn
  have hil := (List.getElem?_eq_some_iff.1 g1).1
  have hsub : ∀ j ∈ n.sub, tms[j.toNat]? = some (tms.getD j.toNat zTm) := fun j hj => by
    have := blw_iff.1 g2.bel j hj
    exact getD_at (by omega)
  constructor
  · rintro ⟨x, y, h1, h2, h3⟩
    rw [g1] at h1; injection h1 with h1; subst h1
    simp only [nodeE, Tm.parts, List.mem_cons] at h3
    rcases h3 with h3 | h3
    · refine .inl (hu p i y h2 ?_)
      rw [h3, g1]; rfl
    · obtain ⟨z, hz, hy⟩ := mem_partss.1 h3
      obtain ⟨j, hj, rfl⟩ := List.mem_map.1 hz
      exact .inr ⟨j, hj, _, _, hsub j hj, h2, hy⟩
  · rintro (rfl | ⟨j, hj, x, y, h1, h2, h3⟩)
    · exact .self hil
    · rw [hsub j hj] at h1; injection h1 with h1; subst h1
      refine ⟨_, y, g1, h2, ?_⟩
      simp only [nodeE, Tm.parts, List.mem_cons]
      exact .inr (mem_partss.2 ⟨_, List.mem_map.2 ⟨j, hj, rfl⟩, h3⟩)
def ofNs (m : List Nat) : List Int := m.map fun q : Nat => (q : Int)
theorem ofNs_len (m : List Nat) : (ofNs m).length = m.length := by simp [ofNs]
theorem ofNs_get (m : List Nat) (k : Nat) : (ofNs m)[k]? = (m[k]?).map fun q : Nat => (q : Int) := by simp [ofNs]
theorem rch_l0 (a : AStore) (i : Nat) (m : List Nat) (hm : m.length ≤ 100000) : ∀ (j k : Nat), k + j = m.length →
    ((∃ q, k ≤ q ∧ m[q]? = some i) ∧ r31_Reached_io_l0 k a i (ofNs m) = some (ofNs m)) ∨
    ((∀ q, k ≤ q → m[q]? ≠ some i) ∧ r31_Reached_io_l0 k a i (ofNs m) = r31_Reached_io_l1 (ofNs (m ++ [i])) 0 a i)
  | 0, k, hk => by
    refine .inr ⟨fun q hq h => by have := (List.getElem?_eq_some_iff.1 h).1; omega, ?_⟩
    rw [r31_Reached_io_l0_eq]
    simp only [intDs_i64_len, ofNs_len]
    rw [if_neg (by omega), app_ok (by simp [ofNs_len]; omega), bs]
    simp [ofNs]
  | j + 1, k, hk => by
    have hkl : k < m.length := by omega
    have ih := rch_l0 a i m hm j (k + 1) (by omega)
    rw [r31_Reached_io_l0_eq]
    simp only [intDs_i64_len, ofNs_len]
    rw [if_pos (by omega), geti_nat, ofNs_get, List.getElem?_eq_getElem hkl, Option.map_some, bs]
    by_cases he : m[k] = i
    · rw [if_pos (by omega)]
      exact .inl ⟨⟨k, Nat.le_refl _, by rw [List.getElem?_eq_getElem hkl, he]⟩, rfl⟩
    · rw [if_neg (by omega), wr (by omega) (by omega), bs, show (k : Int) + 1 = ((k + 1 : Nat) : Int) by omega]
      rcases ih with ⟨⟨q, q1, q2⟩, e⟩ | ⟨q, e⟩
      · exact .inl ⟨⟨q, by omega, q2⟩, e⟩
      · refine .inr ⟨fun p p1 p2 => ?_, e⟩
        by_cases hp : p = k
        · subst hp
          rw [List.getElem?_eq_getElem hkl] at p2; injection p2 with p2; exact he p2
        · exact q p (by omega) p2
/-- what is reached from i is added -/
def RchOk (a : AStore) (tms : List Tm) (i : Nat) : Prop := ∀ m : List Nat, m.Nodup → (∀ j ∈ m, j < tms.length) → (∀ j ∈ m, j ≤ i → ∀ p, Rch tms j p → p ∈ m) →
  ∃ m' : List Nat, r31_Reached_io a i (ofNs m) = some (ofNs m') ∧ m'.Nodup ∧ (∀ j ∈ m', j < tms.length) ∧ ∀ p, p ∈ m' ↔ p ∈ m ∨ Rch tms i p
theorem nodup_lt {m : List Nat} (h : m.Nodup) {n : Nat} (hl : ∀ j ∈ m, j < n) : m.length ≤ n := by
  have := nodup_le m (List.range n) h fun x hx => List.mem_range.2 (hl x hx)
  simpa using this
theorem rch_l1 {a : AStore} {tys : List Ty} {tms : List Tm} (hs : Sto a tys tms) (i : Nat) (n : MN) (hn : a.terms[i]? = some n) (ih : ∀ c, c < i → RchOk a tms c) : ∀ (j k : Nat) (m : List Nat), k + j = n.sub.length → m.Nodup → (∀ j ∈ m, j < tms.length) → (∀ j ∈ m, j < i → ∀ p, Rch tms j p → p ∈ m) →
    ∃ m' : List Nat, r31_Reached_io_l1 (ofNs m) k a i = some (ofNs m') ∧ m'.Nodup ∧ (∀ j ∈ m', j < tms.length) ∧ ∀ p, p ∈ m' ↔ p ∈ m ∨ ∃ c ∈ n.sub.drop k, Rch tms c.toNat p
  | 0, k, m, hk, h1, h2, h3 => by
    refine ⟨m, ?_, h1, h2, fun p => ?_⟩
    · rw [r31_Reached_io_l1_eq, geti_nat, hn, bs]
      simp only [intDs_i64_len]
      rw [if_neg (by omega)]
    · rw [List.drop_eq_nil_of_le (by omega)]; simp
  | j + 1, k, m, hk, h1, h2, h3 => by
    have hkl : k < n.sub.length := by omega
    obtain ⟨g1, g2⟩ := hs.wm.node hn
    have hc := blw_iff.1 g2.bel n.sub[k] (List.getElem_mem hkl)
    have hlen := g2.len
    obtain ⟨m1, k1, k2, k3, k4⟩ := ih (n.sub[k]).toNat (by omega) m h1 h2 fun q hq hqc p hp => h3 q hq (by omega) p hp
    rw [Int.toNat_of_nonneg hc.1] at k1
    obtain ⟨m', r1, r2, r3, r4⟩ := rch_l1 hs i n hn ih j (k + 1) m1 (by omega) k2 k3 fun q hq hqi p hp => by
      rw [k4] at hq ⊢
      rcases hq with hq | hq
      · exact .inl (h3 q hq hqi p hp)
      · exact .inr (hq.trans hp)
    refine ⟨m', ?_, r2, r3, fun p => ?_⟩
    · rw [r31_Reached_io_l1_eq, geti_nat, hn, bs]
      simp only [intDs_i64_len]
      rw [if_pos (by omega), bs, geti_nat, List.getElem?_eq_getElem hkl, bs, k1, bs, wr (by omega) (by omega), bs, show (k : Int) + 1 = ((k + 1 : Nat) : Int) by omega]
      exact r1
    · rw [r4, k4, List.drop_eq_getElem_cons hkl]
      simp only [List.mem_cons, exists_eq_or_imp]
      constructor
      · rintro ((h | h) | h)
        · exact .inl h
        · exact .inr (.inl h)
        · exact .inr (.inr h)
      · rintro (h | h | h)
        · exact .inl (.inl h)
        · exact .inl (.inr h)
        · exact .inr h
theorem rch_ok {a : AStore} {tys : List Ty} {tms : List Tm} (hs : Sto a tys tms) : ∀ i, i < tms.length → RchOk a tms i := by
  obtain ⟨f1, f2⟩ := few_iff.1 hs.few
  have hu := hs.wm.uniq hs.wt.uniq
  have hl := hs.wm.len
  intro i
  induction i using Nat.strongRecOn with
  | _ i ih =>
    intro hi m h1 h2 h3
    have hn := List.getElem?_eq_getElem (show i < a.terms.length by omega)
    have hml := nodup_lt h1 h2
    rw [r31_Reached_io_eq]
    rcases rch_l0 a i m (by omega) m.length 0 (by omega) with ⟨⟨q, _, hq⟩, e⟩ | ⟨hq, e⟩
    · refine ⟨m, e, h1, h2, fun p => ⟨.inl, fun h => ?_⟩⟩
      rcases h with h | h
      · exact h
      · exact h3 i (List.mem_of_getElem? hq) (Nat.le_refl _) p h
    · have hni : i ∉ m := fun h => by
        obtain ⟨q, hq'⟩ := List.getElem?_of_mem h
        exact hq q (by omega) hq'
      obtain ⟨m', r1, r2, r3, r4⟩ := rch_l1 hs i _ hn (fun c hc => ih c hc (by omega)) (a.terms[i]).sub.length 0 (m ++ [i]) (by omega)
        (by rw [List.nodup_append]; exact ⟨h1, by simp, fun x hx y hy => by simp at hy; subst hy; exact fun e => hni (e ▸ hx)⟩)
        (fun q hq => by
          rcases List.mem_append.1 hq with hq | hq
          · exact h2 q hq
          · simp at hq; omega)
        (fun q hq hqi p hp => by
          rcases List.mem_append.1 hq with hq | hq
          · exact List.mem_append.2 (.inl (h3 q hq (by omega) p hp))
          · simp at hq; omega)
      refine ⟨m', e.trans r1, r2, r3, fun p => ?_⟩
      rw [r4, Rch_node hu hs.wm hn p, List.mem_append]
      simp only [List.mem_singleton, List.drop_zero]
      constructor
      · rintro ((h | h) | h)
        · exact .inl h
        · exact .inr (.inl h)
        · exact .inr (.inr h)
      · rintro (h | h | h)
        · exact .inl (.inl h)
        · exact .inl (.inr h)
        · exact .inr h
theorem Shared_both (a : AStore) (h : a.thin) (i : Int) : ∃ v : Int × Int, hash_Shared a i = some v ∧ r31_Shared a i = some v := by
  have ho := open_eq a h
  unfold r31_Shared
  rw [ref_Check_k a h, bs]
  by_cases hf : a.few = true
  · by_cases hw : a.wf = true
    · rw [if_pos hf, if_pos hw, if_pos rfl]
      simp only [XN.Ds_len, r31_Shared_j0]
      by_cases h1 : i < 0
      · refine ⟨(0, 6), ?_, by rw [if_pos h1]; simp⟩
        unfold hash_Shared
        rw [ho, bs, if_pos hf, if_pos hw]
        simp only [hash_Shared_j0c]
        rw [if_pos h1]
      · rw [if_neg h1]
        by_cases h2 : (a.terms.length : Int) ≤ i
        · refine ⟨(0, 6), ?_, by rw [if_pos h2]; simp⟩
          unfold hash_Shared
          rw [ho, bs, if_pos hf, if_pos hw]
          simp only [hash_Shared_j0c, XN.Ds_len]
          rw [if_neg h1, if_pos h2]
        · rw [if_neg h2, if_neg (by simp)]
          have hs := Sto.of hf hw
          have hl := hs.wm.len
          have hu := hs.wm.uniq hs.wt.uniq
          have ht : (decE (decT [] a.types) [] a.terms)[i.toNat]? = some (decE (decT [] a.types) [] a.terms)[i.toNat] := List.getElem?_eq_getElem (by omega)
          obtain ⟨L, l1, l2, l3⟩ := Shared_at hs ht
          obtain ⟨m, r1, r2, r3, r4⟩ := rch_ok hs i.toNat (by omega) [] (by simp) (by simp) (by simp)
          rw [Int.toNat_of_nonneg (by omega)] at l3 r1
          have r1 : r31_Reached_io a i [] = _ := r1
          rw [r1, bs, l3]
          refine ⟨_, rfl, ?_⟩
          simp only [intDs_i64_len, ofNs_len]
          have hlen : (m.map fun q => (decE (decT [] a.types) [] a.terms).getD q zTm).length = L.length := by
            refine nodup_eq ?_ l1 fun y => ?_
            · rw [List.Nodup, List.pairwise_map]
              refine List.Pairwise.imp_of_mem (fun {p q} hp hq hpq e => ?_) r2
              exact hpq (hu p q _ (getD_at (r3 p hp)) (by rw [getD_at (r3 q hq), e]))
            · rw [l2, List.mem_map]
              constructor
              · rintro ⟨p, hp, rfl⟩
                rcases (r4 p).1 hp with hp' | ⟨x, z, q1, q2, q3⟩
                · cases hp'
                · rw [ht] at q1; injection q1 with q1
                  rw [getD_at (r3 p hp)] at q2; injection q2 with q2
                  rw [q1, q2]; exact q3
              · intro hy
                obtain ⟨p, p1, p2⟩ := parts_le hs.wm i.toNat _ ht y hy
                refine ⟨p, (r4 p).2 (.inr ⟨_, y, ht, p2, hy⟩), ?_⟩
                have := getD_at (List.getElem?_eq_some_iff.1 p2).1
                rw [p2] at this; injection this with this; exact this.symm
          rw [List.length_map] at hlen
          rw [hlen]
    · rw [if_pos hf, if_neg hw, if_neg (by omega)]
      refine ⟨(0, 8), ?_, by simp [r31_Shared_j0]⟩
      unfold hash_Shared
      rw [ho, bs, if_pos hf, if_neg hw]; rfl
  · rw [if_neg hf, if_neg (by omega)]
    refine ⟨(0, 4), ?_, by simp [r31_Shared_j0]⟩
    unfold hash_Shared
    rw [ho, bs, if_neg hf]; rfl
end Go.Proofs.Ytpgecpmonaldiaa.Fw


namespace Go.Proofs.Ytpgecpmonaldiaa.Fw
open Go Go.Proofs

theorem equal_lk (ys : List Int) : ∀ (xs : List Int) (k : Nat), k + xs.length = ys.length → slices_Equal_int_int_l0 xs k ys = some (decide (xs = ys.drop k))
  | [], k, h => by
    have : ys.drop k = [] := List.drop_eq_nil_of_le (by simp at h; omega)
    rw [slices_Equal_int_int_l0_eq]; simp [this]
  | x :: r, k, h => by
    simp only [List.length_cons] at h
    obtain ⟨y, g1, g2⟩ := geti_drop (l := ys) (k := k) (n := r.length) (by omega)
    rw [slices_Equal_int_int_l0_eq]
    simp only []
    rw [g1, bs, g2]
    by_cases he : x = y
    · subst he
      rw [if_neg (by simp), equal_lk ys r (k + 1) (by omega)]
      simp
    · rw [if_pos he]; simp [he]
theorem equal_eqk (xs ys : List Int) : slices_Equal_int_int xs ys = some (decide (xs = ys)) := by
  rw [slices_Equal_int_int]
  simp only [intDs_i64_len]
  by_cases h : xs.length = ys.length
  · rw [if_neg (by simp [h]), equal_lk ys xs 0 (by omega)]; simp
  · rw [if_pos (by omega)]
    have : xs ≠ ys := fun e => h (by rw [e])
    simp [this]
theorem hsame1_eq (n m : TN) : hash_Same_1 n m = some (eqT n m) := by
  rw [hash_Same_1, equal_eqk, eqT]
  by_cases h1 : n.var = m.var
  · rw [if_pos h1]
    by_cases h2 : n.name = m.name
    · rw [if_pos h2, bs]; simp [h1, h2]
    · rw [if_neg h2]; simp [h2]
  · rw [if_neg h1]; simp [h1]
def eqN (n m : MN) : Bool := decide (n.kind = m.kind) && (decide (n.name = m.name) && (decide (n.type_ = m.type_) && (decide (n.index = m.index) && decide (n.sub = m.sub))))
theorem eqN_iff {n m : MN} : eqN n m = true ↔ n = m := by
  obtain ⟨a, b, c, d, e⟩ := n; obtain ⟨a', b', c', d', e'⟩ := m
  simp [eqN]
theorem hsame2_eq (n m : MN) : hash_Same_2 n m = some (eqN n m) := by
  rw [hash_Same_2, equal_eqk, eqN]
  by_cases h1 : n.kind = m.kind
  · rw [if_pos h1]
    by_cases h2 : n.name = m.name
    · rw [if_pos h2]
      by_cases h3 : n.type_ = m.type_
      · rw [if_pos h3]
        by_cases h4 : n.index = m.index
        · rw [if_pos h4, bs]; simp [h1, h2, h3, h4]
        · rw [if_neg h4]; simp [h4]
      · rw [if_neg h3]; simp [h3]
    · rw [if_neg h2]; simp [h2]
  · rw [if_neg h1]; simp [h1]
theorem efT_l (ys : List TN) : ∀ (xs : List TN) (k : Nat), k + xs.length = ys.length → ∃ b, slices_EqualFunc_TypeNode_TypeNode_TypeNode_TypeNode__hash_Same_1_l0 xs k ys = some b ∧ (b = true ↔ xs = ys.drop k)
  | [], k, h => by
    have : ys.drop k = [] := List.drop_eq_nil_of_le (by simp at h; omega)
    rw [slices_EqualFunc_TypeNode_TypeNode_TypeNode_TypeNode__hash_Same_1_l0_eq]; exact ⟨true, rfl, by simp [this]⟩
  | x :: r, k, h => by
    simp only [List.length_cons] at h
    obtain ⟨y, g1, g2⟩ := geti_drop (l := ys) (k := k) (n := r.length) (by omega)
    obtain ⟨b, k1, k2⟩ := efT_l ys r (k + 1) (by omega)
    rw [slices_EqualFunc_TypeNode_TypeNode_TypeNode_TypeNode__hash_Same_1_l0_eq]
    simp only []
    rw [g1, bs, hsame1_eq, bs, g2]
    cases he : eqT x y with
    | true => rw [if_pos rfl]; exact ⟨b, k1, by rw [k2, eqT_iff.1 he]; simp⟩
    | false =>
      rw [if_neg (by simp)]
      refine ⟨false, rfl, ?_⟩
      simp only [Bool.false_eq_true, false_iff, List.cons.injEq, not_and]
      intro e; rw [eqT_iff.2 e] at he; cases he
theorem efM_l (ys : List MN) : ∀ (xs : List MN) (k : Nat), k + xs.length = ys.length → ∃ b, slices_EqualFunc_TermNode_TermNode_TermNode_TermNode__hash_Same_2_l0 xs k ys = some b ∧ (b = true ↔ xs = ys.drop k)
  | [], k, h => by
    have : ys.drop k = [] := List.drop_eq_nil_of_le (by simp at h; omega)
    rw [slices_EqualFunc_TermNode_TermNode_TermNode_TermNode__hash_Same_2_l0_eq]; exact ⟨true, rfl, by simp [this]⟩
  | x :: r, k, h => by
    simp only [List.length_cons] at h
    obtain ⟨y, g1, g2⟩ := geti_drop (l := ys) (k := k) (n := r.length) (by omega)
    obtain ⟨b, k1, k2⟩ := efM_l ys r (k + 1) (by omega)
    rw [slices_EqualFunc_TermNode_TermNode_TermNode_TermNode__hash_Same_2_l0_eq]
    simp only []
    rw [g1, bs, hsame2_eq, bs, g2]
    cases he : eqN x y with
    | true => rw [if_pos rfl]; exact ⟨b, k1, by rw [k2, eqN_iff.1 he]; simp⟩
    | false =>
      rw [if_neg (by simp)]
      refine ⟨false, rfl, ?_⟩
      simp only [Bool.false_eq_true, false_iff, List.cons.injEq, not_and]
      intro e; rw [eqN_iff.2 e] at he; cases he
theorem store_ext {a b : AStore} : a = b ↔ a.types = b.types ∧ a.terms = b.terms := by
  obtain ⟨x, y⟩ := a; obtain ⟨x', y'⟩ := b; simp
theorem hash_Same_k (a b : AStore) : ∃ q, hash_Same a b = some q ∧ (q = true ↔ a = b) := by
  unfold hash_Same slices_EqualFunc_TypeNode_TypeNode_TypeNode_TypeNode__hash_Same_1 slices_EqualFunc_TermNode_TermNode_TermNode_TermNode__hash_Same_2
  simp only [YN.Ds_len, XN.Ds_len]
  by_cases h1 : a.types.length = b.types.length
  · rw [if_neg (by omega)]
    obtain ⟨q, k1, k2⟩ := efT_l b.types a.types 0 (by omega)
    rw [k1, bs]
    by_cases hq : q = true
    · rw [if_pos hq]
      have ht : a.types = b.types := by simpa using k2.1 hq
      by_cases h2 : a.terms.length = b.terms.length
      · rw [if_neg (by omega)]
        obtain ⟨r, r1, r2⟩ := efM_l b.terms a.terms 0 (by omega)
        rw [r1, bs]
        exact ⟨r, rfl, by rw [r2, store_ext]; simp [ht]⟩
      · rw [if_pos (by omega), bs]
        exact ⟨false, rfl, by simp; intro e; rw [e] at h2; exact h2 rfl⟩
    · rw [if_neg hq]
      exact ⟨false, rfl, by simp; intro e; exact hq (k2.2 (by rw [e]; simp))⟩
  · rw [if_pos (by omega), bs, if_neg (by simp)]
    exact ⟨false, rfl, by simp; intro e; rw [e] at h1; exact h1 rfl⟩
theorem rsM_l (b : AStore) : ∀ (xs : List MN) (k : Nat), k + xs.length = b.terms.length → ∃ q, r31_Same_l1 xs k b = some q ∧ (q = true ↔ xs = b.terms.drop k)
  | [], k, h => by
    have : b.terms.drop k = [] := List.drop_eq_nil_of_le (by simp at h; omega)
    rw [r31_Same_l1_eq]; exact ⟨true, rfl, by simp [this]⟩
  | x :: r, k, h => by
    simp only [List.length_cons] at h
    obtain ⟨y, g1, g2⟩ := geti_drop (l := b.terms) (k := k) (n := r.length) (by omega)
    obtain ⟨q, k1, k2⟩ := rsM_l b r (k + 1) (by omega)
    rw [r31_Same_l1_eq]
    simp only []
    rw [g1, bs, sameTerm_eq, bs, g2]
    cases he : eqM x y with
    | true =>
      rw [if_pos rfl, bs]
      by_cases hn : x.name = y.name
      · rw [if_neg (by simp [hn])]
        have hxy : x = y := by
          simp only [eqM, Bool.and_eq_true, Bool.or_eq_true, decide_eq_true_eq] at he
          obtain ⟨h1, h2, h3, h4, h5⟩ := he
          obtain ⟨a, b, c, d, e⟩ := x; obtain ⟨a', b', c', d', e'⟩ := y
          simp_all
        exact ⟨q, k1, by rw [k2, hxy]; simp⟩
      · rw [if_pos hn]
        refine ⟨false, rfl, ?_⟩
        simp only [Bool.false_eq_true, false_iff, List.cons.injEq, not_and]
        intro e; exact absurd (by rw [e]) hn
    | false =>
      rw [if_neg (by simp)]
      refine ⟨false, rfl, ?_⟩
      simp only [Bool.false_eq_true, false_iff, List.cons.injEq, not_and]
      intro e; subst e; simp [eqM] at he
theorem rsT_l (a b : AStore) (hl : a.terms.length = b.terms.length) : ∀ (xs : List TN) (k : Nat), k + xs.length = b.types.length → ∃ q, r31_Same_l0 xs k a b = some q ∧ (q = true ↔ xs = b.types.drop k ∧ a.terms = b.terms)
  | [], k, h => by
    have : b.types.drop k = [] := List.drop_eq_nil_of_le (by simp at h; omega)
    obtain ⟨q, k1, k2⟩ := rsM_l b a.terms 0 (by omega)
    rw [r31_Same_l0_eq]; exact ⟨q, k1, by rw [k2]; simp [this]⟩
  | x :: r, k, h => by
    simp only [List.length_cons] at h
    obtain ⟨y, g1, g2⟩ := geti_drop (l := b.types) (k := k) (n := r.length) (by omega)
    obtain ⟨q, k1, k2⟩ := rsT_l a b hl r (k + 1) (by omega)
    rw [r31_Same_l0_eq]
    simp only []
    rw [g1, bs, sameType_eq, bs, g2]
    cases he : eqT x y with
    | true => rw [if_pos rfl]; exact ⟨q, k1, by rw [k2, eqT_iff.1 he]; simp⟩
    | false =>
      rw [if_neg (by simp)]
      refine ⟨false, rfl, ?_⟩
      simp only [Bool.false_eq_true, false_iff, List.cons.injEq, not_and]
      intro e; rw [eqT_iff.2 e.1] at he; cases he
theorem ref_Same_k (a b : AStore) : ∃ q, r31_Same a b = some q ∧ (q = true ↔ a = b) := by
  unfold r31_Same
  simp only [YN.Ds_len, XN.Ds_len]
  by_cases h1 : a.types.length = b.types.length
  · rw [if_neg (by omega)]
    by_cases h2 : a.terms.length = b.terms.length
    · rw [if_neg (by omega)]
      obtain ⟨q, k1, k2⟩ := rsT_l a b h2 a.types 0 (by omega)
      exact ⟨q, k1, by rw [k2, store_ext]; simp⟩
    · rw [if_pos (by omega)]
      exact ⟨false, rfl, by simp; intro e; rw [e] at h2; exact h2 rfl⟩
  · rw [if_pos (by omega)]
    exact ⟨false, rfl, by simp; intro e; rw [e] at h1; exact h1 rfl⟩
/-! ### copies -/
theorem rTwin_l1 (c : List TN) : ∀ (rest acc : List MN), (∀ n ∈ rest, n.sub.length ≤ 20) → acc.length + rest.length ≤ lim → r31_Twin_l1 rest acc c = some (.mk c (acc ++ rest))
  | [], acc, h, hl => by rw [r31_Twin_l1_eq]; simp
  | n :: r, acc, h, hl => by
    simp only [List.length_cons, lim] at hl
    have := h n (by simp)
    rw [r31_Twin_l1_eq]; simp only []
    rw [app_ok (by simp; omega), bs, app_ok (by simp; omega), bs, rTwin_l1 c r _ (fun q hq => h q (by simp [hq])) (by simp [lim]; omega)]
    simp
theorem rTwin_l0 (a : AStore) (hm : ∀ n ∈ a.terms, n.sub.length ≤ 20) (hn : a.terms.length ≤ lim) : ∀ (rest acc : List TN), (∀ n ∈ rest, n.args.length ≤ 20) → acc.length + rest.length ≤ lim → r31_Twin_l0 rest acc a = some (.mk (acc ++ rest) a.terms)
  | [], acc, h, hl => by
    rw [r31_Twin_l0_eq]; simp only []
    rw [r31_Twin_j0, rTwin_l1 _ _ _ hm (by simpa using hn)]; simp
  | n :: r, acc, h, hl => by
    simp only [List.length_cons, lim] at hl
    have := h n (by simp)
    rw [r31_Twin_l0_eq]; simp only []
    rw [app_ok (by simp; omega), bs, app_ok (by simp; omega), bs, rTwin_l0 a hm hn r _ (fun q hq => h q (by simp [hq])) (by simp [lim]; omega)]
    simp
theorem rTwin_store (a : AStore) (h : a.thin) : r31_Twin a = some a := by
  have h1 := h.nt
  have h2 := h.nm
  rw [r31_Twin, rTwin_l0 a (fun n hn => (h.am n hn).2) (by simp [lim]; omega) _ _ (fun n hn => (h.at_ n hn).2) (by simp [lim]; omega)]
  simp
theorem aTwin_l1 (c : List TN) : ∀ (rest acc : List MN), (∀ n ∈ rest, n.sub.length ≤ 20) → acc.length + rest.length ≤ lim → hash_Twin_ar_l1 rest acc c = some (c, acc ++ rest)
  | [], acc, h, hl => by rw [hash_Twin_ar_l1_eq]; simp
  | n :: r, acc, h, hl => by
    simp only [List.length_cons, lim] at hl
    have := h n (by simp)
    rw [hash_Twin_ar_l1_eq]; simp only []
    rw [clone_eq _ (by omega), bs, app_ok (by simp; omega), bs, aTwin_l1 c r _ (fun q hq => h q (by simp [hq])) (by simp [lim]; omega)]
    simp
theorem aTwin_l0 (a : AStore) (hm : ∀ n ∈ a.terms, n.sub.length ≤ 20) (hn : a.terms.length ≤ lim) : ∀ (rest acc : List TN), (∀ n ∈ rest, n.args.length ≤ 20) → acc.length + rest.length ≤ lim → hash_Twin_ar_l0 rest acc a = some (acc ++ rest, a.terms)
  | [], acc, h, hl => by
    rw [hash_Twin_ar_l0_eq]; simp only []
    rw [hash_Twin_ar_j0, aTwin_l1 _ _ _ hm (by simpa using hn)]; simp
  | n :: r, acc, h, hl => by
    simp only [List.length_cons, lim] at hl
    have := h n (by simp)
    rw [hash_Twin_ar_l0_eq]; simp only []
    rw [clone_eq _ (by omega), bs, app_ok (by simp; omega), bs, aTwin_l0 a hm hn r _ (fun q hq => h q (by simp [hq])) (by simp [lim]; omega)]
    simp
theorem aTwin_store (a : AStore) (h : a.thin) : hash_Twin_ar a = some (a.types, a.terms) := by
  have h1 := h.nt
  have h2 := h.nm
  rw [hash_Twin_ar, aTwin_l0 a (fun n hn => (h.am n hn).2) (by simp [lim]; omega) _ _ (fun n hn => (h.at_ n hn).2) (by simp [lim]; omega)]
  simp
/-! ### the law -/
theorem gets_l (a0 v7 : AStore) (b : Bool) (hb : b = true) (he : v7 = a0) : ∀ (j k : Nat) (ms : List MN), k + j = ms.length → ms.length ≤ 5000 → sequentlaw31_HashGets_l0 k ms a0 b v7 = some true
  | 0, k, ms, hk, hl => by
    obtain ⟨q, h1, h2⟩ := ref_Same_k v7 a0
    rw [sequentlaw31_HashGets_l0_eq, if_neg (by omega), if_pos hb, h1, bs, h2.2 he]
  | j + 1, k, ms, hk, hl => by
    have hkl : k < ms.length := by omega
    rw [sequentlaw31_HashGets_l0_eq, if_pos (by omega), wantb, if_pos (by omega), bs, geti_nat, List.getElem?_eq_getElem hkl, bs, seti_nat hkl, bs, wr (by omega) (by omega), bs, show (k : Int) + 1 = ((k + 1 : Nat) : Int) by omega]
    exact gets_l a0 v7 b hb he j (k + 1) _ (by simp; omega) (by simp; omega)
theorem HashGets_law (a0 a1 : AStore) (a2 a3 : Int) (h0 : a0.ok) (h1 : a1.ok) : sequentlaw31_HashGets a0 a1 a2 a3 = some true := by
  unfold sequentlaw31_HashGets
  obtain ⟨b0, e0, t0⟩ := store_Great a0 h0
  rw [e0, bs]
  by_cases c0 : b0 = true
  · rw [if_pos c0]
  rw [if_neg c0]
  have h := t0 (by simpa using c0)
  obtain ⟨b1, e1, t1⟩ := store_Great a1 h1
  rw [e1, bs]
  by_cases c1 : b1 = true
  · rw [if_pos c1]
  rw [if_neg c1]
  obtain ⟨b2, e2⟩ := Huge_k a0 h a3
  rw [e2, bs]
  by_cases c2 : b2 = true
  · rw [if_pos c2]
  rw [if_neg c2]
  obtain ⟨v8, g1, g2⟩ := GetType_both a0 h a2
  obtain ⟨v10, g3, g4⟩ := Get_both a0 h a3
  obtain ⟨v12, g5, g6, _⟩ := Size_both a0 h a3
  obtain ⟨v14, g7, g8⟩ := Shared_both a0 h a3
  rw [rTwin_store a0 h, bs, g1, bs, g2, bs, g3, bs, g4, bs, g5, bs, g6, bs, g7, bs, g8, bs, hash_Check_eq a0 h, bs, ref_Check_k a0 h, bs, if_pos rfl, ref_Same_eq, beqT_self, bs, if_pos rfl, if_pos rfl, exact_self, bs, if_pos rfl, if_pos rfl, if_pos rfl, if_pos rfl, if_pos rfl, if_pos rfl]
  rw [sequentlaw31_HashGets_j0, aTwin_store a0 h, bs, if_pos rfl]
  simp only []
  obtain ⟨q1, r1, r2⟩ := ref_Same_k a0 a0
  obtain ⟨q2, r3, r4⟩ := hash_Same_k a0 a1
  obtain ⟨q3, r5, r6⟩ := ref_Same_k a0 a1
  obtain ⟨q4, r7, r8⟩ := hash_Same_k a0 a0
  have e : (AStore.mk a0.types a0.terms) = a0 := rfl
  rw [e, r1, bs, if_pos (r2.2 rfl), r3, bs, r5, bs, if_pos (by rw [Bool.eq_iff_iff, r4, r6]), r7, bs, sequentlaw31_HashGets_j1]
  exact gets_l a0 a0 q4 (r8.2 rfl) rfl a0.terms.length 0 a0.terms (by omega) (by have := h.nm; omega)
end Go.Proofs.Ytpgecpmonaldiaa.Fw

