/- Stores: how many nodes. -/
import Derived.Test.YtpgecpmonaldiaaHB
set_option autoImplicit false
set_option linter.unusedVariables false
set_option linter.unusedSimpArgs false
namespace Go.Proofs.Ytpgecpmonaldiaa.Fw
open Go Go.Proofs

theorem Uniq.nodup {α : Type} {l : List α} (h : Uniq l) : l.Nodup := by
  rw [List.Nodup, List.pairwise_iff_getElem]
  intro i j hi hj hij e
  have := h i j (l[i]) (List.getElem?_eq_getElem hi) (by rw [List.getElem?_eq_getElem hj, e])
  omega
theorem nodup_le {α : Type} : ∀ (l l' : List α), l.Nodup → (∀ x ∈ l, x ∈ l') → l.length ≤ l'.length
  | [], l', _, _ => by simp
  | a :: r, l', hn, hs => by
    classical
    rw [List.nodup_cons] at hn
    have ha := hs a (by simp)
    have := nodup_le r (l'.erase a) hn.2 fun x hx => by
      have hne : x ≠ a := fun e => hn.1 (e ▸ hx)
      exact (List.mem_erase_of_ne hne).2 (hs x (by simp [hx]))
    rw [List.length_erase_of_mem ha] at this
    have hp : 0 < l'.length := List.length_pos_of_mem ha
    simp only [List.length_cons]; omega
theorem nodup_eq {α : Type} {l l' : List α} (h : l.Nodup) (h' : l'.Nodup) (e : ∀ x, x ∈ l ↔ x ∈ l') : l.length = l'.length :=
  Nat.le_antisymm (nodup_le l l' h fun x hx => (e x).1 hx) (nodup_le l' l h' fun x hx => (e x).2 hx)
mutual
theorem ty_parts_in {ns : List TN} {tys : List Ty} (h : WT ns tys) : ∀ a : Ty, a ∈ tys → ∀ q ∈ a.parts, q ∈ tys
  | .mk v n xs, ha, q, hq => by
    simp only [Ty.parts, List.mem_cons] at hq
    rcases hq with rfl | hq
    · exact ha
    · exact ty_partss_in h xs (h.closed ha) q hq
theorem ty_partss_in {ns : List TN} {tys : List Ty} (h : WT ns tys) : ∀ xs : List Ty, (∀ x ∈ xs, x ∈ tys) → ∀ q ∈ Ty.partss xs, q ∈ tys
  | [], _, q, hq => by simp [Ty.partss] at hq
  | a :: r, ha, q, hq => by
    simp only [Ty.partss, List.mem_append] at hq
    rcases hq with hq | hq
    · exact ty_parts_in h a (ha a (by simp)) q hq
    · exact ty_partss_in h r (fun x hx => ha x (by simp [hx])) q hq
end
mutual
theorem tm_parts_in {ns : List TN} {tys : List Ty} {ms : List MN} {tms : List Tm} (hw : WT ns tys) (h : WM tys ms tms) : ∀ a : Tm, a.er ∈ tms → (∀ q ∈ a.er.parts, q ∈ tms) ∧ ∀ t ∈ a.typs, t ∈ tys
  | .mk k n t i xs, ha => by
    have hc := h.closed (show Tm.mk k (if k = 5 then ByteArray.empty else n) t i (Tm.ers xs) ∈ tms from ha)
    have hs := tm_partss_in hw h xs (fun x hx => hc.1 _ (by rw [Tm.ers_map]; exact List.mem_map_of_mem hx))
    have e : (Tm.mk k n t i xs).er.parts = (Tm.mk k n t i xs).er :: Tm.partss (Tm.ers xs) := by simp only [Tm.er, Tm.parts]
    refine ⟨fun q hq => ?_, fun q hq => ?_⟩
    · rw [e, List.mem_cons] at hq
      rcases hq with rfl | hq
      · exact ha
      · exact hs.1 q hq
    · simp only [Tm.typs, List.mem_append] at hq
      rcases hq with hq | hq
      · by_cases hk : k = 3 ∨ k = 4
        · rw [if_pos hk] at hq; cases hq
        · rw [if_neg hk] at hq
          exact ty_parts_in hw t (hc.2 hk) q hq
      · exact hs.2 q hq
theorem tm_partss_in {ns : List TN} {tys : List Ty} {ms : List MN} {tms : List Tm} (hw : WT ns tys) (h : WM tys ms tms) : ∀ xs : List Tm, (∀ x ∈ xs, x.er ∈ tms) → (∀ q ∈ Tm.partss (Tm.ers xs), q ∈ tms) ∧ ∀ t ∈ Tm.typss xs, t ∈ tys
  | [], _ => by simp [Tm.ers, Tm.partss, Tm.typss]
  | a :: r, ha => by
    have h1 := tm_parts_in hw h a (ha a (by simp))
    have h2 := tm_partss_in hw h r (fun x hx => ha x (by simp [hx]))
    simp only [Tm.ers, Tm.partss, Tm.typss, List.mem_append]
    exact ⟨fun q hq => hq.elim (h1.1 q) (h2.1 q), fun q hq => hq.elim (h1.2 q) (h2.2 q)⟩
end
/-- what is in a store after a term was added -/
theorem Added.mem {a : AStore} {t : Tm} {tys : List Ty} {tms : List Tm} {i : Nat} {e : List TN} {e' : List Ty} {f : List MN} {f' : List Tm} (A : Added a t tys tms i e e' f f') :
    (∀ q, q ∈ tys ++ e' ↔ q ∈ tys ∨ q ∈ t.typs) ∧ ∀ q, q ∈ tms ++ f' ↔ q ∈ tms ∨ q ∈ t.er.parts := by
  have hin := tm_parts_in A.st.wt A.st.wm t (List.mem_of_getElem? A.at_)
  refine ⟨fun q => ⟨fun h => ?_, fun h => ?_⟩, fun q => ⟨fun h => ?_, fun h => ?_⟩⟩
  · rcases List.mem_append.1 h with h | h
    · exact .inl h
    · exact .inr (A.tyn q h)
  · rcases h with h | h
    · exact List.mem_append_left _ h
    · exact hin.2 q h
  · rcases List.mem_append.1 h with h | h
    · exact .inl h
    · exact .inr (A.tmn q h)
  · rcases h with h | h
    · exact List.mem_append_left _ h
    · exact hin.1 q h
theorem Sto.same {a : AStore} {tys tys' : List Ty} {tms tms' : List Tm} (h : Sto a tys tms) (h' : Sto a tys' tms') : tys = tys' ∧ tms = tms' := by
  have : tys = tys' := by rw [h.wt.dec, h'.wt.dec]
  subst this
  exact ⟨rfl, by rw [h.wm.dec, h'.wm.dec]⟩
/-- two terms one after the other -/
theorem AddS_two {a : AStore} {t u : Tm} (h1 : (AddS a t).2.2 = 0) (h2 : (AddS (AddS a t).1 u).2.2 = 0) :
    ∃ tys tms tys' tms', Sto a tys tms ∧ Sto (AddS (AddS a t).1 u).1 tys' tms' ∧ (∀ q, q ∈ tys' ↔ (q ∈ tys ∨ q ∈ t.typs) ∨ q ∈ u.typs) ∧ ∀ q, q ∈ tms' ↔ (q ∈ tms ∨ q ∈ t.er.parts) ∨ q ∈ u.er.parts := by
  obtain ⟨c1, tys, tms, s0, i, p, p', q, q', k1, A1⟩ := AddS_ok h1
  obtain ⟨c2, tys2, tms2, s2, j, r, r', o, o', k2, A2⟩ := AddS_ok h2
  have hs1 : Sto (AddS a t).1 (tys ++ p') (tms ++ q') := by rw [k1]; exact A1.st
  obtain ⟨rfl, rfl⟩ := s2.same hs1
  refine ⟨tys, tms, _, _, s0, by rw [k2]; exact A2.st, fun x => ?_, fun x => ?_⟩
  · rw [A2.mem.1, A1.mem.1]
  · rw [A2.mem.2, A1.mem.2]
theorem HashOrder_law (a0 : AStore) (a1 a2 : Tm) (h0 : a0.ok) (h1 : a1.ok) (h2 : a2.ok) : sequentlaw31_HashOrder a0 a1 a2 = some true := by
  unfold sequentlaw31_HashOrder
  obtain ⟨b0, e0, t0⟩ := store_Great a0 h0
  obtain ⟨b1, e1, t1⟩ := term_Wide a1 h1
  obtain ⟨b2, e2, t2⟩ := term_Wide a2 h2
  rw [alive_eq, bs, e0, bs]
  cases b0 with
  | true => rfl
  | false =>
    rw [if_neg (by simp), e1, bs]
    cases b1 with
    | true => rfl
    | false =>
      rw [if_neg (by simp), e2, bs]
      cases b2 with
      | true => rfl
      | false =>
        rw [if_neg (by simp), if_pos rfl]
        have w0 := t0 rfl
        have f1 := t1 rfl
        have f2 := t2 rfl
        rw [hash_Add_eq a0 w0 a1 f1.1 f1.lim f1.2.1, bs, hash_Add_eq _ (AddS_thin a0 a1) a2 f2.1 f2.lim f2.2.1, bs, hash_Add_eq a0 w0 a2 f2.1 f2.lim f2.2.1, bs, hash_Add_eq _ (AddS_thin a0 a2) a1 f1.1 f1.lim f1.2.1, bs]
        by_cases g1 : (AddS a0 a1).2.2 = 0
        · rw [if_neg (by simp [g1])]
          by_cases g2 : (AddS (AddS a0 a1).1 a2).2.2 = 0
          · rw [if_neg (by simp [g2])]
            by_cases g3 : (AddS a0 a2).2.2 = 0
            · rw [if_neg (by simp [g3])]
              by_cases g4 : (AddS (AddS a0 a2).1 a1).2.2 = 0
              · rw [if_neg (by simp [g4])]
                obtain ⟨ta, ma, tb, mb, q1, q2, q3, q4⟩ := AddS_two g1 g2
                obtain ⟨tc, mc, td, md, r1, r2, r3, r4⟩ := AddS_two g3 g4
                obtain ⟨rfl, rfl⟩ := q1.same r1
                have n1 : tb.length = td.length := nodup_eq q2.wt.uniq.nodup r2.wt.uniq.nodup fun x => by
                  rw [q3, r3]; constructor <;> rintro ((h | h) | h) <;> simp [h]
                have n2 : mb.length = md.length := nodup_eq (q2.wm.uniq q2.wt.uniq).nodup (r2.wm.uniq r2.wt.uniq).nodup fun x => by
                  rw [q4, r4]; constructor <;> rintro ((h | h) | h) <;> simp [h]
                rw [q2.wt.len, r2.wt.len] at n1
                rw [q2.wm.len, r2.wm.len] at n2
                simp only [ATypeNode.Ds_len, ATermNode.Ds_len, n1, n2]
                simp
              · rw [if_pos (by simpa using g4)]
            · rw [if_pos (by simpa using g3)]
          · rw [if_pos (by simpa using g2)]
        · rw [if_pos (by simpa using g1)]
end Go.Proofs.Ytpgecpmonaldiaa.Fw

namespace Go.Proofs.Ytpgecpmonaldiaa.Fw
open Go Go.Proofs

theorem mem_partss {y : Tm} : ∀ {xs : List Tm}, y ∈ Tm.partss xs ↔ ∃ z ∈ xs, y ∈ z.parts
  | [] => by simp [Tm.partss]
  | a :: r => by simp [Tm.partss, mem_partss (xs := r)]
theorem Tm.self_parts (a : Tm) : a ∈ a.parts := by obtain ⟨k, n, t, i, xs⟩ := a; simp [Tm.parts]
theorem child_parts {k : Int} {n : ByteArray} {t : Ty} {i : Int} {xs : List Tm} {z : Tm} (h : z ∈ xs) : z ∈ (Tm.mk k n t i xs).parts := by
  simp only [Tm.parts, List.mem_cons]
  exact .inr (mem_partss.2 ⟨z, h, z.self_parts⟩)
mutual
theorem parts_trans : ∀ (x y z : Tm), y ∈ x.parts → z ∈ y.parts → z ∈ x.parts
  | .mk k n t i xs, y, z, hy, hz => by
    simp only [Tm.parts, List.mem_cons] at hy ⊢
    rcases hy with rfl | hy
    · simp only [Tm.parts, List.mem_cons] at hz; exact hz
    · exact .inr (partss_trans xs y z hy hz)
theorem partss_trans : ∀ (xs : List Tm) (y z : Tm), y ∈ Tm.partss xs → z ∈ y.parts → z ∈ Tm.partss xs
  | [], y, z, hy, hz => by simp [Tm.partss] at hy
  | a :: r, y, z, hy, hz => by
    simp only [Tm.partss, List.mem_append] at hy ⊢
    rcases hy with hy | hy
    · exact .inl (parts_trans a y z hy hz)
    · exact .inr (partss_trans r y z hy hz)
end
mutual
theorem parts_parent : ∀ (x y : Tm), y ∈ x.parts → y = x ∨ ∃ w ∈ x.parts, y ∈ w.sub
  | .mk k n t i xs, y, hy => by
    simp only [Tm.parts, List.mem_cons] at hy
    rcases hy with rfl | hy
    · exact .inl rfl
    · right
      rcases partss_parent xs y hy with h | ⟨w, h1, h2⟩
      · exact ⟨.mk k n t i xs, Tm.self_parts _, h⟩
      · exact ⟨w, by simp only [Tm.parts, List.mem_cons]; exact .inr h1, h2⟩
theorem partss_parent : ∀ (xs : List Tm) (y : Tm), y ∈ Tm.partss xs → y ∈ xs ∨ ∃ w ∈ Tm.partss xs, y ∈ w.sub
  | [], y, hy => by simp [Tm.partss] at hy
  | a :: r, y, hy => by
    simp only [Tm.partss, List.mem_append] at hy
    rcases hy with hy | hy
    · rcases parts_parent a y hy with rfl | ⟨w, h1, h2⟩
      · exact .inl (by simp)
      · exact .inr ⟨w, by simp only [Tm.partss, List.mem_append]; exact .inl h1, h2⟩
    · rcases partss_parent r y hy with h | ⟨w, h1, h2⟩
      · exact .inl (by simp [h])
      · exact .inr ⟨w, by simp only [Tm.partss, List.mem_append]; exact .inr h1, h2⟩
end
mutual
theorem parts_size : ∀ x : Tm, x.parts.length = x.size
  | .mk k n t i xs => by
    have := partss_size xs
    simp only [Tm.parts, Tm.size, List.length_cons]; omega
theorem partss_size : ∀ xs : List Tm, (Tm.partss xs).length = Tm.sizes xs
  | [] => rfl
  | a :: r => by
    have h1 := parts_size a
    have h2 := partss_size r
    simp only [Tm.partss, Tm.sizes, List.length_append]; omega
end
theorem getD_at {l : List Tm} {j : Nat} (h : j < l.length) : l[j]? = some (l.getD j zTm) := by
  rw [List.getD_eq_getElem?_getD, List.getElem?_eq_getElem h]; rfl
theorem parts_le {tys : List Ty} {ms : List MN} {tms : List Tm} (h : WM tys ms tms) : ∀ (i : Nat) (x : Tm), tms[i]? = some x → ∀ y ∈ x.parts, ∃ j, j ≤ i ∧ tms[j]? = some y := by
  intro i
  induction i using Nat.strongRecOn with
  | _ i ih =>
    intro x hx y hy
    have hlt : i < ms.length := by rw [← h.len]; exact (List.getElem?_eq_some_iff.1 hx).1
    obtain ⟨g1, g2⟩ := h.node (List.getElem?_eq_getElem hlt)
    rw [hx] at g1
    injection g1 with g1
    have hp : x.parts = x :: Tm.partss ((ms[i]).sub.map fun j => tms.getD j.toNat zTm) := by rw [g1]; simp only [nodeE, Tm.parts]
    rw [hp, List.mem_cons] at hy
    rcases hy with rfl | hy
    · exact ⟨i, Nat.le_refl _, hx⟩
    · obtain ⟨z, hz, hyz⟩ := mem_partss.1 hy
      obtain ⟨q, hq, rfl⟩ := List.mem_map.1 hz
      obtain ⟨q1, q2⟩ := blw_iff.1 g2.bel q hq
      have hl : q.toNat < tms.length := by have := h.len; omega
      obtain ⟨j, j1, j2⟩ := ih q.toNat (by omega) _ (getD_at hl) y hyz
      exact ⟨j, by omega, j2⟩
/-! ### the count -/
open Classical in
noncomputable def cntR (R : Nat → Prop) : Nat → Nat
  | 0 => 0
  | t + 1 => cntR R t + if R t then 1 else 0
theorem Shared_l1 (v4 : List TN × List MN × List (HashTypeKey × Int) × List (HashTermKey × Int)) (t c : Int) : ∀ (subs : List Int) (arr : List Bool), (∀ j ∈ subs, 0 ≤ j ∧ j < arr.length) →
    ∃ arr' : List Bool, arr'.length = arr.length ∧ (∀ j : Nat, arr'[j]? = some true ↔ arr[j]? = some true ∨ (j : Int) ∈ subs) ∧ hash_Shared_l1 subs arr t v4 c = hash_Shared_l0 c (IntKind.i64.wrap (t - 1)) arr' v4
  | [], arr, h => ⟨arr, rfl, by simp, by rw [hash_Shared_l1_eq]; rfl⟩
  | q :: r, arr, h => by
    obtain ⟨h1, h2⟩ := h q (by simp)
    obtain ⟨arr', g1, g2, g3⟩ := Shared_l1 v4 t c r (arr.set q.toNat true) (fun j hj => by have := h j (by simp [hj]); simpa using this)
    refine ⟨arr', by simpa using g1, fun j => ?_, ?_⟩
    · rw [g2, List.getElem?_set]
      by_cases hj : q.toNat = j
      · rw [if_pos hj, if_pos (by omega)]
        have : (j : Int) = q := by omega
        simp [this]
      · rw [if_neg hj]
        have : ¬ (j : Int) = q := by omega
        simp [this]
    · rw [hash_Shared_l1_eq]
      simp only []
      rw [wantb, if_pos ⟨h1, h2⟩, bs, seti, if_pos ⟨h1, h2⟩, bs, g3]
theorem Shared_l0 (v4 : List TN × List MN × List (HashTypeKey × Int) × List (HashTermKey × Int)) (i : Nat) (hi : i < v4.2.1.length) (hl : v4.2.1.length ≤ 5000) (R : Nat → Prop) (hRi : R i) (hle : ∀ p, R p → p ≤ i)
    (hbel : ∀ (p : Nat) (n : MN), v4.2.1[p]? = some n → blw n.sub p = true) (hsub : ∀ (p : Nat) (n : MN), R p → v4.2.1[p]? = some n → ∀ j : Nat, (j : Int) ∈ n.sub → R j)
    (hpar : ∀ j : Nat, R j → j ≠ i → ∃ (p : Nat) (n : MN), R p ∧ v4.2.1[p]? = some n ∧ (j : Int) ∈ n.sub) : ∀ (t : Nat) (c : Nat) (arr : List Bool), t ≤ i + 1 → c + t ≤ 10000 → arr.length = i + 1 →
      (∀ j, j < t → (arr[j]? = some true ↔ j = i ∨ ∃ (p : Nat) (n : MN), t ≤ p ∧ R p ∧ v4.2.1[p]? = some n ∧ (j : Int) ∈ n.sub)) →
      hash_Shared_l0 c ((t : Int) - 1) arr v4 = some (((c + cntR R t : Nat) : Int), 0)
  | 0, c, arr, ht, hc, ha, hinv => by
    rw [hash_Shared_l0_eq, if_neg (by omega)]; simp [cntR]
  | t + 1, c, arr, ht, hc, ha, hinv => by
    have hmark : arr[t]? = some true ↔ R t := by
      rw [hinv t (by omega)]
      constructor
      · rintro (rfl | ⟨p, n, h1, h2, h3, h4⟩)
        · exact hRi
        · exact hsub p n h2 h3 t h4
      · intro hR
        by_cases hti : t = i
        · exact .inl hti
        · obtain ⟨p, n, h2, h3, h4⟩ := hpar t hR hti
          have := blw_iff.1 (hbel p n h3) _ h4
          exact .inr ⟨p, n, by omega, h2, h3, h4⟩
    have e : ((t + 1 : Nat) : Int) - 1 = (t : Int) := by omega
    rw [e, hash_Shared_l0_eq, if_pos (by omega), wantb, if_pos (by omega), bs]
    have hlt : t < arr.length := by omega
    have hg : geti arr (t : Int) = some arr[t] := by rw [geti_nat, List.getElem?_eq_getElem hlt]
    rw [hg, bs]
    rw [List.getElem?_eq_getElem hlt] at hmark
    by_cases hb : arr[t] = true
    · have hR : R t := hmark.1 (by rw [hb])
      have hlm : t < v4.2.1.length := by omega
      rw [if_pos hb, bs, wr (by omega) (by omega), geti_nat, List.getElem?_eq_getElem hlm, bs]
      have hn := List.getElem?_eq_getElem hlm
      have hbl := blw_iff.1 (hbel t _ hn)
      obtain ⟨arr', g1, g2, g3⟩ := Shared_l1 v4 t ((c : Int) + 1) (v4.2.1[t]).sub arr (fun j hj => by have := hbl j hj; omega)
      rw [g3, wr (by omega) (by omega)]
      have ih := Shared_l0 v4 i hi hl R hRi hle hbel hsub hpar t (c + 1) arr' (by omega) (by omega) (by omega) (fun j hj => by
        rw [g2, hinv j (by omega)]
        constructor
        · rintro ((h | ⟨p, n, h1, h2, h3, h4⟩) | h)
          · exact .inl h
          · exact .inr ⟨p, n, by omega, h2, h3, h4⟩
          · exact .inr ⟨t, _, Nat.le_refl _, hR, hn, h⟩
        · rintro (h | ⟨p, n, h1, h2, h3, h4⟩)
          · exact .inl (.inl h)
          · by_cases hp : p = t
            · subst hp
              rw [hn] at h3; injection h3 with h3
              exact .inr (h3 ▸ h4)
            · exact .inl (.inr ⟨p, n, by omega, h2, h3, h4⟩))
      rw [show ((c + 1 : Nat) : Int) = (c : Int) + 1 from rfl] at ih
      rw [ih, cntR, if_pos hR]
      congr 3; omega
    · have hR : ¬ R t := fun h => hb (by have := hmark.2 h; injection this)
      rw [if_neg hb, bs, wr (by omega) (by omega)]
      have ih := Shared_l0 v4 i hi hl R hRi hle hbel hsub hpar t c arr (by omega) (by omega) ha (fun j hj => by
        rw [hinv j (by omega)]
        constructor
        · rintro (h | ⟨p, n, h1, h2, h3, h4⟩)
          · exact .inl h
          · exact .inr ⟨p, n, by omega, h2, h3, h4⟩
        · rintro (h | ⟨p, n, h1, h2, h3, h4⟩)
          · exact .inl h
          · refine .inr ⟨p, n, ?_, h2, h3, h4⟩
            have : p ≠ t := fun e => hR (e ▸ h2)
            omega)
      rw [ih, cntR, if_neg hR]; rfl
open Classical in
theorem cnt_filter (tms : List Tm) (x : Tm) : ∀ t, t ≤ tms.length → ((tms.take t).filter fun y => decide (y ∈ x.parts)).length = cntR (fun j => ∃ y, tms[j]? = some y ∧ y ∈ x.parts) t
  | 0, _ => by simp [cntR]
  | t + 1, h => by
    have hlt : t < tms.length := by omega
    rw [List.take_succ_eq_append_getElem hlt, List.filter_append, List.length_append, cnt_filter tms x t (by omega), cntR]
    congr 1
    have e : (∃ y, tms[t]? = some y ∧ y ∈ x.parts) ↔ tms[t] ∈ x.parts := by
      rw [List.getElem?_eq_getElem hlt]; simp
    by_cases hm : tms[t] ∈ x.parts
    · rw [if_pos (e.2 hm)]; simp [hm]
    · rw [if_neg (fun h => hm (e.1 h))]; simp [hm]
theorem Shared_at {a : AStore} {tys : List Ty} {tms : List Tm} (h : Sto a tys tms) {i : Nat} {x : Tm} (hi : tms[i]? = some x) :
    ∃ L : List Tm, L.Nodup ∧ (∀ y, y ∈ L ↔ y ∈ x.parts) ∧ hash_Shared a i = some ((L.length : Int), 0) := by
  classical
  obtain ⟨f1, f2⟩ := few_iff.1 h.few
  have hu := h.wm.uniq h.wt.uniq
  have hlt : i < tms.length := (List.getElem?_eq_some_iff.1 hi).1
  have hln := h.wm.len
  let R : Nat → Prop := fun j => ∃ y, tms[j]? = some y ∧ y ∈ x.parts
  have hle : ∀ p, R p → p ≤ i := fun p ⟨y, h1, h2⟩ => by
    obtain ⟨j, j1, j2⟩ := parts_le h.wm i x hi y h2
    rw [hu p j y h1 j2]; exact j1
  have node : ∀ {p : Nat} {n : MN}, a.terms[p]? = some n → tms[p]? = some (nodeE tys tms n) ∧ blw n.sub p = true := fun hp => ⟨(h.wm.node hp).1, (h.wm.node hp).2.bel⟩
  refine ⟨(tms.take (i + 1)).filter fun y => decide (y ∈ x.parts), (hu.nodup.sublist (List.take_sublist _ _)).filter _, fun y => ?_, ?_⟩
  · rw [List.mem_filter]
    simp only [decide_eq_true_eq]
    refine ⟨fun h => h.2, fun hy => ⟨?_, hy⟩⟩
    obtain ⟨j, j1, j2⟩ := parts_le h.wm i x hi y hy
    refine List.mem_of_getElem? (i := j) ?_
    rw [List.getElem?_take, if_pos (by omega), j2]
  · unfold hash_Shared
    rw [open_eq a h.thin, bs, if_pos h.few, if_pos h.wf]
    simp only [hash_Shared_j0c, ATermNode.Ds_len]
    rw [if_neg (show ¬ (i : Int) < 0 by omega), if_neg (show ¬ (a.terms.length : Int) ≤ (i : Int) by omega), bs, wr (by omega) (by omega), mkn, if_pos (by omega), bs]
    have e : ((i : Int) + 1).toNat = i + 1 := by omega
    rw [e, wantb, if_pos (by simp; omega), bs, seti_nat (by simp), bs]
    have main := Shared_l0 (a.types, a.terms, mapOf keyT 0 a.types, mapOf keyM 0 a.terms) i (by show i < a.terms.length; omega) (by show a.terms.length ≤ 5000; omega) R ⟨x, hi, x.self_parts⟩ hle
      (fun p n hp => (node hp).2)
      (fun p n ⟨y, h1, h2⟩ hp j hj => by
        obtain ⟨g1, g2⟩ := node hp
        rw [h1] at g1; injection g1 with g1
        have hb := blw_iff.1 g2 _ hj
        have hl : j < tms.length := by have := (List.getElem?_eq_some_iff.1 h1).1; omega
        refine ⟨_, getD_at hl, parts_trans x y _ h2 ?_⟩
        rw [g1]
        exact child_parts (List.mem_map.2 ⟨(j : Int), hj, by simp⟩))
      (fun j ⟨y, h1, h2⟩ hji => by
        rcases parts_parent x y h2 with rfl | ⟨w, w1, w2⟩
        · exact absurd (hu j i y h1 hi) hji
        · obtain ⟨p, p1, p2⟩ := parts_le h.wm i x hi w w1
          have hp : p < a.terms.length := by have := (List.getElem?_eq_some_iff.1 p2).1; omega
          obtain ⟨g1, g2⟩ := node (List.getElem?_eq_getElem hp)
          rw [p2] at g1; injection g1 with g1
          rw [g1] at w2
          obtain ⟨q, hq, e⟩ := List.mem_map.1 w2
          have hb := blw_iff.1 g2 q hq
          have hl : q.toNat < tms.length := by omega
          have := hu j q.toNat y h1 (by rw [getD_at hl, e])
          exact ⟨p, _, ⟨w, p2, w1⟩, List.getElem?_eq_getElem hp, by rw [this, Int.toNat_of_nonneg hb.1]; exact hq⟩)
      (i + 1) 0 ((List.replicate (i + 1) false).set i true) (Nat.le_refl _) (by omega) (by simp) (fun j hj => by
        rw [List.getElem?_set]
        by_cases hji : i = j
        · simp [hji]
        · rw [if_neg hji, List.getElem?_replicate]
          constructor
          · intro h; split at h <;> simp at h
          · rintro (h | ⟨p, n, q1, q2, _⟩)
            · exact absurd h.symm hji
            · have := hle p q2; omega)
    rw [show (((i + 1 : Nat) : Int) - 1) = (i : Int) by omega] at main
    refine Eq.trans main ?_
    rw [cnt_filter tms x (i + 1) (by omega)]
    simp [R]
theorem HashShares_law (a0 : AStore) (a1 : Tm) (h0 : a0.ok) (h1 : a1.ok) : sequentlaw31_HashShares a0 a1 = some true := by
  unfold sequentlaw31_HashShares
  obtain ⟨b0, e0, t0⟩ := store_Great a0 h0
  obtain ⟨b1, e1, t1⟩ := term_Wide a1 h1
  rw [alive_eq, bs, e0, bs]
  cases b0 with
  | true => rfl
  | false =>
    rw [if_neg (by simp), e1, bs]
    cases b1 with
    | true => rfl
    | false =>
      rw [if_neg (by simp), if_pos rfl]
      have w0 := t0 rfl
      have f1 := t1 rfl
      rw [hash_Add_eq a0 w0 a1 f1.1 f1.lim f1.2.1, bs]
      by_cases g1 : (AddS a0 a1).2.2 = 0
      · rw [if_neg (by simp [g1])]
        obtain ⟨c1, tys, tms, s0, i, p, p', q, q', k1, A1⟩ := AddS_ok g1
        obtain ⟨d1, d2, d3⟩ := check_zero' c1
        obtain ⟨z1, z2⟩ := er_size a1
        have hin := tm_parts_in A1.st.wt A1.st.wm a1 (List.mem_of_getElem? A1.at_)
        obtain ⟨L, l1, l2, l3⟩ := Shared_at A1.st A1.at_
        have hS := hash_Size_at A1.st A1.at_ (by omega) (by omega)
        -- the store of this term alone
        obtain ⟨j, e, e', f, f', m1, m2, m3, m4, m5, m6, m7⟩ := addM_St noS_Sto c1
        have hq7 := few_iff.1 A1.st.few
        have n1 : ([] ++ e').length ≤ 4096 := by
          have : (([] : List Ty) ++ e').length ≤ (tys ++ p').length := nodup_le _ _ m2.uniq.nodup fun x hx => hin.2 x (m5 x (by simpa using hx))
          rw [A1.st.wt.len] at this
          have := hq7.1; omega
        have n2 : ([] ++ f').length ≤ 4096 := by
          have : (([] : List Tm) ++ f').length ≤ (tms ++ q').length := nodup_le _ _ (m3.uniq m2.uniq).nodup fun x hx => hin.1 x (m6 x (by simpa using hx))
          rw [A1.st.wm.len] at this
          have := hq7.2; omega
        have s1 : Sto (.mk (noS.types ++ e) (noS.terms ++ f)) ([] ++ e') ([] ++ f') := ⟨m2, m3, by rw [few_iff]; exact ⟨by rw [← m2.len]; exact n1, by rw [← m3.len]; exact n2⟩⟩
        have hA : AddS noS a1 = (.mk (noS.types ++ e) (noS.terms ++ f), (j : Int), 0) := by
          unfold AddS
          rw [if_pos noS_Sto.few, if_pos noS_Sto.wf, if_pos c1, m1]
          simp only
          rw [if_pos s1.few]
        obtain ⟨L', r1, r2, r3⟩ := Shared_at s1 m4
        have hin1 := tm_parts_in s1.wt s1.wm a1 (List.mem_of_getElem? m4)
        have hLL : L.length = L'.length := nodup_eq l1 r1 fun y => by rw [l2, r2]
        have hLt : L'.length = (noS.terms ++ f).length := by
          rw [← s1.wm.len]
          exact nodup_eq r1 (s1.wm.uniq s1.wt.uniq).nodup fun y => by
            rw [r2]
            exact ⟨fun h => hin1.1 y h, fun h => m6 y (by simpa using h)⟩
        have hj : j + 1 = (noS.terms ++ f).length := by
          have hlt : j < (([] : List Tm) ++ f').length := (List.getElem?_eq_some_iff.1 m4).1
          have hlen := s1.wm.len
          have hlen : (([] : List Tm) ++ f').length = (noS.terms ++ f).length := hlen
          have hlast : (noS.terms ++ f).length - 1 < (([] : List Tm) ++ f').length := by omega
          obtain ⟨y, hm⟩ : ∃ y, (([] : List Tm) ++ f')[(noS.terms ++ f).length - 1]? = some y := ⟨_, List.getElem?_eq_getElem hlast⟩
          have hyf : y ∈ f' := by have := List.mem_of_getElem? hm; simpa using this
          obtain ⟨o, o1, o2⟩ := parts_le s1.wm j _ m4 _ (m6 _ hyf)
          have := (s1.wm.uniq s1.wt.uniq) _ _ _ hm o2
          omega
        have hLs : L.length ≤ a1.size := by
          have := nodup_le L a1.er.parts l1 fun y hy => (l2 y).1 hy
          rw [parts_size] at this; omega
        have hL1 : 1 ≤ L.length := List.length_pos_of_mem ((l2 a1.er).2 a1.er.self_parts)
        have hq : q.length ≤ L.length := by
          have hql : q'.length = q.length := by
            have := A1.st.wm.len
            have h2 := s0.wm.len
            simp only [List.length_append] at this; omega
          have hnd : q'.Nodup := by
            have := (A1.st.wm.uniq A1.st.wt.uniq).nodup
            rw [List.nodup_append] at this
            exact this.2.1
          rw [← hql]
          exact nodup_le q' L hnd fun y hy => (l2 y).2 (A1.tmn y hy)
        rw [k1]
        simp only []
        rw [hS, bs, l3, bs, show (AStore.mk ([] : List ATypeNode) ([] : List ATermNode)) = noS from rfl, hash_Add_eq noS noS_Sto.thin a1 f1.1 f1.lim f1.2.1, bs, hA]
        simp only []
        rw [r3, bs, if_pos rfl, ref2_Size_eq a1 f1.lim, bs, if_pos (show (a1.er.size : Int) = (a1.size : Int) by omega)]
        simp only [if_true, ATermNode.Ds_len, bs]
        rw [if_pos (show (1 : Int) ≤ (L.length : Int) by omega), if_pos (show (L.length : Int) ≤ (a1.er.size : Int) by omega), if_pos (show (L'.length : Int) = (L.length : Int) by omega), if_pos (show ((noS.terms ++ f).length : Int) = (L'.length : Int) by omega), wr (by omega) (by omega), if_pos (show (j : Int) = (L'.length : Int) - 1 by omega), wr (by have := hq7.2; omega) (by have := w0.nm; omega)]
        simp only [List.length_append, Option.some.injEq, decide_eq_true_eq]
        omega
      · rw [if_pos (by simpa using g1)]
end Go.Proofs.Ytpgecpmonaldiaa.Fw

namespace Go.Proofs.Ytpgecpmonaldiaa.Fw
open Go Go.Proofs

theorem Comb_tot {f x : Tm} (hf : f.fine) (hx : x.fine) : ∃ r : Tm × Int, terms_Comb f x = some r ∧ (r.2 = 0 → f.check = 0 ∧ x.check = 0 ∧ r.1 = Tm.app f x ∧ (Tm.app f x).check = 0) := by
  by_cases cf : f.check = 0
  · by_cases cx : x.check = 0
    · cases hu : appT f.type x.type with
      | some u =>
        have h1 := terms_Comb_eq ⟨hf.1, hf.2.1⟩ ⟨hx.1, hx.2.1⟩ cf cx hu
        obtain ⟨h2, h3⟩ := Tm.app_check cf cx hu
        cases hs : (Tm.app f x).small with
        | true =>
          rw [hs] at h1 h2
          exact ⟨_, h1, fun _ => ⟨cf, cx, rfl, h2⟩⟩
        | false =>
          rw [hs] at h1
          exact ⟨_, h1, fun h => by simp at h⟩
      | none =>
        rw [terms_Comb, terms_typed_eq f hf.1 hf.lim hf.2.1, bs]
        simp only [cf, if_true, not_true_eq_false, if_false]
        rw [terms_typed_eq x hx.1 hx.lim hx.2.1, bs]
        simp only [cx, if_true, not_true_eq_false, if_false]
        by_cases hv : f.type.v = true
        · rw [if_pos hv]; exact ⟨_, rfl, fun h => by simp at h⟩
        · rw [if_neg hv]
          by_cases hn : f.type.name = (ByteArray.mk #[102, 117, 110])
          · rw [if_neg (by simp [hn])]
            simp only [Ty.Ds_len]
            by_cases hl : (f.type.args.length : Int) = 2
            · rw [if_neg (by simp [hl])]
              rw [appT_some, if_pos ⟨by simpa using hv, hn, by omega⟩] at hu
              generalize f.type.args = A at hu hl
              have hl : A.length = 2 := by omega
              match A, hl with
              | [a, b], _ =>
                rw [show geti [a, b] 0 = some a from rfl, bs, types_Same_eq, bs]
                cases hb : Ty.beq a x.type with
                | true => simp [hb] at hu
                | false => simp only [Bool.false_eq_true, if_false]; exact ⟨_, rfl, fun h => by simp at h⟩
            · rw [if_pos hl]; exact ⟨_, rfl, fun h => by simp at h⟩
          · rw [if_pos hn]; exact ⟨_, rfl, fun h => by simp at h⟩
    · rw [terms_Comb, terms_typed_eq f hf.1 hf.lim hf.2.1, bs]
      simp only [cf, if_true, not_true_eq_false, if_false]
      rw [terms_typed_eq x hx.1 hx.lim hx.2.1, bs]
      rw [if_pos (by simpa using cx)]
      exact ⟨_, rfl, fun h => absurd h (by simpa using cx)⟩
  · rw [terms_Comb, terms_typed_eq f hf.1 hf.lim hf.2.1, bs]
    rw [if_pos (by simpa using cf)]
    exact ⟨_, rfl, fun h => absurd h (by simpa using cf)⟩
theorem uniq_new {α : Type} {l e : List α} (h : Uniq (l ++ e)) : ∀ x ∈ e, x ∉ l := by
  intro x hx hl
  obtain ⟨i, hi⟩ := List.getElem?_of_mem hl
  obtain ⟨j, hj⟩ := List.getElem?_of_mem hx
  have hlt := (List.getElem?_eq_some_iff.1 hi).1
  have := h i (l.length + j) x (by rw [List.getElem?_append_left hlt, hi]) (by rw [List.getElem?_append_right (by omega)]; simpa using hj)
  omega
theorem AddS_app {a : AStore} {tys : List Ty} {tms : List Tm} (hs : Sto a tys tms) {f x : Tm} (hc : (Tm.app f x).check = 0) (h1 : f.er ∈ tms) (h2 : x.er ∈ tms) :
    (∃ (i : Nat) (q : List MN) (q' : List Tm), AddS a (Tm.app f x) = (.mk a.types (a.terms ++ q), (i : Int), 0) ∧ Sto (.mk a.types (a.terms ++ q)) tys (tms ++ q') ∧ i < (a.terms ++ q).length ∧ q.length ≤ 1) ∨ (AddS a (Tm.app f x) = (noS, 0, 4) ∧ a.terms.length = 4096) := by
  obtain ⟨i, e, e', q, q', g1, g2, g3, g4, g5, g6, g7⟩ := addM_St hs hc
  have i1 := tm_parts_in hs.wt hs.wm f h1
  have i2 := tm_parts_in hs.wt hs.wm x h2
  have he' : e' = [] := by
    rw [List.eq_nil_iff_forall_not_mem]
    intro t ht
    have hm := g5 t ht
    simp only [Tm.app, Tm.typs, Tm.typss, or_true, if_true, List.nil_append, List.append_nil, List.mem_append] at hm
    exact uniq_new g2.uniq t ht (hm.elim (i1.2 t) (i2.2 t))
  subst he'
  have he : e = [] := by
    have := g2.len
    have h3 := hs.wt.len
    simp only [List.append_nil, List.length_append] at this
    exact List.length_eq_zero_iff.1 (by omega)
  subst he
  have hu := g3.uniq g2.uniq
  have hq' : q'.length ≤ 1 := by
    have hnd : q'.Nodup := by
      have := hu.nodup
      rw [List.nodup_append] at this
      exact this.2.1
    refine nodup_le q' [(Tm.app f x).er] hnd fun y hy => ?_
    have hm := g6 y hy
    simp only [Tm.app, Tm.er, Tm.ers, Tm.parts, Tm.partss, List.mem_cons, List.append_nil, List.mem_append] at hm
    rcases hm with hm | hm
    · simp only [List.mem_singleton, Tm.app, Tm.er, Tm.ers]; exact hm
    · exact absurd (hm.elim (i1.1 y) (i2.1 y)) (uniq_new hu y hy)
  have hql : q.length ≤ 1 := by
    have := g3.len
    have h3 := hs.wm.len
    simp only [List.length_append] at this; omega
  simp only [List.append_nil] at g1 g2 g3
  obtain ⟨f1, f2⟩ := few_iff.1 hs.few
  unfold AddS
  rw [if_pos hs.few, if_pos hs.wf, if_pos hc, g1]
  simp only
  by_cases hfew : (AStore.mk a.types (a.terms ++ q)).few = true
  · left
    rw [if_pos hfew]
    exact ⟨i, q, q', rfl, ⟨g2, g3, hfew⟩, by rw [← g3.len]; exact (List.getElem?_eq_some_iff.1 g4).1, hql⟩
  · right
    rw [if_neg hfew]
    refine ⟨rfl, ?_⟩
    rw [few_iff] at hfew
    simp only [List.length_append] at hfew
    omega
theorem HashParts_law (a0 : AStore) (a1 a2 : Tm) (h0 : a0.ok) (h1 : a1.ok) (h2 : a2.ok) : sequentlaw31_HashParts a0 a1 a2 = some true := by
  unfold sequentlaw31_HashParts
  obtain ⟨b0, e0, t0⟩ := store_Great a0 h0
  obtain ⟨b1, e1, t1⟩ := term_Wide a1 h1
  obtain ⟨b2, e2, t2⟩ := term_Wide a2 h2
  rw [alive_eq, bs, e0, bs]
  cases b0 with
  | true => rfl
  | false =>
    rw [if_neg (by simp), e1, bs]
    cases b1 with
    | true => rfl
    | false =>
      rw [if_neg (by simp), e2, bs]
      cases b2 with
      | true => rfl
      | false =>
        rw [if_neg (by simp), if_pos rfl]
        have w0 := t0 rfl
        have f1 := t1 rfl
        have f2 := t2 rfl
        obtain ⟨v9, k9, c9⟩ := Comb_tot f1 f2
        rw [k9, bs, hash_Add_eq a0 w0 a1 f1.1 f1.lim f1.2.1, bs, hash_Add_eq _ (AddS_thin a0 a1) a2 f2.1 f2.lim f2.2.1, bs]
        by_cases g0 : v9.2 = 0
        · rw [if_neg (by simp [g0])]
          obtain ⟨c1, c2, ca, cc⟩ := c9 g0
          by_cases g1 : (AddS a0 a1).2.2 = 0
          · rw [if_neg (by simp [g1])]
            by_cases g2 : (AddS (AddS a0 a1).1 a2).2.2 = 0
            · rw [if_neg (by simp [g2])]
              obtain ⟨_, tys, tms, s0, i, p, p', q, q', k1, A1⟩ := AddS_ok g1
              obtain ⟨_, tys2, tms2, s2, j, r, r', o, o', k2, A2⟩ := AddS_ok g2
              have hs1 : Sto (AddS a0 a1).1 (tys ++ p') (tms ++ q') := by rw [k1]; exact A1.st
              obtain ⟨rfl, rfl⟩ := s2.same hs1
              have hs2 : Sto (AddS (AddS a0 a1).1 a2).1 ((tys ++ p') ++ r') ((tms ++ q') ++ o') := by rw [k2]; exact A2.st
              have at1 : ((tms ++ q') ++ o')[i]? = some a1.er := by
                rw [List.getElem?_append_left (List.getElem?_eq_some_iff.1 A1.at_).1, A1.at_]
              have i1 : (AddS a0 a1).2.1 = (i : Int) := by rw [k1]
              have i2 : (AddS (AddS a0 a1).1 a2).2.1 = (j : Int) := by rw [k2]
              have at2 := A2.at_
              have z1 := (check_zero' c1).1
              have z2 := (check_zero' c2).1
              have hfine : (Tm.app a1 a2).fine := Tm.app_fine ⟨f1.1, f1.2.1⟩ ⟨f2.1, f2.2.1⟩ (by omega)
              have hth := AddS_thin (AddS a0 a1).1 a2
              rw [ca, hash_Add_eq _ hth _ hfine.1 hfine.lim hfine.2.1, bs]
              generalize (AddS (AddS a0 a1).1 a2).1 = S at *
              obtain ⟨n1, n2⟩ := few_iff.1 hs2.few
              rcases AddS_app hs2 cc (List.mem_of_getElem? at1) (List.mem_of_getElem? at2) with ⟨ix, w, w', u1, u2, u3, u4⟩ | ⟨u1, u2⟩
              · rw [u1]
                simp only [ATypeNode.Ds_len, ATermNode.Ds_len, List.length_append]
                have o1 := (AddS_old u2 c1 (i := i) (by rw [List.getElem?_append_left (List.getElem?_eq_some_iff.1 at1).1, at1])).2
                have o2 := (AddS_old u2 c2 (i := j) (by rw [List.getElem?_append_left (List.getElem?_eq_some_iff.1 at2).1, at2])).2
                rw [if_neg (by simp), bs, wr (by omega) (by omega), if_neg (show ¬ ((S.terms.length : Int) + 1 < ((S.terms.length + w.length : Nat) : Int)) by omega), if_neg (by simp), hash_Find_eq _ u2.thin a1 f1.1 f1.lim f1.2.1, bs, hash_Find_eq _ u2.thin a2 f2.1 f2.lim f2.2.1, bs, o1, o2]
                simp only [List.length_append] at u3
                rw [if_pos (by omega)]
                simp [i1, i2]
              · rw [u1]
                simp only [ATypeNode.Ds_len, ATermNode.Ds_len]
                rw [if_pos (by simp)]
                simp [u2]
            · rw [if_pos (by simpa using g2)]
          · rw [if_pos (by simpa using g1)]
        · rw [if_pos (by simpa using g0)]
end Go.Proofs.Ytpgecpmonaldiaa.Fw
