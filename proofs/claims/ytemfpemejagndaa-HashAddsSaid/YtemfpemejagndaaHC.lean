/- Stores: what the reference's check says. -/
import Derived.Test.YtemfpemejagndaaHB
set_option autoImplicit false
set_option linter.unusedVariables false
set_option linter.unusedSimpArgs false
namespace Go.Proofs.Ytemfpemejagndaa.Fw
open Go Go.Proofs

theorem ints_lk (ys : List Int) : ∀ (xs : List Int) (k : Nat), k + xs.length = ys.length → z31_ints_l0 xs k ys = some (decide (xs = ys.drop k))
 | [], k, h => by
  have : ys.drop k = [] := List.drop_eq_nil_of_le (by simp at h; omega)
  rw [z31_ints_l0_eq]; simp [this]
 | x :: r, k, h => by
  simp only [List.length_cons] at h
  obtain ⟨y, g1, g2⟩ := geti_drop (l := ys) (k := k) (n := r.length) (by omega)
  rw [z31_ints_l0_eq]
  simp only []
  rw [g1, bs, g2]
  by_cases he : x = y
  ·subst he
   rw [if_neg (by simp), ints_lk ys r (k + 1) (by omega)]
   simp
  ·rw [if_pos he]; simp [he]
theorem ints_eqk (xs ys : List Int) : z31_ints xs ys = some (decide (xs = ys)) := by
 rw [z31_ints]
 simp only [intDs_i64_len]
 by_cases h : xs.length = ys.length
 ·rw [if_neg (by simp [h]), ints_lk ys xs 0 (by omega)]; simp
 ·rw [if_pos (by omega)]
  have : xs ≠ ys := fun e => h (by rw [e])
  simp [this]
def eqT (n m : TN) : Bool := decide (n.var = m.var) && (decide (n.name = m.name) && decide (n.args = m.args))
theorem eqT_iff {n m : TN} : eqT n m = true ↔ n = m := by
 obtain ⟨a, b, c⟩ := n; obtain ⟨a', b', c'⟩ := m
 simp [eqT]
theorem sameType_eq (n m : TN) : z31_sameType n m = some (eqT n m) := by
 rw [z31_sameType, ints_eqk, eqT]
 by_cases h1 : n.var = m.var
 ·rw [if_pos h1]
  by_cases h2 : n.name = m.name
  ·rw [if_pos h2, bs]; simp [h1, h2]
  ·rw [if_neg h2]; simp [h2]
 ·rw [if_neg h1]; simp [h1]
def eqM (n m : MN) : Bool := decide (n.kind = m.kind) && ((decide (n.kind = 5) || decide (n.name = m.name)) && (decide (n.type_ = m.type_) && (decide (n.index = m.index) && decide (n.sub = m.sub))))
theorem sameTerm_eq (n m : MN) : z31_sameTerm n m = some (eqM n m) := by
 rw [z31_sameTerm, ints_eqk, eqM]
 by_cases h1 : n.kind = m.kind
 ·rw [if_pos h1]
  by_cases h5 : n.kind = 5
  ·rw [if_pos h5]
   by_cases h2 : n.type_ = m.type_
   ·rw [if_pos h2]
    by_cases h3 : n.index = m.index
    ·rw [if_pos h3, bs]; simp [← h1, h5, h2, h3]
    ·rw [if_neg h3]; simp [h3]
   ·rw [if_neg h2]; simp [h2]
  ·rw [if_neg h5]
   by_cases h0 : n.name = m.name
   ·rw [if_pos h0]
    by_cases h2 : n.type_ = m.type_
    ·rw [if_pos h2]
     by_cases h3 : n.index = m.index
     ·rw [if_pos h3, bs]; simp [h1, h0, h2, h3]
     ·rw [if_neg h3]; simp [h3]
    ·rw [if_neg h2]; simp [h2]
   ·rw [if_neg h0]; simp [h0, h5]
 ·rw [if_neg h1]; simp [h1]
theorem eqM_iff {n m : MN} (hn : n.sub.length ≤ 2) (hm : m.sub.length ≤ 2) : eqM n m = true ↔ keyM n = keyM m := by
 constructor
 ·intro h
  simp only [eqM, Bool.and_eq_true, Bool.or_eq_true, decide_eq_true_eq] at h
  obtain ⟨h1, h2, h3, h4, h5⟩ := h
  refine keyM_of ⟨h1, h3, h4, h5, ?_⟩
  rw [← h1]
  by_cases hk : n.kind = 5
  ·rw [if_pos hk, if_pos hk]
  ·rw [if_neg hk, if_neg hk]; exact h2.resolve_left hk
 ·intro h
  obtain ⟨h1, h2, h3, h4, h5⟩ := keyM_eq hn hm h
  simp only [eqM, Bool.and_eq_true, Bool.or_eq_true, decide_eq_true_eq]
  refine ⟨h1, ?_, h2, h3, h4⟩
  by_cases hk : n.kind = 5
  ·exact .inl hk
  ·rw [← h1, if_neg hk, if_neg hk] at h5; exact .inr h5
theorem below_lk (k : Int) : ∀ xs : List Int, z31_below_l0 xs k = some (blw xs k)
 | [] => by rw [z31_below_l0_eq]; rfl
 | x :: r => by
  rw [z31_below_l0_eq]
  simp only []
  rw [below_lk k r]
  by_cases h1 : x < 0
  ·rw [if_pos h1]; simp [blw]; omega
  ·rw [if_neg h1]
   by_cases h2 : k ≤ x
   ·rw [if_pos h2]; simp [blw]; omega
   ·rw [if_neg h2]
    have a1 : decide (0 ≤ x) = true := by simp; omega
    have a2 : decide (x < k) = true := by simp; omega
    simp [blw, a1, a2]
theorem below_eqk (xs : List Int) (k : Int) : z31_below xs k = some (blw xs k) := by rw [z31_below, below_lk]
/-! ### sizes -/
def c4 (n : Nat) : Int := ((min n 40000 : Nat) : Int)
/-- the sizes and depths of what nodes stand for -/
structure Szs (parts : List (List Int)) (S D : List Nat) : Prop where
 ls : S.length = parts.length
 ld : D.length = parts.length
 at_ : ∀ (i : Nat) (p : List Int), parts[i]? = some p → p.length ≤ 20 ∧ blw p i = true ∧ S[i]? = some (1 + (p.map fun j => S.getD j.toNat 0).sum) ∧ D[i]? = some (1 + maxl (p.map fun j => D.getD j.toNat 0))
theorem c4_min (q : Nat) : min (q : Int) 40000 = c4 q := by simp only [c4]; omega
theorem c4_sum (L : List Nat) : min (1 + (L.map fun x => min x 40000).sum) 40000 = min (1 + L.sum) 40000 := by
 induction L with
 | nil => rfl
 | cons a r ih => simp only [List.map_cons, List.sum_cons]; omega
theorem c4_max (L : List Nat) : min (1 + maxl (L.map fun x => min x 40000)) 40000 = min (1 + maxl L) 40000 := by
 induction L with
 | nil => rfl
 | cons a r ih => simp only [List.map_cons, maxl]; omega
theorem Sized_l1k {parts : List (List Int)} {S D : List Nat} (h : Szs parts S D) (i : Nat) (p : List Int) (hp : parts[i]? = some p) (hi : i ≤ lim) : ∀ (j k n d : Nat), k + j = p.length → n ≤ 40000 * k + 1 → d ≤ 40000 →
  z31_Sized_l1 ((S.take i).map c4) ((D.take i).map c4) (i : Int) (n : Int) (d : Int) (k : Int) parts =
   z31_Sized_l0 ((S.take i).map c4 ++ [c4 (n + ((p.drop k).map fun j => min (S.getD j.toNat 0) 40000).sum)]) ((D.take i).map c4 ++ [c4 (max d (maxl ((p.drop k).map fun j => min (D.getD j.toNat 0) 40000)) + 1)]) ((i + 1 : Nat) : Int) parts
 | 0, k, n, d, hk, hn, hd => by
  have hil : i < parts.length := (List.getElem?_eq_some_iff.1 hp).1
  have h1 := h.ls
  have h2 := h.ld
  have g1 := (h.at_ i p hp).1
  simp only [lim] at hi
  have hdr : p.drop k = [] := List.drop_eq_nil_of_le (by omega)
  rw [z31_Sized_l1_eq, geti_nat, hp, bs]
  simp only [intDs_i64_len]
  rw [if_neg (by omega), app_ok (by simp; omega), bs, wr (by omega) (by omega), bs, app_ok (by simp; omega), bs, wr (by omega) (by omega), bs, hdr]
  have e1 := c4_min n
  have e2 : min ((d : Int) + 1) 40000 = c4 (d + 1) := by
   have h := c4_min (d + 1)
   rw [show ((d + 1 : Nat) : Int) = (d : Int) + 1 by omega] at h
   exact h
  have e3 : (i : Int) + 1 = ((i + 1 : Nat) : Int) := by omega
  simp only [List.map_nil, List.sum_nil, maxl, Nat.add_zero, Nat.max_zero, e1, e2, e3]
 | j + 1, k, n, d, hk, hn, hd => by
  have hkl : k < p.length := by omega
  obtain ⟨g1, g2, g3, g4⟩ := h.at_ i p hp
  have hx := blw_iff.1 g2 p[k] (List.getElem_mem hkl)
  have hil : i < parts.length := (List.getElem?_eq_some_iff.1 hp).1
  have h1 := h.ls
  have h2 := h.ld
  have hdr : p.drop k = p[k] :: p.drop (k + 1) := List.drop_eq_getElem_cons hkl
  have hg : ∀ L : List Nat, L.length = parts.length → geti ((L.take i).map c4) p[k] = some (c4 (L.getD p[k].toNat 0)) := fun L hL => by
   rw [geti, if_pos hx.1, List.getElem?_map, List.getElem?_take, if_pos (by omega), List.getElem?_eq_getElem (by omega), List.getD_eq_getElem?_getD, List.getElem?_eq_getElem (by omega)]; rfl
  rw [z31_Sized_l1_eq, geti_nat, hp, bs]
  simp only [intDs_i64_len]
  rw [if_pos (by omega), bs, geti_nat, List.getElem?_eq_getElem hkl, bs, hg S h1, bs, wr (by simp only [c4]; omega) (by simp only [c4]; omega), bs, bs, geti_nat, List.getElem?_eq_getElem hkl, bs, hg D h2, bs, wr (by omega) (by omega), bs]
  have e1 : (n : Int) + c4 (S.getD p[k].toNat 0) = ((n + min (S.getD p[k].toNat 0) 40000 : Nat) : Int) := by simp only [c4]; omega
  have e2 : max (d : Int) (c4 (D.getD p[k].toNat 0)) = ((max d (min (D.getD p[k].toNat 0) 40000) : Nat) : Int) := by simp only [c4]; omega
  have e3 : (k : Int) + 1 = ((k + 1 : Nat) : Int) := by omega
  rw [e1, e2, e3, Sized_l1k h i p hp hi j (k + 1) _ _ (by omega) (by omega) (by omega), hdr]
  simp only [List.map_cons, List.sum_cons, maxl, Nat.add_assoc, Nat.max_assoc]
theorem Sized_l0k {parts : List (List Int)} {S D : List Nat} (h : Szs parts S D) (hl : parts.length ≤ lim) : ∀ (j i : Nat), i + j = parts.length →
  z31_Sized_l0 ((S.take i).map c4) ((D.take i).map c4) (i : Int) parts = some (S.map c4, D.map c4)
 | 0, i, hi => by
  have h1 := h.ls
  have h2 := h.ld
  rw [z31_Sized_l0_eq]
  simp only [intDs_i64s_len]
  rw [if_neg (by omega), List.take_of_length_le (by omega), List.take_of_length_le (by omega)]
 | j + 1, i, hi => by
  have h1 := h.ls
  have h2 := h.ld
  have hil : i < parts.length := by omega
  obtain ⟨g1, g2, g3, g4⟩ := h.at_ i _ (List.getElem?_eq_getElem hil)
  rw [z31_Sized_l0_eq]
  simp only [intDs_i64s_len]
  rw [if_pos (by omega)]
  have := Sized_l1k h i _ (List.getElem?_eq_getElem hil) (by omega) (parts[i]).length 0 1 0 (by omega) (by omega) (by omega)
  simp only [List.drop_zero] at this
  have e : ∀ x : Int, (1 : Int) = ((1 : Nat) : Int) := fun _ => rfl
  refine Eq.trans this ?_
  have es : (S.take i).map c4 ++ [c4 (1 + ((parts[i]).map fun j => min (S.getD j.toNat 0) 40000).sum)] = (S.take (i + 1)).map c4 := by
   rw [List.take_add_one, g3, List.map_append]
   congr 1
   simp only [Option.toList, List.map_cons, List.map_nil, List.cons.injEq, and_true, c4]
   congr 1
   have := c4_sum ((parts[i]).map fun j => S.getD j.toNat 0)
   rw [List.map_map] at this
   exact this
  have ed : (D.take i).map c4 ++ [c4 (max 0 (maxl ((parts[i]).map fun j => min (D.getD j.toNat 0) 40000)) + 1)] = (D.take (i + 1)).map c4 := by
   rw [List.take_add_one, g4, List.map_append]
   congr 1
   simp only [Option.toList, List.map_cons, List.map_nil, List.cons.injEq, and_true, c4]
   congr 1
   have := c4_max ((parts[i]).map fun j => D.getD j.toNat 0)
   rw [List.map_map] at this
   rw [Nat.zero_max, Nat.add_comm]
   exact this
  rw [es, ed]
  exact Sized_l0k h hl j (i + 1) (by omega)
theorem Sized_eqk {parts : List (List Int)} {S D : List Nat} (h : Szs parts S D) (hl : parts.length ≤ lim) : z31_Sized parts = some (S.map c4, D.map c4) := by
 have := Sized_l0k h hl parts.length 0 (by omega)
 simpa [z31_Sized] using this
end Go.Proofs.Ytemfpemejagndaa.Fw


namespace Go.Proofs.Ytemfpemejagndaa.Fw
open Go Go.Proofs

theorem dec_node : ∀ ns : List TN, (∀ (i : Nat) (n : TN), ns[i]? = some n → blw n.args i = true) → ∀ (i : Nat) (n : TN), ns[i]? = some n → (decT [] ns)[i]? = some (nodeT (decT [] ns) n) := by
 intro ns
 induction ns using snoc_ind with
 | h0 => intro _ i n h; simp at h
 | h1 l a ih =>
  intro hb i n h
  have hl : (decT [] l).length = l.length := by rw [decT_len]; simp
  have hb' : ∀ (i : Nat) (n : TN), l[i]? = some n → blw n.args i = true := fun i n hi => hb i n (by rw [List.getElem?_append_left (List.getElem?_eq_some_iff.1 hi).1]; exact hi)
  rw [decT_snoc]
  rcases snoc_get h with ⟨h1, h2⟩ | ⟨h1, h2⟩
  ·have g := ih hb' i n h2
   have gb := hb' i n h2
   rw [List.getElem?_append_left (by omega), g, nodeT_app (blw_mono gb (by omega))]
  ·subst h2; subst h1
   have gb := hb _ _ h
   rw [nodeT_app (by rw [hl]; exact gb), ← hl]; simp
theorem Szs_types {ns : List TN} (h : ∀ (i : Nat) (n : TN), ns[i]? = some n → n.args.length ≤ 20 ∧ blw n.args i = true) : Szs (ns.map (·.args)) ((decT [] ns).map Ty.size) ((decT [] ns).map Ty.depth) := by
 have hl : (decT [] ns).length = ns.length := by rw [decT_len]; simp
 refine ⟨by simp [hl], by simp [hl], fun i p hp => ?_⟩
 rw [List.getElem?_map, Option.map_eq_some_iff] at hp
 obtain ⟨n, hn, rfl⟩ := hp
 obtain ⟨g1, g2⟩ := h i n hn
 have g3 := dec_node ns (fun i n hi => (h i n hi).2) i n hn
 have hlt := (List.getElem?_eq_some_iff.1 hn).1
 have hj : ∀ j ∈ n.args, 0 ≤ j ∧ j < (decT [] ns).length := fun j hj => by have := blw_iff.1 g2 j hj; omega
 refine ⟨g1, g2, ?_, ?_⟩
 ·rw [List.getElem?_map, g3, Option.map_some, nodeT_size hj]
 ·rw [List.getElem?_map, g3, Option.map_some, nodeT_depth hj]
structure okS (ns : List TN) (i : Nat) (n : TN) : Prop where
 len : n.args.length ≤ 8
 var : n.var = true → n.args = []
 val : Ty.valid (.mk n.var n.name []) = true
 bel : blw n.args i = true
 new : ∀ j, j < i → ns[j]? ≠ some n
theorem tv_l1 (ns : List TN) (T : List (List Int)) (i : Nat) (n : TN) (hn : ns[i]? = some n) (hT : T.length < lim) (hi : i < lim) : ∀ (j k : Nat), k + j = i →
  ((∃ q, k ≤ q ∧ q < i ∧ ns[q]? = some n) ∧ z31_typesValid_l1 T i k ns = some false) ∨ ((∀ q, k ≤ q → q < i → ns[q]? ≠ some n) ∧ z31_typesValid_l1 T i k ns = z31_typesValid_l0 (T ++ [n.args]) ((i + 1 : Nat) : Int) ns)
 | 0, k, hk => by
  simp only [lim] at hT hi
  refine .inr ⟨fun q h1 h2 => by omega, ?_⟩
  rw [z31_typesValid_l1_eq, if_neg (by omega), geti_nat, hn, bs, app_ok (by simp; omega), bs, wr (by omega) (by omega), bs]
  rw [show (i : Int) + 1 = ((i + 1 : Nat) : Int) by omega]
 | j + 1, k, hk => by
  have hlt := (List.getElem?_eq_some_iff.1 hn).1
  have hk2 : k < ns.length := by omega
  have ih := tv_l1 ns T i n hn hT hi j (k + 1) (by omega)
  simp only [lim] at hT hi
  rw [z31_typesValid_l1_eq, if_pos (by omega), geti_nat, List.getElem?_eq_getElem hk2, bs, geti_nat, hn, bs, sameType_eq, bs]
  cases he : eqT ns[k] n with
  | true =>
   refine .inl ⟨⟨k, Nat.le_refl _, by omega, ?_⟩, by simp⟩
   rw [List.getElem?_eq_getElem hk2, eqT_iff.1 he]
  | false =>
   have hne : ns[k]? ≠ some n := fun h => by
    rw [List.getElem?_eq_getElem hk2] at h
    injection h with h
    rw [eqT_iff.2 h] at he; cases he
   rw [if_neg (by simp), wr (by omega) (by omega), bs, show (k : Int) + 1 = ((k + 1 : Nat) : Int) by omega]
   rcases ih with ⟨⟨q, q1, q2, q3⟩, e⟩ | ⟨q, e⟩
   ·exact .inl ⟨⟨q, by omega, q2, q3⟩, e⟩
   ·refine .inr ⟨fun p p1 p2 => ?_, e⟩
    by_cases hp : p = k
    ·subst hp; exact hne
    ·exact q p (by omega) p2
theorem c4_lt {n k : Nat} (hk : k < 40000) : (k : Int) < c4 n ↔ k < n := by simp only [c4]; omega
theorem tv_l2 (S D : List Nat) : ∀ (rest : List TN) (k : Nat), k + rest.length = S.length → D.length = S.length →
  ∃ b, z31_typesValid_l2 rest k (S.map c4, D.map c4) = some b ∧ (b = true ↔ ∀ q s d, k ≤ q → S[q]? = some s → D[q]? = some d → s ≤ 500 ∧ d ≤ 200)
 | [], k, hk, hl => by
  refine ⟨true, by rw [z31_typesValid_l2_eq], ?_⟩
  simp only [true_iff]
  intro q s d h1 h2
  have := (List.getElem?_eq_some_iff.1 h2).1
  simp at hk; omega
 | n :: r, k, hk, hl => by
  simp only [List.length_cons] at hk
  obtain ⟨b, g1, g2⟩ := tv_l2 S D r (k + 1) (by omega) hl
  have hs : S[k]? = some S[k] := List.getElem?_eq_getElem (by omega)
  have hd : D[k]? = some D[k] := List.getElem?_eq_getElem (by omega)
  rw [z31_typesValid_l2_eq]
  simp only []
  rw [geti_nat, List.getElem?_map, hs, Option.map_some, bs]
  have e5 : (500 : Int) < c4 S[k] ↔ 500 < S[k] := c4_lt (k := 500) (by omega)
  have e2 : (200 : Int) < c4 D[k] ↔ 200 < D[k] := c4_lt (k := 200) (by omega)
  by_cases h1 : 500 < S[k]
  ·rw [if_pos (e5.2 h1)]
   exact ⟨false, rfl, by simp; exact ⟨k, Nat.le_refl _, _, hs, _, hd, fun h => by omega⟩⟩
  ·rw [if_neg (fun h => h1 (e5.1 h)), geti_nat, List.getElem?_map, hd, Option.map_some, bs]
   by_cases h2 : 200 < D[k]
   ·rw [if_pos (e2.2 h2)]
    exact ⟨false, rfl, by simp; exact ⟨k, Nat.le_refl _, _, hs, _, hd, fun h => by omega⟩⟩
   ·rw [if_neg (fun h => h2 (e2.1 h))]
    refine ⟨b, g1, g2.trans ⟨fun h q s d q1 q2 q3 => ?_, fun h q s d q1 => h q s d (by omega)⟩⟩
    by_cases hq : q = k
    ·subst hq
     rw [hs] at q2; rw [hd] at q3
     injection q2 with q2; injection q3 with q3
     omega
    ·exact h q s d (by omega) q2 q3
theorem tv_l0 (ns : List TN) (hl : ns.length ≤ 4200) (hz : ∀ n ∈ ns, n.name.size ≤ big) : ∀ (j i : Nat), i + j = ns.length → (∀ q n, q < i → ns[q]? = some n → okS ns q n) →
  ∃ b, z31_typesValid_l0 ((ns.take i).map (·.args)) i ns = some b ∧ (b = true ↔ (∀ q n, i ≤ q → ns[q]? = some n → okS ns q n) ∧ ((∀ q n, ns[q]? = some n → okS ns q n) → ∀ t ∈ decT [] ns, t.size ≤ 500 ∧ t.depth ≤ 200))
 | 0, i, hi, ho => by
  have ho' : ∀ q n, ns[q]? = some n → okS ns q n := fun q n h => ho q n (by have := (List.getElem?_eq_some_iff.1 h).1; omega) h
  have hS := Szs_types (ns := ns) fun q n h => ⟨by have := (ho' q n h).len; omega, (ho' q n h).bel⟩
  have hdl : (decT [] ns).length = ns.length := by rw [decT_len]; simp
  rw [z31_typesValid_l0_eq]
  simp only [YN.Ds_len]
  rw [if_neg (by omega), z31_typesValid_j1, List.take_of_length_le (by omega), Sized_eqk hS (by simp [lim]; omega), bs]
  obtain ⟨b, g1, g2⟩ := tv_l2 ((decT [] ns).map Ty.size) ((decT [] ns).map Ty.depth) ns 0 (by simp [hdl]) (by simp)
  refine ⟨b, g1, g2.trans ⟨fun h => ⟨fun q n hq hn => ho' q n hn, fun _ t ht => ?_⟩, fun h q s d _ h1 h2 => ?_⟩⟩
  ·obtain ⟨q, hq⟩ := List.getElem?_of_mem ht
   exact h q t.size t.depth (by omega) (by rw [List.getElem?_map, hq]; rfl) (by rw [List.getElem?_map, hq]; rfl)
  ·rw [List.getElem?_map, Option.map_eq_some_iff] at h1 h2
   obtain ⟨t, t1, rfl⟩ := h1
   obtain ⟨t', t2, rfl⟩ := h2
   rw [t1] at t2; injection t2 with t2; subst t2
   exact h.2 ho' t (List.mem_of_getElem? t1)
 | j + 1, i, hi, ho => by
  have hil : i < ns.length := by omega
  have hn := List.getElem?_eq_getElem hil
  have hmem := List.getElem_mem hil
  generalize ns[i] = n at hn hmem
  have hsz := hz n hmem
  rw [z31_typesValid_l0_eq]
  simp only [YN.Ds_len]
  have hb : ∀ {b : Bool}, b = false → ¬ okS ns i n → (b = true ↔ (∀ q n, i ≤ q → ns[q]? = some n → okS ns q n) ∧ ((∀ q n, ns[q]? = some n → okS ns q n) → ∀ t ∈ decT [] ns, t.size ≤ 500 ∧ t.depth ≤ 200)) := fun hb hno => by
   subst hb
   simp only [Bool.false_eq_true, false_iff]
   exact fun h => hno (h.1 i n (Nat.le_refl _) hn)
  have hval : z01_Valid (Ty.mk n.var n.name []) = some (Ty.valid (.mk n.var n.name [])) := ref_Valid_eq _ (show Ty.ok (.mk n.var n.name []) from ⟨hsz, by simp [big], trivial⟩) (by simp [Ty.size, Ty.sizes, lim])
  rw [if_pos (by omega)]
  simp only [geti_nat, hn, bs, intDs_i64_len, hval, below_eqk]
  have main : n.args.length ≤ 8 → (n.var = true → n.args = []) → Ty.valid (.mk n.var n.name []) = true → blw n.args i = true → ∃ b, z31_typesValid_j0 ns ((ns.take i).map (·.args)) i = some b ∧ (b = true ↔ (∀ q n, i ≤ q → ns[q]? = some n → okS ns q n) ∧ ((∀ q n, ns[q]? = some n → okS ns q n) → ∀ t ∈ decT [] ns, t.size ≤ 500 ∧ t.depth ≤ 200)) := fun m1 m2 m3 m4 => by
   rw [z31_typesValid_j0_eq]
   rcases tv_l1 ns ((ns.take i).map (·.args)) i n hn (by simp [lim]; omega) (by simp [lim]; omega) i 0 (by omega) with ⟨⟨q, q1, q2, q3⟩, e⟩ | ⟨hnew, e⟩
   ·exact ⟨false, e, hb rfl fun h => h.new q q2 q3⟩
   ·have hok : okS ns i n := ⟨m1, m2, m3, m4, fun q hq => hnew q (by omega) hq⟩
    obtain ⟨b, g1, g2⟩ := tv_l0 ns hl hz j (i + 1) (by omega) fun q m h1 h2 => by
     by_cases hq : q = i
     ·subst hq; rw [hn] at h2; injection h2 with h2; subst h2; exact hok
     ·exact ho q m (by omega) h2
    have et : (ns.take i).map (·.args) ++ [n.args] = (ns.take (i + 1)).map (·.args) := by rw [List.take_add_one, hn]; simp
    refine ⟨b, ?_, g2.trans ⟨fun h => ⟨fun q m h1 h2 => ?_, h.2⟩, fun h => ⟨fun q m h1 h2 => h.1 q m (by omega) h2, h.2⟩⟩⟩
    ·rw [← et] at g1
     have e : z31_typesValid_l1 _ (i : Int) ((0 : Nat) : Int) ns = _ := e
     exact e.trans g1
    ·by_cases hq : q = i
     ·subst hq; rw [hn] at h2; injection h2 with h2; subst h2; exact hok
     ·exact h.1 q m (by omega) h2
  by_cases hv : n.var = true
  ·rw [if_pos hv]
   by_cases h0 : 0 < n.args.length
   ·rw [if_pos (by omega)]
    exact ⟨false, rfl, hb rfl fun h => by rw [h.var hv] at h0; simp at h0⟩
   ·have hnil : n.args = [] := List.length_eq_zero_iff.1 (by omega)
    rw [if_neg (by omega), if_neg (by omega)]
    by_cases hvl : Ty.valid (.mk n.var n.name []) = true
    ·rw [if_pos hvl]
     by_cases hbl : blw n.args i = true
     ·rw [if_pos hbl]; exact main (by omega) (fun _ => hnil) hvl hbl
     ·rw [if_neg hbl]; exact ⟨false, rfl, hb rfl fun h => hbl h.bel⟩
    ·rw [if_neg hvl]; exact ⟨false, rfl, hb rfl fun h => hvl h.val⟩
  ·rw [if_neg hv]
   by_cases h8 : 8 < n.args.length
   ·rw [if_pos (by omega)]; exact ⟨false, rfl, hb rfl fun h => by have := h.len; omega⟩
   ·rw [if_neg (by omega)]
    by_cases hvl : Ty.valid (.mk n.var n.name []) = true
    ·rw [if_pos hvl]
     by_cases hbl : blw n.args i = true
     ·rw [if_pos hbl]; exact main (by omega) (fun h => absurd h hv) hvl hbl
     ·rw [if_neg hbl]; exact ⟨false, rfl, hb rfl fun h => hbl h.bel⟩
    ·rw [if_neg hvl]; exact ⟨false, rfl, hb rfl fun h => hvl h.val⟩
theorem openT_of : ∀ ns : List TN, (∀ q n, ns[q]? = some n → okS ns q n) → (∀ t ∈ decT [] ns, t.size ≤ 500 ∧ t.depth ≤ 200) → openT [] [] ns = true := by
 intro ns
 induction ns using snoc_ind with
 | h0 => intros; rfl
 | h1 l a ih =>
  intro ho ht
  have hl : (decT [] l).length = l.length := by rw [decT_len]; simp
  have ha : okS (l ++ [a]) l.length a := ho _ _ (by simp)
  rw [decT_snoc] at ht
  have h1 := ih (fun q n hq => by
   have hlt := (List.getElem?_eq_some_iff.1 hq).1
   have := ho q n (by rw [List.getElem?_append_left hlt]; exact hq)
   exact ⟨this.len, this.var, this.val, this.bel, fun j hj h => this.new j hj (by rw [List.getElem?_append_left (by omega)]; exact h)⟩) fun t h => ht t (by simp [h])
  rw [openT_snoc, h1, Bool.true_and]
  have hsz := ht (nodeT (decT [] l) a) (by simp)
  rw [okT_iff.2 ⟨ha.len, ha.var, ha.val, by rw [hl]; exact ha.bel, hsz.1, hsz.2⟩, Bool.true_and, List.nil_append]
  rw [show idxK keyT l (keyT a) = none from (idxK_none (key := keyT)).2 fun b hb e => by
   obtain ⟨q, hq⟩ := List.getElem?_of_mem hb
   have hlt := (List.getElem?_eq_some_iff.1 hq).1
   have hbo := ho q b (by rw [List.getElem?_append_left hlt]; exact hq)
   have := keyT_inj ha.len hbo.len e
   subst this
   exact ha.new q hlt (by rw [List.getElem?_append_left hlt]; exact hq)]
  rfl
theorem typesValid_eq (ns : List TN) (hl : ns.length ≤ 4200) (hz : ∀ n ∈ ns, n.name.size ≤ big) : z31_typesValid ns = some (openT [] [] ns) := by
 obtain ⟨b, g1, g2⟩ := tv_l0 ns hl hz ns.length 0 (by omega) fun q n h => by omega
 have e : z31_typesValid ns = some b := g1
 rw [e]
 congr 1
 rw [Bool.eq_iff_iff, g2]
 constructor
 ·rintro ⟨h1, h2⟩
  have ho : ∀ q n, ns[q]? = some n → okS ns q n := fun q n h => h1 q n (by omega) h
  exact openT_of ns ho (h2 ho)
 ·intro h
  have hw := WT.of h
  refine ⟨fun q n _ hn => ?_, fun _ t ht => ?_⟩
  ·obtain ⟨k1, k2, k3⟩ := hw.node hn
   refine ⟨k3.len, k3.var, k3.val, k2, fun j hj hjn => ?_⟩
   obtain ⟨k1', _, _⟩ := hw.node hjn
   have := hw.uniq _ _ _ k1 k1'
   omega
  ·obtain ⟨q, hq⟩ := List.getElem?_of_mem ht
   have hlt : q < ns.length := by rw [← hw.len]; exact (List.getElem?_eq_some_iff.1 hq).1
   obtain ⟨k1, k2, k3⟩ := hw.node (List.getElem?_eq_getElem hlt)
   rw [hq] at k1; injection k1 with k1
   rw [k1]; exact ⟨k3.sz, k3.dp⟩
/-! ### terms -/
theorem fine_eqk (n : MN) (k nt : Int) (h : n.name.size ≤ big) : z31_fine n k nt = some (fineM n k nt) := by
 have key : ∀ t7 : Bool, t7 = decide (n.index = 0 ∧ 0 ≤ n.type_ ∧ n.type_ < nt ∧ cname n.name = true) → blw n.sub k = true → z31_fine_j0 t7 n = some (fineM n k nt) := fun t7 h7 hb => by
  have k2 : ∀ t8 : Bool, t8 = decide (n.type_ = -1 ∧ n.name = ByteArray.empty) → z31_fine_j1 t8 n t7 = some (fineM n k nt) := fun t8 h8 => by
   unfold z31_fine_j1
   simp only [intDs_i64_len]
   rw [fineM, hb, Bool.true_and]
   by_cases e1 : n.kind = 1
   ·rw [if_pos e1, h7]
    simp only [arity, fineK, e1]
    by_cases g1 : n.index = 0 <;> by_cases g2 : 0 ≤ n.type_ <;> by_cases g3 : n.type_ < nt <;> by_cases g4 : cname n.name = true <;> simp [g1, g2, g3, g4]
   ·rw [if_neg e1]
    by_cases e2 : n.kind = 2
    ·rw [if_pos e2, h7]
     simp only [arity, fineK, e2]
     by_cases g1 : n.index = 0 <;> by_cases g2 : 0 ≤ n.type_ <;> by_cases g3 : n.type_ < nt <;> by_cases g4 : cname n.name = true <;> simp [g1, g2, g3, g4]
    ·rw [if_neg e2]
     by_cases e3 : n.kind = 3
     ·rw [if_pos e3, h8]
      simp only [arity, fineK, e3]
      by_cases g1 : n.type_ = -1 <;> by_cases g2 : n.name = ByteArray.empty <;> by_cases g3 : 0 ≤ n.index <;> by_cases g4 : n.index < 300 <;> simp [g1, g2, g3, g4]
     ·rw [if_neg e3]
      by_cases e4 : n.kind = 4
      ·rw [if_pos e4, h8]
       simp only [arity, fineK, e4]
       by_cases g1 : n.type_ = -1 <;> by_cases g2 : n.name = ByteArray.empty <;> by_cases g3 : n.index = 0 <;> simp [g1, g2, g3]
      ·rw [if_neg e4]
       by_cases e5 : n.kind = 5
       ·rw [if_pos e5, h7]
        simp only [arity, fineK, e5]
        by_cases g1 : n.index = 0 <;> by_cases g2 : 0 ≤ n.type_ <;> by_cases g3 : n.type_ < nt <;> by_cases g4 : cname n.name = true <;> simp [g1, g2, g3, g4]
       ·rw [if_neg e5]
        simp [arity, e1, e2, e3, e4, e5]
  unfold z31_fine_j0
  by_cases g1 : n.name = ByteArray.empty
  ·rw [if_pos g1]
   by_cases g2 : n.type_ = -1
   ·rw [if_pos g2]; exact k2 _ (by simp [g1, g2])
   ·rw [if_neg g2]; exact k2 _ (by simp [g2])
  ·rw [if_neg g1]; exact k2 _ (by simp [g1])
 unfold z31_fine
 rw [below_eqk, bs]
 by_cases hb : blw n.sub k = true
 ·rw [if_pos hb, ref2_name_eq _ h, bs]
  by_cases g4 : cname n.name = true
  ·rw [if_pos g4]
   by_cases g2 : 0 ≤ n.type_
   ·rw [if_pos g2]
    by_cases g3 : n.type_ < nt
    ·rw [if_pos g3]
     by_cases g1 : n.index = 0
     ·rw [if_pos g1]; exact key _ (by simp [g1, g2, g3, g4]) hb
     ·rw [if_neg g1]; exact key _ (by simp [g1]) hb
    ·rw [if_neg g3]; exact key _ (by simp [g3]) hb
   ·rw [if_neg g2]; exact key _ (by simp [g2]) hb
  ·rw [if_neg g4]; exact key _ (by simp [g4]) hb
 ·rw [if_neg hb]; simp [fineM, hb]
theorem vl_1 (a : AStore) (rest : List MN) (i : Nat) (n : MN) (hi : i ≤ a.terms.length) (hlm : a.terms.length ≤ 4200) : ∀ (j k : Nat), k + j = i →
  ((∃ q m, k ≤ q ∧ q < i ∧ a.terms[q]? = some m ∧ eqM m n = true) ∧ z31_Valid_l1 k a i rest n = some false) ∨ ((∀ q m, k ≤ q → q < i → a.terms[q]? = some m → eqM m n = false) ∧ z31_Valid_l1 k a i rest n = z31_Valid_l0 rest (i + 1) a)
 | 0, k, hk => by
  refine .inr ⟨fun q m h1 h2 => by omega, ?_⟩
  rw [z31_Valid_l1_eq, if_neg (by omega)]
 | j + 1, k, hk => by
  have hk2 : k < a.terms.length := by omega
  have ih := vl_1 a rest i n hi hlm j (k + 1) (by omega)
  rw [z31_Valid_l1_eq, if_pos (by omega), geti_nat, List.getElem?_eq_getElem hk2, bs, sameTerm_eq, bs]
  cases he : eqM a.terms[k] n with
  | true => exact .inl ⟨⟨k, _, Nat.le_refl _, by omega, List.getElem?_eq_getElem hk2, he⟩, by simp⟩
  | false =>
   rw [if_neg (by simp), wr (by omega) (by omega), bs, show (k : Int) + 1 = ((k + 1 : Nat) : Int) by omega]
   rcases ih with ⟨⟨q, m, q1, q2, q3, q4⟩, e⟩ | ⟨q, e⟩
   ·exact .inl ⟨⟨q, m, by omega, q2, q3, q4⟩, e⟩
   ·refine .inr ⟨fun p m p1 p2 p3 => ?_, e⟩
    by_cases hp : p = k
    ·subst hp
     rw [List.getElem?_eq_getElem hk2] at p3; injection p3 with p3; subst p3; exact he
    ·exact q p m (by omega) p2 p3
theorem vl_0 (a : AStore) (hlm : a.terms.length ≤ 4200) (hz : ∀ n ∈ a.terms, n.name.size ≤ big) : ∀ (j i : Nat), i + j = a.terms.length → (∀ m ∈ a.terms.take i, m.sub.length ≤ 2) →
  z31_Valid_l0 (a.terms.drop i) i a = some (openM a.types.length (a.terms.take i) (a.terms.drop i))
 | 0, i, hi, ho => by
  rw [z31_Valid_l0_eq, List.drop_eq_nil_of_le (by omega)]; rfl
 | j + 1, i, hi, ho => by
  have hil : i < a.terms.length := by omega
  have hd := List.drop_eq_getElem_cons hil
  have hn := List.getElem?_eq_getElem hil
  have hmem := List.getElem_mem hil
  rw [hd]
  generalize a.terms[i] = n at *
  rw [z31_Valid_l0_eq]
  simp only [YN.Ds_len]
  rw [fine_eqk n _ _ (hz n hmem), bs]
  have htl : (a.terms.take i).length = i := by simp; omega
  simp only [openM, htl]
  by_cases hf : fineM n i a.types.length = true
  ·rw [if_pos hf, hf, Bool.true_and]
   have hsub := (fineM_iff.1 hf).len
   have et : a.terms.take i ++ [n] = a.terms.take (i + 1) := by rw [List.take_add_one, hn]; rfl
   have hkey : idxK keyM (a.terms.take i) (keyM n) = none ↔ ∀ q m, q < i → a.terms[q]? = some m → eqM m n = false := by
    rw [idxK_none]
    constructor
    ·intro h q m hq hm
     have hmt : m ∈ a.terms.take i := List.mem_of_getElem? (i := q) (by rw [List.getElem?_take, if_pos hq]; exact hm)
     cases he : eqM m n with
     | false => rfl
     | true => exact absurd ((eqM_iff (ho m hmt) hsub).1 he).symm (h m hmt)
    ·intro h m hmt e
     obtain ⟨q, hq⟩ := List.getElem?_of_mem hmt
     have hqi : q < i := by have := (List.getElem?_eq_some_iff.1 hq).1; omega
     rw [List.getElem?_take, if_pos hqi] at hq
     have := h q m hqi hq
     rw [(eqM_iff (ho m hmt) hsub).2 e.symm] at this; cases this
   rcases vl_1 a (a.terms.drop (i + 1)) i n (by omega) hlm i 0 (by omega) with ⟨⟨q, m, q1, q2, q3, q4⟩, e⟩ | ⟨hnew, e⟩
   ·have e : z31_Valid_l1 ((0 : Nat) : Int) a i (a.terms.drop (i + 1)) n = _ := e
    refine e.trans ?_
    cases hk : idxK keyM (a.terms.take i) (keyM n) with
    | some _ => rfl
    | none => have := hkey.1 hk q m q2 q3; rw [q4] at this; cases this
   ·have e : z31_Valid_l1 ((0 : Nat) : Int) a i (a.terms.drop (i + 1)) n = _ := e
    refine e.trans ?_
    rw [hkey.2 fun q m hq hm => hnew q m (by omega) hq hm, et]
    simp only [Option.isNone_none, Bool.true_and]
    exact vl_0 a hlm hz j (i + 1) (by omega) fun m hm => by
     rw [← et] at hm
     rcases List.mem_append.1 hm with hm | hm
     ·exact ho m hm
     ·simp at hm; subst hm; exact hsub
  ·rw [if_neg hf]
   simp only [Bool.not_eq_true] at hf
   rw [hf]; rfl
theorem ref_Check_k (a : AStore) (h : a.thin) : z31_Check a = some (if a.few = true then (if a.wf = true then 0 else 8) else 4) := by
 have h1 := h.nt
 have h2 := h.nm
 unfold z31_Check
 simp only [YN.Ds_len, XN.Ds_len]
 by_cases g1 : a.types.length ≤ 4096
 ·rw [if_neg (by omega)]
  by_cases g2 : a.terms.length ≤ 4096
  ·rw [if_neg (by omega), if_pos (few_iff.2 ⟨g1, g2⟩), z31_Valid, typesValid_eq _ h1 fun n hn => (h.at_ n hn).1, bs]
   have hv := vl_0 a h2 (fun n hn => (h.am n hn).1) a.terms.length 0 (by omega) (by simp)
   simp only [List.drop_zero, List.take_zero] at hv
   rw [AStore.wf]
   by_cases ho : openT [] [] a.types = true
   ·rw [if_pos ho, hv, bs, ho, Bool.true_and]
    split <;> rfl
   ·rw [if_neg ho, bs]
    simp [ho]
  ·rw [if_pos (by omega), if_neg (fun hf => g2 (few_iff.1 hf).2)]
 ·rw [if_pos (by omega), if_neg (fun hf => g1 (few_iff.1 hf).1)]
end Go.Proofs.Ytemfpemejagndaa.Fw


namespace Go.Proofs.Ytemfpemejagndaa.Fw
open Go Go.Proofs

end Go.Proofs.Ytemfpemejagndaa.Fw


namespace Go.Proofs.Ytemfpemejagndaa.Fw
open Go Go.Proofs

end Go.Proofs.Ytemfpemejagndaa.Fw


namespace Go.Proofs.Ytemfpemejagndaa.Fw
open Go Go.Proofs

/-! ### copies -/
theorem rTwin_l1 (c : List TN) : ∀ (rest acc : List MN), (∀ n ∈ rest, n.sub.length ≤ 20) → acc.length + rest.length ≤ lim → z31_Twin_l1 rest acc c = some (.mk c (acc ++ rest))
 | [], acc, h, hl => by rw [z31_Twin_l1_eq]; simp
 | n :: r, acc, h, hl => by
  simp only [List.length_cons, lim] at hl
  have := h n (by simp)
  rw [z31_Twin_l1_eq]; simp only []
  rw [app_ok (by simp; omega), bs, app_ok (by simp; omega), bs, rTwin_l1 c r _ (fun q hq => h q (by simp [hq])) (by simp [lim]; omega)]
  simp
theorem rTwin_l0 (a : AStore) (hm : ∀ n ∈ a.terms, n.sub.length ≤ 20) (hn : a.terms.length ≤ lim) : ∀ (rest acc : List TN), (∀ n ∈ rest, n.args.length ≤ 20) → acc.length + rest.length ≤ lim → z31_Twin_l0 rest acc a = some (.mk (acc ++ rest) a.terms)
 | [], acc, h, hl => by
  rw [z31_Twin_l0_eq]; simp only []
  rw [z31_Twin_j0, rTwin_l1 _ _ _ hm (by simpa using hn)]; simp
 | n :: r, acc, h, hl => by
  simp only [List.length_cons, lim] at hl
  have := h n (by simp)
  rw [z31_Twin_l0_eq]; simp only []
  rw [app_ok (by simp; omega), bs, app_ok (by simp; omega), bs, rTwin_l0 a hm hn r _ (fun q hq => h q (by simp [hq])) (by simp [lim]; omega)]
  simp
theorem rTwin_store (a : AStore) (h : a.thin) : z31_Twin a = some a := by
 have h1 := h.nt
 have h2 := h.nm
 rw [z31_Twin, rTwin_l0 a (fun n hn => (h.am n hn).2) (by simp [lim]; omega) _ _ (fun n hn => (h.at_ n hn).2) (by simp [lim]; omega)]
 simp
/-! ### the law -/
end Go.Proofs.Ytemfpemejagndaa.Fw


namespace Go.Proofs.Ytemfpemejagndaa.Fw
open Go Go.Proofs

def sm8 (ns : List TN) : Prop := ∀ n ∈ ns, n.args.length ≤ 8
def sm2 (ms : List MN) : Prop := ∀ m ∈ ms, m.sub.length ≤ 2
theorem putT_scan (a : Ty) (ns : List TN) (ms : List MN) (is : List Int) (h8 : is.length ≤ 8) (hn : sm8 ns) (hl : ns.length ≤ 2 * lim) : ∀ (rest : List TN) (k : Nat), (∀ n ∈ rest, n.args.length ≤ 8) → k + rest.length = ns.length →
  z31_PutType_l1 rest k a ns ms is = some (match idxK keyT rest (keyT (.mk a.v a.name is)) with
   | some i => (.mk ns ms, ((k + i : Nat) : Int))
   | none => (.mk (ns ++ [.mk a.v a.name is]) ms, (ns.length : Int)))
 | [], k, hr, hk => by
  simp only [lim] at hl
  rw [z31_PutType_l1_eq]
  simp only [idxK, YN.Ds_len]
  rw [app_ok (by simp; omega), bs, app_ok (by simp; omega), bs]
  simp only [List.nil_append, List.length_append, List.length_cons, List.length_nil]
  rw [wr (by omega) (by omega), bs]
  congr 2; omega
 | n :: r, k, hr, hk => by
  simp only [List.length_cons] at hk
  rw [z31_PutType_l1_eq]
  simp only [idxK]
  rw [sameType_eq, bs]
  by_cases he : n = .mk a.v a.name is
  ·rw [if_pos (eqT_iff.2 he), if_pos (by rw [he])]; rfl
  ·have h1 : ¬ eqT n (.mk a.v a.name is) = true := fun h => he (eqT_iff.1 h)
   have h2 : ¬ keyT (.mk a.v a.name is) = keyT n := fun h => he (keyT_inj (hr n (by simp)) (by simpa using h8) h.symm)
   rw [if_neg h1, if_neg h2, putT_scan a ns ms is h8 hn hl r (k + 1) (fun q hq => hr q (by simp [hq])) (by omega)]
   cases idxK keyT r (keyT (.mk a.v a.name is)) with
   | none => rfl
   | some i => simp only [Option.map_some]; congr 3; omega
theorem putT_l (a : Ty) : ∀ (xs : List Ty) (ns : List TN) (ms : List MN) (is : List Int),
  (∀ x ∈ xs, ∀ (ns : List TN) (ms : List MN), x.shape = true → sm8 ns → ns.length + x.size ≤ 2 * lim → z31_PutType (.mk ns ms) x = some (.mk (addT x ns).2 ms, (addT x ns).1) ∧ sm8 (addT x ns).2) →
  Ty.shapes xs = true → sm8 ns → ns.length + Ty.sizes xs ≤ 2 * lim → is.length + xs.length ≤ 2 * lim →
  z31_PutType_l0 xs ns ms is a = z31_PutType_j0 a (addTs xs ns).2 ms (is ++ (addTs xs ns).1) ∧ sm8 (addTs xs ns).2
 | [], ns, ms, is, ih, hs, hn, h, h' => by rw [z31_PutType_l0_eq]; simp [addTs]; exact hn
 | x :: r, ns, ms, is, ih, hs, hn, h, h' => by
  simp only [Ty.shapes, Bool.and_eq_true] at hs
  simp only [Ty.sizes, List.length_cons, lim] at h h'
  have hl := addT_len x ns
  have := Ty.size_pos x
  obtain ⟨g1, g2⟩ := ih x (by simp) ns ms hs.1 hn (by simp only [lim]; omega)
  rw [z31_PutType_l0_eq]
  simp only []
  rw [g1, bs, app_ok (by simp; omega), bs]
  simp only []
  obtain ⟨k1, k2⟩ := putT_l a r (addT x ns).2 ms (is ++ [(addT x ns).1]) (fun y hy => ih y (by simp [hy])) hs.2 g2 (by simp only [lim]; omega) (by simp only [lim]; simp; omega)
  rw [k1]
  refine ⟨by simp [addTs], by simpa [addTs] using k2⟩
theorem putT_eq : ∀ (a : Ty) (ns : List TN) (ms : List MN), a.shape = true → sm8 ns → ns.length + a.size ≤ 2 * lim →
  z31_PutType (.mk ns ms) a = some (.mk (addT a ns).2 ms, (addT a ns).1) ∧ sm8 (addT a ns).2 := by
 refine Ty.ind fun v n xs ih => ?_
 intro ns ms hs hn h
 obtain ⟨h1, h2, h3, h4⟩ := valid_head hs
 simp only [Ty.size] at h
 have hl := addTs_len xs ns
 obtain ⟨k1, k2⟩ := putT_l (.mk v n xs) xs ns ms [] ih h4 hn (by omega) (by have := Ty.len_sizes xs; simp; omega)
 have hx8 : (addTs xs ns).1.length ≤ 8 := by rw [hl.2.2]; omega
 rw [z31_PutType_eq]
 simp only []
 rw [k1, List.nil_append, z31_PutType_j0, putT_scan _ _ ms _ hx8 k2 (by omega) _ 0 k2 (by omega)]
 simp only [addT, Nat.zero_add]
 cases idxK keyT (addTs xs ns).2 (keyT (.mk v n (addTs xs ns).1)) with
 | some i => exact ⟨rfl, k2⟩
 | none =>
  refine ⟨rfl, fun q hq => ?_⟩
  rcases List.mem_append.1 hq with hq | hq
  ·exact k2 q hq
  ·simp at hq; subst hq; exact hx8
theorem putM_scan (a : Tm) (ns : List TN) (ms : List MN) (ti : Int) (is : List Int) (h2 : is.length ≤ 2) (hm : sm2 ms) (hl : ms.length ≤ 2 * lim) : ∀ (rest : List MN) (k : Nat), (∀ n ∈ rest, n.sub.length ≤ 2) → k + rest.length = ms.length →
  z31_Put_l1 rest k a ns ms ti is = some (match idxK keyM rest (keyM (.mk a.kind a.name ti a.index is)) with
   | some i => (.mk ns ms, ((k + i : Nat) : Int))
   | none => (.mk ns (ms ++ [.mk a.kind a.name ti a.index is]), (ms.length : Int)))
 | [], k, hr, hk => by
  simp only [lim] at hl
  rw [z31_Put_l1_eq]
  simp only [idxK, XN.Ds_len]
  rw [app_ok (by simp; omega), bs, app_ok (by simp; omega), bs]
  simp only [List.nil_append, List.length_append, List.length_cons, List.length_nil]
  rw [wr (by omega) (by omega), bs]
  congr 2; omega
 | n :: r, k, hr, hk => by
  simp only [List.length_cons] at hk
  rw [z31_Put_l1_eq]
  simp only [idxK]
  rw [sameTerm_eq, bs]
  have hiff := eqM_iff (n := n) (m := .mk a.kind a.name ti a.index is) (hr n (by simp)) (by simpa using h2)
  by_cases he : keyM n = keyM (.mk a.kind a.name ti a.index is)
  ·rw [if_pos (hiff.2 he), if_pos he.symm]; rfl
  ·rw [if_neg (fun h => he (hiff.1 h)), if_neg (fun h => he h.symm), putM_scan a ns ms ti is h2 hm hl r (k + 1) (fun q hq => hr q (by simp [hq])) (by omega)]
   cases idxK keyM r (keyM (.mk a.kind a.name ti a.index is)) with
   | none => rfl
   | some i => simp only [Option.map_some]; congr 3; omega
theorem putM_l (a : Tm) (ti : Int) (l : List Ty) : ∀ (xs : List Tm) (ns : List TN) (ms : List MN) (is : List Int),
  (∀ x ∈ xs, ∀ (ns : List TN) (ms : List MN), (Tm.formed l x).2 = true → sm8 ns → sm2 ms → ns.length + x.tsize ≤ 2 * lim → ms.length + x.size ≤ 2 * lim → z31_Put (.mk ns ms) x = some (.mk (addM x ns ms).2.1 (addM x ns ms).2.2, (addM x ns ms).1) ∧ sm8 (addM x ns ms).2.1 ∧ sm2 (addM x ns ms).2.2) →
  (∀ x ∈ xs, (Tm.formed l x).2 = true) → sm8 ns → sm2 ms → ns.length + Tm.tsizes xs ≤ 2 * lim → ms.length + Tm.sizes xs ≤ 2 * lim → is.length + xs.length ≤ 2 * lim →
  z31_Put_l0 xs ns ms is a ti = z31_Put_j1 a (addMs xs ns ms).2.1 (addMs xs ns ms).2.2 ti (is ++ (addMs xs ns ms).1) ∧ sm8 (addMs xs ns ms).2.1 ∧ sm2 (addMs xs ns ms).2.2
 | [], ns, ms, is, ih, hs, hn, hm, h, h', h'' => by rw [z31_Put_l0_eq]; simp [addMs]; exact ⟨hn, hm⟩
 | x :: r, ns, ms, is, ih, hs, hn, hm, h, h', h'' => by
  simp only [Tm.tsizes, Tm.sizes, List.length_cons, lim] at h h' h''
  have hl := addM_len x ns ms
  have := Tm.size_pos x
  obtain ⟨g1, g2, g3⟩ := ih x (by simp) ns ms (hs x (by simp)) hn hm (by simp only [lim]; omega) (by simp only [lim]; omega)
  rw [z31_Put_l0_eq]
  simp only []
  rw [g1, bs, app_ok (by simp; omega), bs]
  simp only []
  obtain ⟨k1, k2⟩ := putM_l a ti l r (addM x ns ms).2.1 (addM x ns ms).2.2 (is ++ [(addM x ns ms).1]) (fun y hy => ih y (by simp [hy])) (fun y hy => hs y (by simp [hy])) g2 g3 (by simp only [lim]; omega) (by simp only [lim]; omega) (by simp only [lim]; simp; omega)
  rw [k1]
  refine ⟨by simp [addMs], by simpa [addMs] using k2⟩
theorem putM_eq : ∀ (a : Tm) (l : List Ty) (ns : List TN) (ms : List MN), (Tm.formed l a).2 = true → sm8 ns → sm2 ms → ns.length + a.tsize ≤ 2 * lim → ms.length + a.size ≤ 2 * lim →
  z31_Put (.mk ns ms) a = some (.mk (addM a ns ms).2.1 (addM a ns ms).2.2, (addM a ns ms).1) ∧ sm8 (addM a ns ms).2.1 ∧ sm2 (addM a ns ms).2.2 := by
 refine Tm.ind fun k n t i xs ih => ?_
 intro l ns ms hf hn hm h h'
 obtain ⟨l', F⟩ := formed_FN hf
 simp only [Tm.tsize, Tm.size] at h h'
 have har := F.ar
 have hx2 : xs.length ≤ 2 := by have := arity_le har; omega
 have body : ∀ (ti : Int) (ns1 : List TN), sm8 ns1 → ns1.length + Tm.tsizes xs ≤ 2 * lim →
   z31_Put_j0 ns1 ms ti (.mk k n t i xs) = some (match addMs xs ns1 ms with
    | (is, ns2, ms2) => match idxK keyM ms2 (keyM (.mk k n ti i is)) with
     | some j => (.mk ns2 ms2, (j : Int))
     | none => (.mk ns2 (ms2 ++ [.mk k n ti i is]), (ms2.length : Int))) ∧ sm8 (addMs xs ns1 ms).2.1 ∧ sm2 (addMs xs ns1 ms).2.2 ∧ (addMs xs ns1 ms).1.length ≤ 2 := by
  intro ti ns1 hn1 hb
  have hl := addMs_len xs ns1 ms
  obtain ⟨k1, k2, k3⟩ := putM_l (.mk k n t i xs) ti l' xs ns1 ms [] (fun x hx ns ms => ih x hx l' ns ms) F.subs hn1 hm (by omega) (by omega) (by simp only [lim]; simp; omega)
  have hi2 : (addMs xs ns1 ms).1.length ≤ 2 := by omega
  rw [z31_Put_j0_eq]
  simp only []
  rw [k1, List.nil_append, z31_Put_j1, putM_scan _ _ _ ti _ hi2 k3 (by omega) _ 0 k3 (by omega)]
  refine ⟨?_, k2, k3, hi2⟩
  simp only [Nat.zero_add]
 have fin : ∀ (ti : Int) (ns1 : List TN), (if k = 3 ∨ k = 4 then ((-1 : Int), ns) else addT t ns) = (ti, ns1) → z31_Put (.mk ns ms) (.mk k n t i xs) = z31_Put_j0 ns1 ms ti (.mk k n t i xs) → sm8 ns1 → ns1.length + Tm.tsizes xs ≤ 2 * lim →
   z31_Put (.mk ns ms) (.mk k n t i xs) = some (.mk (addM (.mk k n t i xs) ns ms).2.1 (addM (.mk k n t i xs) ns ms).2.2, (addM (.mk k n t i xs) ns ms).1) ∧ sm8 (addM (.mk k n t i xs) ns ms).2.1 ∧ sm2 (addM (.mk k n t i xs) ns ms).2.2 := by
  intro ti ns1 e1 e2 hn1 hb
  obtain ⟨b1, b2, b3, b4⟩ := body ti ns1 hn1 hb
  rw [e2, b1]
  simp only [addM, e1]
  generalize addMs xs ns1 ms = g at b2 b3 b4
  obtain ⟨is, ns2, ms2⟩ := g
  simp only at b2 b3 b4 ⊢
  cases idxK keyM ms2 (keyM (.mk k n ti i is)) with
  | some j => exact ⟨rfl, b2, b3⟩
  | none =>
   refine ⟨rfl, b2, fun q hq => ?_⟩
   rcases List.mem_append.1 hq with hq | hq
   ·exact b3 q hq
   ·simp at hq; subst hq; exact b4
 by_cases hk : k = 3 ∨ k = 4
 ·refine fin (-1) ns (by rw [if_pos hk]) ?_ hn (by have := Ty.size_pos t; omega)
  rw [z31_Put_eq]
  simp only []
  rw [if_neg (by omega), if_neg (by omega), if_neg (by omega)]
 ·have hv : t.valid = true := by rcases F.kd with q | q | q; exact absurd (.inl q.1) hk; exact absurd (.inr q.1) hk; exact q.2.2.1
  simp only [Ty.valid, Bool.and_eq_true] at hv
  obtain ⟨p1, p2⟩ := putT_eq t ns ms hv.2 hn (by omega)
  have hl := addT_len t ns
  refine fin (addT t ns).1 (addT t ns).2 (by rw [if_neg hk]) ?_ p2 (by omega)
  rw [z31_Put_eq]
  simp only []
  by_cases k1 : k = 1
  ·rw [if_pos k1, p1, bs]
  ·rw [if_neg k1]
   by_cases k2 : k = 2
   ·rw [if_pos k2, p1, bs]
   ·rw [if_neg k2]
    by_cases k5 : k = 5
    ·rw [if_pos k5, p1, bs]
    ·exfalso
     simp only [arity] at har
     split at har <;> simp_all
theorem Sto.sm {a : AStore} {tys : List Ty} {tms : List Tm} (h : Sto a tys tms) : sm8 a.types ∧ sm2 a.terms := by
 refine ⟨fun n hn => ?_, fun m hm => ?_⟩
 ·obtain ⟨i, hi, rfl⟩ := List.mem_iff_getElem.1 hn
  exact (h.wt.node (List.getElem?_eq_getElem hi)).2.2.len
 ·obtain ⟨i, hi, rfl⟩ := List.mem_iff_getElem.1 hm
  exact (h.wm.node (List.getElem?_eq_getElem hi)).2.len
theorem ref1_Check_eq (t : Ty) (h : t.ok) (hs : t.size ≤ lim) : z01_Check t = some (tcheck t) := by
 rw [z01_Check, ref_Valid_eq t h hs, bs, tcheck]
 cases t.valid <;> rfl
theorem full_eq (a : AStore) (i : Int) : z31_full a i = some (if a.few = true then (a, i, 0) else (noS, 0, 4)) := by
 unfold z31_full
 simp only [YN.Ds_len, XN.Ds_len, few_iff]
 by_cases q1 : a.types.length ≤ 4096
 ·rw [if_neg (show ¬ (4096 : Int) < (a.types.length : Int) by omega)]
  by_cases q2 : a.terms.length ≤ 4096
  ·rw [if_neg (show ¬ (4096 : Int) < (a.terms.length : Int) by omega), if_pos ⟨q1, q2⟩]
  ·rw [if_pos (show (4096 : Int) < (a.terms.length : Int) by omega), if_neg (fun h => q2 h.2)]; rfl
 ·rw [if_pos (show (4096 : Int) < (a.types.length : Int) by omega), if_neg (fun h => q1 h.1)]; rfl
theorem ref_Add_eq (a : AStore) (h : a.thin) (t : Tm) (hok : t.ok) (hs : t.size ≤ lim) (ht : t.tys) : z31_Add a t = some (AddS a t) := by
 unfold z31_Add AddS
 rw [ref_Check_k a h, bs]
 by_cases h1 : a.few = true
 ·rw [if_pos h1, if_pos h1]
  by_cases h2 : a.wf = true
  ·rw [if_pos h2, if_pos h2, if_pos rfl, ref2_Check_eq t hok hs ht, bs, z31_Add_j0]
   by_cases h3 : t.check = 0
   ·rw [if_neg (by simp [h3]), if_pos h3]
    obtain ⟨c1, c2, c3⟩ := check_zero' h3
    have c4 := tsize_le t [] c3
    obtain ⟨f1, f2⟩ := few_iff.1 h1
    obtain ⟨s1, s2⟩ := (Sto.of h1 h2).sm
    obtain ⟨g1, _, _⟩ := putM_eq t [] a.types a.terms c3 s1 s2 (by simp only [lim]; omega) (by simp only [lim]; omega)
    have e : (AStore.mk a.types a.terms) = a := rfl
    rw [e] at g1
    rw [g1, bs]
    generalize addM t a.types a.terms = g
    obtain ⟨i, ns, ms⟩ := g
    simp only [full_eq, bs]
   ·rw [if_pos h3, if_neg h3]; rfl
  ·rw [if_neg h2, if_neg h2, if_neg (by omega), z31_Add_j0, if_pos (by omega)]; rfl
 ·rw [if_neg h1, if_neg h1, if_neg (by omega), z31_Add_j0, if_pos (by omega)]; rfl
theorem ref_Find_eq (a : AStore) (h : a.thin) (t : Tm) (hok : t.ok) (hs : t.size ≤ lim) (ht : t.tys) : z31_Find a t = some (FindS a t) := by
 unfold z31_Find FindS
 rw [ref_Check_k a h, bs]
 by_cases h1 : a.few = true
 ·rw [if_pos h1, if_pos h1]
  by_cases h2 : a.wf = true
  ·rw [if_pos h2, if_pos h2, if_pos rfl, ref2_Check_eq t hok hs ht, bs, z31_Find_j0]
   by_cases h3 : t.check = 0
   ·rw [if_neg (by simp [h3]), if_pos h3]
    obtain ⟨c1, c2, c3⟩ := check_zero' h3
    have c4 := tsize_le t [] c3
    obtain ⟨f1, f2⟩ := few_iff.1 h1
    have hS := Sto.of h1 h2
    obtain ⟨s1, s2⟩ := hS.sm
    obtain ⟨g1, _, _⟩ := putM_eq t [] a.types a.terms c3 s1 s2 (by simp only [lim]; omega) (by simp only [lim]; omega)
    have e : (AStore.mk a.types a.terms) = a := rfl
    rw [e] at g1
    rw [g1, bs]
    simp only [XN.Ds_len]
    obtain ⟨i, e0, e', f, f', k1, k2, k3, k4, k5, k6, k7⟩ := addM_spec t [] a.types _ a.terms _ hS.wt hS.wm c3 (by simpa using c2)
    have l1 := hS.wm.len
    have l2 := k3.len
    rw [k1]
    simp only [List.length_append] at l2 ⊢
    by_cases hf : f = []
    ·subst hf
     have hi := (List.getElem?_eq_some_iff.1 k4).1
     simp only [List.length_append] at hi
     simp only [List.length_nil, Nat.add_zero] at l2 ⊢
     rw [if_neg (by omega), if_pos (by omega)]
    ·have hfl : 0 < f.length := List.length_pos_iff.2 hf
     have hi : ¬ i < a.terms.length := fun hi => by
      rw [List.getElem?_append_left (by omega)] at k4
      exact hf (k7 (List.mem_of_getElem? k4)).2
     rw [if_pos (by omega), if_neg (by omega)]
   ·rw [if_pos h3, if_neg h3]
  ·rw [if_neg h2, if_neg h2, if_neg (by omega), z31_Find_j0, if_pos (by omega)]
 ·rw [if_neg h1, if_neg h1, if_neg (by omega), z31_Find_j0, if_pos (by omega)]
def AddTypeS (a : AStore) (t : Ty) : AStore × Int × Int :=
 if a.few = true then
  if a.wf = true then
   if tcheck t = 0 then
    if (AStore.mk (addT t a.types).2 a.terms).few = true then (.mk (addT t a.types).2 a.terms, (addT t a.types).1, 0) else (noS, 0, 4)
   else (noS, 0, tcheck t)
  else (noS, 0, 8)
 else (noS, 0, 4)
theorem tcheck_zero {t : Ty} (h : tcheck t = 0) : t.shape = true ∧ t.size ≤ 500 := by
 unfold tcheck at h
 split at h
 ·rename_i hv
  simp only [Ty.valid, Ty.small, Bool.and_eq_true, decide_eq_true_eq] at hv
  exact ⟨hv.2, hv.1.1⟩
 ·omega
theorem hash_AddType_eq (a : AStore) (h : a.thin) (t : Ty) (hok : t.ok) (hs : t.size ≤ lim) : hash_AddType_o a t = some (AddTypeS a t) := by
 unfold hash_AddType_o AddTypeS
 rw [open_eq a h, bs]
 by_cases h1 : a.few = true
 ·rw [if_pos h1, if_pos h1]
  by_cases h2 : a.wf = true
  ·rw [if_pos h2, if_pos h2]
   simp only [hash_AddType_o_j0c]
   rw [types_Check_eq t hok hs, bs]
   by_cases h3 : tcheck t = 0
   ·rw [if_neg (by simp [h3]), if_pos h3]
    obtain ⟨c1, c2⟩ := tcheck_zero h3
    obtain ⟨f1, f2⟩ := few_iff.1 h1
    rw [hash_addType_eq t a.types a.terms _ (by simp only [lim]; omega), bs]
    simp only [hx_done_io, YN.Ds_len, XN.Ds_len, few_iff]
    by_cases q1 : (addT t a.types).2.length ≤ 4096
    ·rw [if_neg (show ¬ (4096 : Int) < ((addT t a.types).2.length : Int) by omega), if_neg (show ¬ (4096 : Int) < (a.terms.length : Int) by omega), if_pos ⟨q1, f2⟩]; rfl
    ·rw [if_pos (show (4096 : Int) < ((addT t a.types).2.length : Int) by omega), if_neg (fun h => q1 h.1)]; rfl
   ·rw [if_pos h3, if_neg h3]; rfl
  ·rw [if_neg h2, if_neg h2]; rfl
 ·rw [if_neg h1, if_neg h1]; rfl
theorem ref_AddType_eq (a : AStore) (h : a.thin) (t : Ty) (hok : t.ok) (hs : t.size ≤ lim) : z31_AddType a t = some (AddTypeS a t) := by
 unfold z31_AddType AddTypeS
 rw [ref_Check_k a h, bs]
 by_cases h1 : a.few = true
 ·rw [if_pos h1, if_pos h1]
  by_cases h2 : a.wf = true
  ·rw [if_pos h2, if_pos h2, if_pos rfl, ref1_Check_eq t hok hs, bs, z31_AddType_j0]
   by_cases h3 : tcheck t = 0
   ·rw [if_neg (by simp [h3]), if_pos h3]
    obtain ⟨c1, c2⟩ := tcheck_zero h3
    obtain ⟨f1, f2⟩ := few_iff.1 h1
    obtain ⟨s1, s2⟩ := (Sto.of h1 h2).sm
    obtain ⟨g1, _⟩ := putT_eq t a.types a.terms c1 s1 (by simp only [lim]; omega)
    have e : (AStore.mk a.types a.terms) = a := rfl
    rw [e] at g1
    rw [g1, bs]
    simp only [full_eq, bs]
   ·rw [if_pos h3, if_neg h3]; rfl
  ·rw [if_neg h2, if_neg h2, if_neg (by omega), z31_AddType_j0, if_pos (by omega)]; rfl
 ·rw [if_neg h1, if_neg h1, if_neg (by omega), z31_AddType_j0, if_pos (by omega)]; rfl
theorem ty_great {t : Ty} (h : t.great = false) : t.size ≤ lim := by
 simp only [Ty.great] at h
 have h0 : 0 < Ty.count 500 1500 t := by simpa using h
 have := (Ty.count_size 500 1500 t h0).1
 simp only [lim]; omega
end Go.Proofs.Ytemfpemejagndaa.Fw

