/- Stores: keys, index maps, what is added. -/
import Derived.Test.YtemfpemejagndaaMB
set_option autoImplicit false
set_option linter.unusedVariables false
set_option linter.unusedSimpArgs false
namespace Go.Proofs.Ytemfpemejagndaa.Fw
open Go Go.Proofs

abbrev TN := YN
abbrev MN := XN
def keyT (n : TN) : HTK := .mk n.var n.name (n.args.length : Int) (.mk (n.args.getD 0 0) (n.args.getD 1 0) (n.args.getD 2 0) (n.args.getD 3 0) (n.args.getD 4 0) (n.args.getD 5 0) (n.args.getD 6 0) (n.args.getD 7 0))
def keyM (n : MN) : HMK := .mk n.kind (if n.kind = 5 then ByteArray.empty else n.name) n.type_ n.index (n.sub.length : Int) (n.sub.getD 0 0) (n.sub.getD 1 0)
theorem hash_keyType_eq (n : TN) : hash_keyType n = some (keyT n) := by simp only [hash_keyType, keyT, intDs_i64_len]
theorem hash_keyTerm_eq (n : MN) : hash_keyTerm n = some (keyM n) := by
 have key : ∀ nm : ByteArray, hash_keyTerm_j0 nm n = some (.mk n.kind nm n.type_ n.index (n.sub.length : Int) (n.sub.getD 0 0) (n.sub.getD 1 0)) := fun nm => by
  obtain ⟨k, nn, t, i, xs⟩ := n
  unfold hash_keyTerm_j0
  simp only [intDs_i64_len]
  cases xs with
  | nil => simp [hash_keyTerm_j1, intDs_i64_len]
  | cons a r =>
   rw [if_pos (by simp), show (0 : Int) = ((0 : Nat) : Int) from rfl, geti_nat]
   simp only [List.getElem?_cons_zero, bs]
   unfold hash_keyTerm_j1
   simp only [intDs_i64_len]
   cases r with
   | nil => simp
   | cons b r =>
    rw [if_pos (by simp; omega), show (1 : Int) = ((1 : Nat) : Int) from rfl, geti_nat]
    simp
 unfold hash_keyTerm
 by_cases h : n.kind = 5
 ·rw [if_pos h, key, keyM, if_pos h]
 ·rw [if_neg h, key, keyM, if_neg h]
section
variable {α κ : Type} [DecidableEq κ] (key : α → κ)
/-- keys and places -/
def mapOf : Nat → List α → List (κ × Int)
 | _, [] => []
 | k, a :: r => (key a, (k : Int)) :: mapOf (k + 1) r
def idxK : List α → κ → Option Nat
 | [], _ => none
 | a :: r, x => if x = key a then some 0 else (idxK r x).map (· + 1)
theorem mget_mapOf (x : κ) : ∀ (l : List α) (k : Nat), mget (mapOf key k l) x = (idxK key l x).map fun i => ((k + i : Nat) : Int)
 | [], k => rfl
 | a :: r, k => by
  simp only [mapOf, mget, idxK]
  by_cases h : x = key a
  ·rw [if_pos h, if_pos h]; simp
  ·rw [if_neg h, if_neg h, mget_mapOf x r (k + 1)]
   cases idxK key r x with
   | none => rfl
   | some i => simp; omega
theorem mput_absent {α' β : Type} [DecidableEq α'] (x : α') (v : β) : ∀ (m : List (α' × β)), mget m x = none → mput m x v = m ++ [(x, v)]
 | [], _ => rfl
 | q :: r, h => by
  simp only [mget] at h
  by_cases hq : x = q.1
  ·rw [if_pos hq] at h; cases h
  ·rw [if_neg hq] at h
   simp only [mput]
   rw [if_neg hq, mput_absent x v r h]; rfl
omit [DecidableEq κ] in
theorem mapOf_snoc (a : α) : ∀ (l : List α) (k : Nat), mapOf key k (l ++ [a]) = mapOf key k l ++ [(key a, ((k + l.length : Nat) : Int))]
 | [], k => rfl
 | b :: r, k => by
  simp only [List.cons_append, mapOf, mapOf_snoc a r (k + 1), List.length_cons]
  congr 4
  omega
theorem mput_mapOf (l : List α) (a : α) (h : idxK key l (key a) = none) : mput (mapOf key 0 l) (key a) (l.length : Int) = mapOf key 0 (l ++ [a]) := by
 rw [mput_absent _ _ _ (by rw [mget_mapOf, h]; rfl), mapOf_snoc]; simp
theorem idxK_some : ∀ {l : List α} {x : κ} {i : Nat}, idxK key l x = some i → ∃ a, l[i]? = some a ∧ x = key a
 | [], x, i, h => by cases h
 | a :: r, x, i, h => by
  simp only [idxK] at h
  by_cases hx : x = key a
  ·rw [if_pos hx] at h; injection h with h; subst h; exact ⟨a, rfl, hx⟩
  ·rw [if_neg hx, Option.map_eq_some_iff] at h
   obtain ⟨j, h1, rfl⟩ := h
   obtain ⟨b, h2, h3⟩ := idxK_some h1
   exact ⟨b, by simpa using h2, h3⟩
theorem idxK_none : ∀ {l : List α} {x : κ}, idxK key l x = none ↔ ∀ a ∈ l, x ≠ key a
 | [], x => by simp [idxK]
 | a :: r, x => by
  simp only [idxK]
  by_cases hx : x = key a
  ·rw [if_pos hx]; simp [hx]
  ·rw [if_neg hx, Option.map_eq_none_iff, idxK_none]; simp [hx]
end

/-! ### adding -/
mutual
def addT : Ty → List TN → Int × List TN
 | .mk v n xs, ns => match addTs xs ns with
  | (is, ns1) => match idxK keyT ns1 (keyT (.mk v n is)) with
   | some i => ((i : Int), ns1)
   | none => ((ns1.length : Int), ns1 ++ [.mk v n is])
def addTs : List Ty → List TN → List Int × List TN
 | [], ns => ([], ns)
 | a :: r, ns => match addT a ns with
  | (i, ns1) => match addTs r ns1 with
   | (is, ns2) => (i :: is, ns2)
end
mutual
theorem addT_len : ∀ (a : Ty) (ns : List TN), ns.length ≤ (addT a ns).2.length ∧ (addT a ns).2.length ≤ ns.length + a.size
 | .mk v n xs, ns => by
  have := addTs_len xs ns
  simp only [addT, Ty.size]
  split <;> simp <;> omega
theorem addTs_len : ∀ (xs : List Ty) (ns : List TN), ns.length ≤ (addTs xs ns).2.length ∧ (addTs xs ns).2.length ≤ ns.length + Ty.sizes xs ∧ (addTs xs ns).1.length = xs.length
 | [], ns => by simp [addTs, Ty.sizes]
 | a :: r, ns => by
  have h1 := addT_len a ns
  have h2 := addTs_len r (addT a ns).2
  simp only [addTs, Ty.sizes, List.length_cons]
  omega
end
theorem app_ok {α : Type} {xs ys : List α} (h : xs.length + ys.length < 4294967296) : app xs ys = some (xs ++ ys) := by rw [app, if_pos h]
theorem hash_addType_j0_eq (a : Ty) (ns : List TN) (ms : List MN) (is : List Int) (b4 : List (HMK × Int)) (h : ns.length ≤ 2 * lim) :
  hx_addType_o_io_j0 a ns ms is (mapOf keyT 0 ns) b4 = some (match idxK keyT ns (keyT (.mk a.v a.name is)) with
   | some i => ((i : Int), ns, ms, mapOf keyT 0 ns, b4)
   | none => ((ns.length : Int), ns ++ [.mk a.v a.name is], ms, mapOf keyT 0 (ns ++ [.mk a.v a.name is]), b4)) := by
 simp only [lim] at h
 rw [hx_addType_o_io_j0, hash_keyType_eq, bs, mget_mapOf]
 cases hi : idxK keyT ns (keyT (.mk a.v a.name is)) with
 | some i => simp [hx_addType_o_io_j1]
 | none =>
  simp only [Option.map_none, hx_addType_o_io_j1, YN.Ds_len]
  rw [if_neg (by simp), bs, app_ok (by simp; omega), bs, mput_mapOf keyT ns _ hi]
theorem hash_addType_l (a : Ty) (ms : List MN) (b4 : List (HMK × Int)) : ∀ (xs : List Ty) (ns : List TN) (is : List Int),
  (∀ x ∈ xs, ∀ ns : List TN, ns.length + x.size ≤ 2 * lim → hx_addType_o_io x ns ms (mapOf keyT 0 ns) b4 = some ((addT x ns).1, (addT x ns).2, ms, mapOf keyT 0 (addT x ns).2, b4)) →
  ns.length + Ty.sizes xs ≤ 2 * lim → is.length + xs.length ≤ 2 * lim →
  hx_addType_o_io_l0 xs ns ms (mapOf keyT 0 ns) b4 is a = hx_addType_o_io_j0 a (addTs xs ns).2 ms (is ++ (addTs xs ns).1) (mapOf keyT 0 (addTs xs ns).2) b4
 | [], ns, is, ih, h, h' => by rw [hx_addType_o_io_l0_eq]; simp [addTs]
 | x :: r, ns, is, ih, h, h' => by
  simp only [Ty.sizes, List.length_cons, lim] at h h'
  have hl := addT_len x ns
  have := Ty.size_pos x
  rw [hx_addType_o_io_l0_eq]
  simp only []
  rw [ih x (by simp) ns (by simp only [lim]; omega), bs, app_ok (by simp; omega), bs]
  simp only []
  rw [hash_addType_l a ms b4 r _ _ (fun y hy => ih y (by simp [hy])) (by simp only [lim]; omega) (by simp only [lim]; simp; omega)]
  simp [addTs]
theorem hash_addType_eq : ∀ (a : Ty) (ns : List TN) (ms : List MN) (b4 : List (HMK × Int)), ns.length + a.size ≤ 2 * lim →
  hx_addType_o_io a ns ms (mapOf keyT 0 ns) b4 = some ((addT a ns).1, (addT a ns).2, ms, mapOf keyT 0 (addT a ns).2, b4) := by
 refine Ty.ind fun v n xs ih => ?_
 intro ns ms b4 h
 simp only [Ty.size] at h
 have hl := addTs_len xs ns
 have hx := Ty.len_sizes xs
 rw [hx_addType_o_io_eq]
 simp only []
 rw [hash_addType_l _ ms b4 xs ns [] (fun x hx ns hn => ih x hx ns ms b4 hn) (by omega) (by simp; omega), hash_addType_j0_eq _ _ _ _ _ (by omega)]
 simp only [List.nil_append, addT]
 cases idxK keyT (addTs xs ns).2 (keyT (.mk v n (addTs xs ns).1)) <;> rfl
mutual
def addM : Tm → List TN → List MN → Int × List TN × List MN
 | .mk k n t i xs, ns, ms => match (if k = 3 ∨ k = 4 then ((-1 : Int), ns) else addT t ns) with
  | (ti, ns1) => match addMs xs ns1 ms with
   | (is, ns2, ms2) => match idxK keyM ms2 (keyM (.mk k n ti i is)) with
    | some j => ((j : Int), ns2, ms2)
    | none => ((ms2.length : Int), ns2, ms2 ++ [.mk k n ti i is])
def addMs : List Tm → List TN → List MN → List Int × List TN × List MN
 | [], ns, ms => ([], ns, ms)
 | a :: r, ns, ms => match addM a ns ms with
  | (i, ns1, ms1) => match addMs r ns1 ms1 with
   | (is, ns2, ms2) => (i :: is, ns2, ms2)
end
mutual
/-- the size with that of the types -/
def Tm.tsize : Tm → Nat
 | .mk _ _ t _ xs => t.size + Tm.tsizes xs
def Tm.tsizes : List Tm → Nat
 | [] => 0
 | a :: r => a.tsize + Tm.tsizes r
end
mutual
theorem addM_len : ∀ (a : Tm) (ns : List TN) (ms : List MN), ns.length ≤ (addM a ns ms).2.1.length ∧ (addM a ns ms).2.1.length ≤ ns.length + a.tsize ∧ ms.length ≤ (addM a ns ms).2.2.length ∧ (addM a ns ms).2.2.length ≤ ms.length + a.size
 | .mk k n t i xs, ns, ms => by
  simp only [addM, Tm.size, Tm.tsize]
  by_cases hk : k = 3 ∨ k = 4
  ·simp only [if_pos hk]
   have := addMs_len xs ns ms
   generalize addMs xs ns ms = g at *
   obtain ⟨is, ns2, ms2⟩ := g
   simp only at this ⊢
   split <;> simp <;> omega
  ·simp only [if_neg hk]
   have h1 := addT_len t ns
   have := addMs_len xs (addT t ns).2 ms
   generalize addT t ns = g0 at *
   obtain ⟨ti, ns1⟩ := g0
   simp only at this h1 ⊢
   generalize addMs xs ns1 ms = g at *
   obtain ⟨is, ns2, ms2⟩ := g
   simp only at this ⊢
   split <;> simp <;> omega
theorem addMs_len : ∀ (xs : List Tm) (ns : List TN) (ms : List MN), ns.length ≤ (addMs xs ns ms).2.1.length ∧ (addMs xs ns ms).2.1.length ≤ ns.length + Tm.tsizes xs ∧ ms.length ≤ (addMs xs ns ms).2.2.length ∧ (addMs xs ns ms).2.2.length ≤ ms.length + Tm.sizes xs ∧ (addMs xs ns ms).1.length = xs.length
 | [], ns, ms => by simp [addMs, Tm.sizes]
 | a :: r, ns, ms => by
  have h1 := addM_len a ns ms
  have h2 := addMs_len r (addM a ns ms).2.1 (addM a ns ms).2.2
  simp only [addMs, Tm.sizes, Tm.tsizes, List.length_cons]
  generalize addM a ns ms = g at *
  obtain ⟨i, ns1, ms1⟩ := g
  simp only at h1 h2 ⊢
  generalize addMs r ns1 ms1 = g at *
  obtain ⟨is, ns2, ms2⟩ := g
  simp only at h2 ⊢
  omega
end
theorem hash_add_j1_eq (a : Tm) (ns : List TN) (ms : List MN) (ti : Int) (is : List Int) (m3 : List (HTK × Int)) (h : ms.length ≤ 2 * lim) :
  hx_add_o_io_j1 a ns ms ti is m3 (mapOf keyM 0 ms) = some (match idxK keyM ms (keyM (.mk a.kind a.name ti a.index is)) with
   | some i => ((i : Int), ns, ms, m3, mapOf keyM 0 ms)
   | none => ((ms.length : Int), ns, ms ++ [.mk a.kind a.name ti a.index is], m3, mapOf keyM 0 (ms ++ [.mk a.kind a.name ti a.index is]))) := by
 simp only [lim] at h
 rw [hx_add_o_io_j1, hash_keyTerm_eq, bs, mget_mapOf]
 cases hi : idxK keyM ms (keyM (.mk a.kind a.name ti a.index is)) with
 | some i => simp [hx_add_o_io_j2]
 | none =>
  simp only [Option.map_none, hx_add_o_io_j2, XN.Ds_len]
  rw [if_neg (by simp), bs, app_ok (by simp; omega), bs, mput_mapOf keyM ms _ hi]
theorem hash_add_l (a : Tm) (ti : Int) : ∀ (xs : List Tm) (ns : List TN) (ms : List MN) (is : List Int),
  (∀ x ∈ xs, ∀ (ns : List TN) (ms : List MN), ns.length + x.tsize ≤ 2 * lim → ms.length + x.size ≤ 2 * lim → hx_add_o_io x ns ms (mapOf keyT 0 ns) (mapOf keyM 0 ms) = some ((addM x ns ms).1, (addM x ns ms).2.1, (addM x ns ms).2.2, mapOf keyT 0 (addM x ns ms).2.1, mapOf keyM 0 (addM x ns ms).2.2)) →
  ns.length + Tm.tsizes xs ≤ 2 * lim → ms.length + Tm.sizes xs ≤ 2 * lim → is.length + xs.length ≤ 2 * lim →
  hx_add_o_io_l0 xs ns ms (mapOf keyT 0 ns) (mapOf keyM 0 ms) is a ti = hx_add_o_io_j1 a (addMs xs ns ms).2.1 (addMs xs ns ms).2.2 ti (is ++ (addMs xs ns ms).1) (mapOf keyT 0 (addMs xs ns ms).2.1) (mapOf keyM 0 (addMs xs ns ms).2.2)
 | [], ns, ms, is, ih, h, hm, h' => by rw [hx_add_o_io_l0_eq]; simp [addMs]
 | x :: r, ns, ms, is, ih, h, hm, h' => by
  simp only [Tm.sizes, Tm.tsizes, List.length_cons, lim] at h hm h'
  have hl := addM_len x ns ms
  have := Tm.size_pos x
  rw [hx_add_o_io_l0_eq]
  simp only []
  rw [ih x (by simp) ns ms (by simp only [lim]; omega) (by simp only [lim]; omega), bs, app_ok (by simp; omega), bs]
  simp only []
  rw [hash_add_l a ti r _ _ _ (fun y hy => ih y (by simp [hy])) (by simp only [lim]; omega) (by simp only [lim]; omega) (by simp only [lim]; simp; omega)]
  simp [addMs]
theorem hash_add_eq : ∀ (a : Tm) (ns : List TN) (ms : List MN), ns.length + a.tsize ≤ 2 * lim → ms.length + a.size ≤ 2 * lim →
  hx_add_o_io a ns ms (mapOf keyT 0 ns) (mapOf keyM 0 ms) = some ((addM a ns ms).1, (addM a ns ms).2.1, (addM a ns ms).2.2, mapOf keyT 0 (addM a ns ms).2.1, mapOf keyM 0 (addM a ns ms).2.2) := by
 refine Tm.ind fun k n t i xs ih => ?_
 intro ns ms h hm
 simp only [Tm.size, Tm.tsize] at h hm
 have hx := Tm.len_sizes xs
 have ih' : ∀ x ∈ xs, ∀ (ns : List TN) (ms : List MN), ns.length + x.tsize ≤ 2 * lim → ms.length + x.size ≤ 2 * lim → hx_add_o_io x ns ms (mapOf keyT 0 ns) (mapOf keyM 0 ms) = some ((addM x ns ms).1, (addM x ns ms).2.1, (addM x ns ms).2.2, mapOf keyT 0 (addM x ns ms).2.1, mapOf keyM 0 (addM x ns ms).2.2) :=
  fun x hx ns ms h1 h2 => ih x hx ns ms h1 h2
 have key : ∀ (ti : Int) (ns : List TN), ns.length + Tm.tsizes xs ≤ 2 * lim → hx_add_o_io_j0 ns ms (mapOf keyT 0 ns) (mapOf keyM 0 ms) ti (.mk k n t i xs) = some (match addMs xs ns ms with
   | (is, ns2, ms2) => match idxK keyM ms2 (keyM (.mk k n ti i is)) with
    | some j => ((j : Int), ns2, ms2, mapOf keyT 0 ns2, mapOf keyM 0 ms2)
    | none => ((ms2.length : Int), ns2, ms2 ++ [.mk k n ti i is], mapOf keyT 0 ns2, mapOf keyM 0 (ms2 ++ [.mk k n ti i is]))) := fun ti ns h => by
  have hl := addMs_len xs ns ms
  rw [hx_add_o_io_j0_eq]
  simp only []
  rw [hash_add_l _ ti xs ns ms [] ih' h (by omega) (by simp; omega), hash_add_j1_eq _ _ _ _ _ _ (by omega)]
  simp only [List.nil_append]
 rw [hx_add_o_io_eq]
 simp only [addM]
 by_cases h3 : k = 3
 ·rw [if_neg (by simp [h3])]
  rw [key _ _ (by omega)]
  simp only [h3, true_or, if_true]
  cases idxK keyM (addMs xs ns ms).2.2 (keyM (.mk 3 n (-1) i (addMs xs ns ms).1)) <;> rfl
 ·rw [if_pos h3]
  by_cases h4 : k = 4
  ·rw [if_neg (by simp [h4])]
   rw [key _ _ (by omega)]
   simp only [h4, or_true, if_true]
   cases idxK keyM (addMs xs ns ms).2.2 (keyM (.mk 4 n (-1) i (addMs xs ns ms).1)) <;> rfl
  ·have ht := addT_len t ns
   rw [if_pos h4, hash_addType_eq t ns ms _ (by omega), bs]
   simp only []
   rw [key _ _ (by omega)]
   simp only [h3, h4, or_self, if_false]
   cases idxK keyM (addMs xs (addT t ns).2 ms).2.2 (keyM (.mk k n (addT t ns).1 i (addMs xs (addT t ns).2 ms).1)) <;> rfl
end Go.Proofs.Ytemfpemejagndaa.Fw


namespace Go.Proofs.Ytemfpemejagndaa.Fw
open Go Go.Proofs

def cS (n : Nat) : Int := ((min n 32001 : Nat) : Int)
def cD (n : Nat) : Int := ((min n 301 : Nat) : Int)
def maxl : List Nat → Nat
 | [] => 0
 | a :: r => max a (maxl r)
theorem sum_cap (L : List Nat) : min (1 + (L.map fun x => min x 32001).sum) 32001 = min (1 + L.sum) 32001 := by
 induction L with
 | nil => rfl
 | cons a r ih => simp only [List.map_cons, List.sum_cons]; omega
theorem max_cap (L : List Nat) : min (1 + maxl (L.map fun x => min x 301)) 301 = min (1 + maxl L) 301 := by
 induction L with
 | nil => rfl
 | cons a r ih => simp only [List.map_cons, maxl]; omega
theorem geti_map {α β : Type} (f : α → β) (l : List α) (z : α) {j : Int} (h0 : 0 ≤ j) (h1 : j < l.length) : geti (l.map f) j = some (f (l.getD j.toNat z)) := by
 have h : j.toNat < l.length := by omega
 rw [geti, if_pos h0, List.getElem?_map, List.getElem?_eq_getElem h, List.getD_eq_getElem?_getD, List.getElem?_eq_getElem h]; rfl
set_option maxRecDepth 100000 in
theorem measure_l (S D : List Nat) (hl : D.length = S.length) : ∀ (args : List Int) (m d : Nat), (∀ j ∈ args, 0 ≤ j ∧ j < S.length) → m + args.length * 32001 ≤ lim → d ≤ 301 →
  hash_measure_l0 args m d (S.map cS) (D.map cD) = some (((min (m + ((args.map fun j => min (S.getD j.toNat 0) 32001).sum) + 1) 32001 : Nat) : Int), ((min (max d (maxl (args.map fun j => min (D.getD j.toNat 0) 301)) + 1) 301 : Nat) : Int))
 | [], m, d, h, hm, hd => by
  simp only [lim] at hm
  rw [hash_measure_l0_eq]
  simp only [List.map_nil, List.sum_nil, maxl, bs]
  rw [wr (by omega) (by simp at hm; omega), wr (by omega) (by omega)]
  simp only [Option.some.injEq, Prod.mk.injEq]
  omega
 | j :: r, m, d, h, hm, hd => by
  obtain ⟨h0, h1⟩ := h j (by simp)
  simp only [List.length_cons, lim] at hm
  rw [hash_measure_l0_eq]
  simp only []
  rw [geti_map cS S 0 h0 h1, bs, bs, geti_map cD D 0 h0 (by omega), bs]
  have e1 : IntKind.i64.wrap ((m : Int) + cS (S.getD j.toNat 0)) = ((m + min (S.getD j.toNat 0) 32001 : Nat) : Int) := by
   simp only [cS]; rw [wr (by omega) (by omega)]; omega
  have e2 : max (d : Int) (cD (D.getD j.toNat 0)) = ((max d (min (D.getD j.toNat 0) 301) : Nat) : Int) := by
   simp only [cD]; omega
  rw [e1, e2, measure_l S D hl r _ _ (fun q hq => h q (by simp [hq])) (by simp only [lim]; omega) (by omega)]
  simp only [List.map_cons, List.sum_cons, maxl, Option.some.injEq, Prod.mk.injEq]
  omega
theorem hash_measure_eq (S D : List Nat) (hl : D.length = S.length) (args : List Int) (h : ∀ j ∈ args, 0 ≤ j ∧ j < S.length) (hn : args.length ≤ 1000) :
  hash_measure (S.map cS) (D.map cD) args = some (cS (1 + (args.map fun j => S.getD j.toNat 0).sum), cD (1 + maxl (args.map fun j => D.getD j.toNat 0))) := by
 have := measure_l S D hl args 0 0 h (by simp only [lim]; omega) (by omega)
 have e : hash_measure_l0 args 0 0 (S.map cS) (D.map cD) = _ := this
 rw [hash_measure, e]
 have a := sum_cap (args.map fun j => S.getD j.toNat 0)
 have b := max_cap (args.map fun j => D.getD j.toNat 0)
 simp only [List.map_map, Function.comp_def] at a b
 simp only [cS, cD, Option.some.injEq, Prod.mk.injEq]
 omega
theorem hash_below_l (k : Int) : ∀ (xs : List Int) (i : Nat), slIF_l0 xs i k = some (match xs.findIdx? (fun j => decide (j < 0) || decide (k ≤ j)) with | some q => ((i + q : Nat) : Int) | none => -1)
 | [], i => by rw [slIF_l0_eq]; rfl
 | j :: r, i => by
  rw [slIF_l0_eq]
  simp only [hash_below_1, List.findIdx?_cons]
  by_cases h : j < 0
  ·simp [h]
  ·rw [if_neg h, bs]
   by_cases h2 : k ≤ j
   ·simp [h2]
   ·simp only [h2, h, decide_false, Bool.or_self, Bool.false_eq_true, if_false]
    rw [hash_below_l k r (i + 1)]
    cases r.findIdx? (fun j => decide (j < 0) || decide (k ≤ j)) with
    | none => rfl
    | some q => show some (((i + 1 + q : Nat)) : Int) = some ((i + (q + 1) : Nat) : Int); congr 2; omega
def blw (xs : List Int) (k : Int) : Bool := xs.all fun j => decide (0 ≤ j) && decide (j < k)
theorem blw_iff {xs : List Int} {k : Int} : blw xs k = true ↔ ∀ j ∈ xs, 0 ≤ j ∧ j < k := by simp [blw, List.all_eq_true]
theorem hash_below_eq (xs : List Int) (k : Int) : hash_below xs k = some (blw xs k) := by
 rw [hash_below, slices_ContainsFunc_int_int__hash_below_1, slIF, hash_below_l, bs, bs]
 cases h : xs.findIdx? (fun j => decide (j < 0) || decide (k ≤ j)) with
 | none =>
  rw [List.findIdx?_eq_none_iff] at h
  have : blw xs k = true := blw_iff.2 fun j hj => by have := h j hj; simp at this; omega
  simp [this]
 | some q =>
  have : blw xs k = false := by
   rw [← Bool.not_eq_true, blw_iff]
   intro hb
   obtain ⟨h1, h2, _⟩ := List.findIdx?_eq_some_iff_getElem.1 h
   have := hb _ (List.getElem_mem h1)
   simp at h2; omega
  simp [this]
/-! ### types -/
def nodeT (tys : List Ty) (n : TN) : Ty := .mk n.var n.name (n.args.map fun j => tys.getD j.toNat zTy)
def decT : List Ty → List TN → List Ty
 | tys, [] => tys
 | tys, n :: r => decT (tys ++ [nodeT tys n]) r
theorem decT_snoc (n : TN) : ∀ (ns : List TN) (tys : List Ty), decT tys (ns ++ [n]) = decT tys ns ++ [nodeT (decT tys ns) n]
 | [], tys => rfl
 | a :: r, tys => by simp only [List.cons_append, decT]; rw [decT_snoc n r]
theorem decT_len : ∀ (ns : List TN) (tys : List Ty), (decT tys ns).length = tys.length + ns.length
 | [], tys => rfl
 | a :: r, tys => by simp only [decT]; rw [decT_len r]; simp; omega
def okT (tys : List Ty) (n : TN) : Bool :=
 decide (n.args.length ≤ 8) && ((!n.var || decide (n.args.length = 0)) && (Ty.valid (.mk n.var n.name []) && (blw n.args tys.length && (decide ((nodeT tys n).size ≤ 500) && decide ((nodeT tys n).depth ≤ 200)))))
def openT : List TN → List Ty → List TN → Bool
 | pre, tys, [] => true
 | pre, tys, n :: r => okT tys n && ((idxK keyT pre (keyT n)).isNone && openT (pre ++ [n]) (tys ++ [nodeT tys n]) r)
theorem sizes_sum : ∀ xs : List Ty, Ty.sizes xs = (xs.map Ty.size).sum
 | [] => rfl
 | a :: r => by simp [Ty.sizes, sizes_sum r]
theorem depths_max : ∀ xs : List Ty, Ty.depths xs = maxl (xs.map Ty.depth)
 | [] => rfl
 | a :: r => by simp [Ty.depths, maxl, depths_max r]
theorem getD_map' {α β : Type} (f : α → β) (l : List α) (z : α) (y : β) {i : Nat} (h : i < l.length) : (l.map f).getD i y = f (l.getD i z) := by
 rw [List.getD_eq_getElem?_getD, List.getD_eq_getElem?_getD, List.getElem?_map, List.getElem?_eq_getElem h]; rfl
theorem nodeT_size {tys : List Ty} {n : TN} (h : ∀ j ∈ n.args, 0 ≤ j ∧ j < tys.length) : (nodeT tys n).size = 1 + (n.args.map fun j => (tys.map Ty.size).getD j.toNat 0).sum := by
 simp only [nodeT, Ty.size, sizes_sum, List.map_map]
 congr 2
 refine List.map_congr_left fun j hj => ?_
 rw [getD_map' Ty.size tys zTy 0 (by have := h j hj; omega)]; rfl
theorem nodeT_depth {tys : List Ty} {n : TN} (h : ∀ j ∈ n.args, 0 ≤ j ∧ j < tys.length) : (nodeT tys n).depth = 1 + maxl (n.args.map fun j => (tys.map Ty.depth).getD j.toNat 0) := by
 simp only [nodeT, Ty.depth, depths_max, List.map_map]
 congr 2
 refine List.map_congr_left fun j hj => ?_
 rw [getD_map' Ty.depth tys zTy 0 (by have := h j hj; omega)]; rfl
theorem leafTy_Check (v : Bool) (s : ByteArray) (h : s.size ≤ big) : types_Check (.mk v s []) = some (if Ty.valid (.mk v s []) = true then 0 else 10) := by
 rw [types_Check_eq _ (show Ty.ok (.mk v s []) from ⟨h, by simp [big], trivial⟩) (by simp [Ty.size, Ty.sizes, lim])]; rfl
def capsS (tys : List Ty) : List Int := (tys.map Ty.size).map cS
def capsD (tys : List Ty) : List Int := (tys.map Ty.depth).map cD
theorem addTypes_j (b0 : List TN) (b1 : List MN) (b4 : List (HMK × Int)) (pre : List TN) (tys : List Ty) (n : TN) (rest : List TN) (hl : tys.length = pre.length) (hn : pre.length ≤ lim) (h8 : n.args.length ≤ 8) (hb : blw n.args tys.length = true)
  (ih : ∃ m', hx_addTypes_o_io_l0 rest ((pre ++ [n]).length) (capsS (tys ++ [nodeT tys n])) (capsD (tys ++ [nodeT tys n])) (mapOf keyT 0 (pre ++ [n])) b0 b1 b4 = some (openT (pre ++ [n]) (tys ++ [nodeT tys n]) rest, b0, b1, m', b4) ∧ (openT (pre ++ [n]) (tys ++ [nodeT tys n]) rest = true → m' = mapOf keyT 0 ((pre ++ [n]) ++ rest))) :
  ∃ m', hx_addTypes_o_io_j0 b0 b1 b4 pre.length (mapOf keyT 0 pre) rest (capsS tys) (capsD tys) n =
   some (decide ((nodeT tys n).size ≤ 500) && (decide ((nodeT tys n).depth ≤ 200) && ((idxK keyT pre (keyT n)).isNone && openT (pre ++ [n]) (tys ++ [nodeT tys n]) rest)), b0, b1, m', b4) ∧
   ((decide ((nodeT tys n).size ≤ 500) && (decide ((nodeT tys n).depth ≤ 200) && ((idxK keyT pre (keyT n)).isNone && openT (pre ++ [n]) (tys ++ [nodeT tys n]) rest))) = true → m' = mapOf keyT 0 ((pre ++ [n]) ++ rest)) := by
 have hj := blw_iff.1 hb
 simp only [lim] at hn
 have hm := hash_measure_eq (tys.map Ty.size) (tys.map Ty.depth) (by simp) n.args (fun j hq => by simpa using hj j hq) (by omega)
 rw [hx_addTypes_o_io_j0_eq, capsS, capsD, hm, bs]
 simp only []
 rw [← nodeT_size hj, ← nodeT_depth hj]
 by_cases h1 : (nodeT tys n).size ≤ 500
 ·rw [if_neg (by simp only [cS]; omega)]
  by_cases h2 : (nodeT tys n).depth ≤ 200
  ·rw [if_neg (by simp only [cD]; omega), app_ok (by simp; omega), bs, app_ok (by simp; omega), bs, hash_keyType_eq, bs, mget_mapOf]
   have e1 : (tys.map Ty.size).map cS ++ [cS (nodeT tys n).size] = capsS (tys ++ [nodeT tys n]) := by simp [capsS]
   have e2 : (tys.map Ty.depth).map cD ++ [cD (nodeT tys n).depth] = capsD (tys ++ [nodeT tys n]) := by simp [capsD]
   rw [e1, e2]
   simp only [h1, h2, decide_true, Bool.true_and]
   cases hi : idxK keyT pre (keyT n) with
   | some i => exact ⟨_, by simp; rfl, by simp⟩
   | none =>
    obtain ⟨m', g1, g2⟩ := ih
    simp only [Option.map_none, bs, Option.isNone_none, Bool.true_and, mput_mapOf keyT pre n hi]
    refine ⟨m', ?_, g2⟩
    rw [List.length_append] at g1
    exact g1
  ·rw [if_pos (by simp only [cD]; omega)]
   exact ⟨_, by simp [h1, h2]; rfl, by simp [h2]⟩
 ·rw [if_pos (by simp only [cS]; omega)]
  exact ⟨_, by simp [h1]; rfl, by simp [h1]⟩
theorem addTypes_l (b0 : List TN) (b1 : List MN) (b4 : List (HMK × Int)) : ∀ (rest pre : List TN) (tys : List Ty), tys.length = pre.length → pre.length + rest.length ≤ lim → (∀ n ∈ rest, n.name.size ≤ big) →
  ∃ m', hx_addTypes_o_io_l0 rest pre.length (capsS tys) (capsD tys) (mapOf keyT 0 pre) b0 b1 b4 = some (openT pre tys rest, b0, b1, m', b4) ∧ (openT pre tys rest = true → m' = mapOf keyT 0 (pre ++ rest))
 | [], pre, tys, hl, hn, hb => by
  rw [hx_addTypes_o_io_l0_eq]
  exact ⟨_, rfl, fun _ => by simp⟩
 | n :: r, pre, tys, hl, hn, hb => by
  simp only [List.length_cons] at hn
  have ih := addTypes_l b0 b1 b4 r (pre ++ [n]) (tys ++ [nodeT tys n]) (by simp [hl]) (by simp; omega) (fun q hq => hb q (by simp [hq]))
  have hc := leafTy_Check n.var n.name (hb n (by simp))
  have no : ∀ (b : Bool), b = false → ∀ m0 : List (HTK × Int), ∃ m', some (false, b0, b1, m0, b4) = some (b, b0, b1, m', b4) ∧ (b = true → m' = mapOf keyT 0 (pre ++ n :: r)) := fun b hb m0 => ⟨m0, by rw [hb], by rw [hb]; intro h; cases h⟩
  rw [hx_addTypes_o_io_l0_eq]
  simp only [intDs_i64_len]
  by_cases h8 : n.args.length ≤ 8
  ·rw [if_neg (show ¬ (8 < (n.args.length : Int)) by omega)]
   have main : (Ty.valid (.mk n.var n.name []) = true → (!n.var || decide (n.args.length = 0)) = true → ∃ m', (bind (hash_below n.args (pre.length : Int)) fun v30 => if v30 = true then hx_addTypes_o_io_j0 b0 b1 b4 pre.length (mapOf keyT 0 pre) r (capsS tys) (capsD tys) n else some (false, b0, b1, mapOf keyT 0 pre, b4)) = some (openT pre tys (n :: r), b0, b1, m', b4) ∧ (openT pre tys (n :: r) = true → m' = mapOf keyT 0 (pre ++ n :: r))) := fun hv hvar => by
    rw [hash_below_eq, bs, ← hl]
    by_cases hbl : blw n.args tys.length = true
    ·rw [if_pos hbl, hl]
     obtain ⟨m', g1, g2⟩ := addTypes_j b0 b1 b4 pre tys n r hl (by omega) h8 hbl ih
     have e : openT pre tys (n :: r) = (decide ((nodeT tys n).size ≤ 500) && (decide ((nodeT tys n).depth ≤ 200) && ((idxK keyT pre (keyT n)).isNone && openT (pre ++ [n]) (tys ++ [nodeT tys n]) r))) := by
      simp only [openT, okT, h8, hvar, hv, hbl, decide_true, Bool.true_and, Bool.and_assoc]
     rw [e]
     refine ⟨m', g1, fun h => ?_⟩
     rw [g2 h]; simp
    ·rw [if_neg hbl]
     exact no _ (by simp [openT, okT, hbl]) _
   by_cases hv : n.var = true
   ·rw [if_pos hv]
    by_cases h0 : 0 < n.args.length
    ·rw [if_pos (show (0 : Int) < (n.args.length : Int) by omega)]
     exact no _ (by simp [openT, okT, hv]; intro _ h; simp [h] at h0) _
    ·rw [if_neg (show ¬ (0 : Int) < (n.args.length : Int) by omega), hc, bs]
     by_cases hval : Ty.valid (.mk n.var n.name []) = true
     ·rw [if_pos hval, if_neg (by simp)]
      exact main hval (by simp; right; exact List.length_eq_zero_iff.1 (by omega))
     ·rw [if_neg hval, if_pos (by simp)]
      exact no _ (by simp [openT, okT, hval]) _
   ·rw [if_neg hv, hc, bs]
    by_cases hval : Ty.valid (.mk n.var n.name []) = true
    ·rw [if_pos hval, if_neg (by simp)]
     exact main hval (by simp [hv])
    ·rw [if_neg hval, if_pos (by simp)]
     exact no _ (by simp [openT, okT, hval]) _
  ·rw [if_pos (show 8 < (n.args.length : Int) by omega)]
   exact no _ (by simp [openT, okT, h8]) _
end Go.Proofs.Ytemfpemejagndaa.Fw


namespace Go.Proofs.Ytemfpemejagndaa.Fw
open Go Go.Proofs

theorem tyBool_ok : Ty.bool.ok := ⟨by decide, by decide, trivial⟩
theorem tyBool_valid : Ty.bool.valid = true := by decide
theorem terms_VarB (s : ByteArray) (h : s.size ≤ big) : ∃ t : Tm, terms_Var s Ty.bool = some (t, if cname s = true then 0 else 20) := by
 rw [terms_Var, terms_leaf, types_Check_eq _ tyBool_ok (by decide), bs, named_eq s h]
 rw [show tcheck Ty.bool = 0 by simp [tcheck, tyBool_valid], if_neg (by simp), bs]
 by_cases hc : cname s = true
 ·rw [if_pos hc, types_Twin_eq2 _ (by decide), if_pos hc]
  exact ⟨_, rfl⟩
 ·rw [if_neg hc, if_neg hc]
  exact ⟨_, rfl⟩
def arity (k : Int) : Option Int := if k = 1 then some 0 else if k = 2 then some 0 else if k = 3 then some 0 else if k = 4 then some 2 else if k = 5 then some 1 else none
def fineK (n : MN) (nt : Int) : Bool :=
 if n.kind = 3 then decide (n.type_ = -1) && (decide (n.name = ByteArray.empty) && (decide (0 ≤ n.index) && decide (n.index < 300)))
 else if n.kind = 4 then decide (n.type_ = -1) && (decide (n.name = ByteArray.empty) && decide (n.index = 0))
 else decide (n.index = 0) && (decide (0 ≤ n.type_) && (decide (n.type_ < nt) && cname n.name))
def fineM (n : MN) (k nt : Int) : Bool :=
 (match arity n.kind with | some r => decide ((n.sub.length : Int) = r) | none => false) && (blw n.sub k && fineK n nt)
theorem hash_fine_j1_eq (r : Int) (b : Bool) (n : MN) (k nt : Int) (t7 : Bool) (h7 : t7 = decide (¬ n.kind = 3 ∧ ¬ n.kind = 4)) (h : n.name.size ≤ big) :
  hash_fine_j1 r b n k nt t7 = some (b && (decide ((n.sub.length : Int) = r) && (blw n.sub k && fineK n nt))) := by
 unfold hash_fine_j1
 simp only [intDs_i64_len, hash_below_eq, bs]
 cases b with
 | false => simp
 | true =>
  rw [if_pos rfl]
  by_cases h1 : (n.sub.length : Int) = r
  ·rw [if_neg (by simp [h1])]
   by_cases h2 : blw n.sub k = true
   ·rw [if_pos h2]
    simp only [h1, h2, decide_true, Bool.true_and]
    by_cases h3 : n.kind = 3
    ·rw [if_pos h3]
     simp only [fineK, h3, if_true]
     by_cases g1 : n.type_ = -1 <;> by_cases g2 : n.name = ByteArray.empty <;> by_cases g3 : 0 ≤ n.index <;> simp [g1, g2, g3]
    ·rw [if_neg h3]
     by_cases h4 : n.kind = 4
     ·rw [if_neg (by simp [h7, h4])]
      simp only [fineK, h3, h4, if_true, if_false]
      by_cases g1 : n.type_ = -1 <;> by_cases g2 : n.name = ByteArray.empty <;> simp [g1, g2]
     ·obtain ⟨t, ht⟩ := terms_VarB n.name h
      rw [if_pos (by simp [h7, h3, h4]), types_Bool_eq, bs, ht, bs]
      simp only [fineK, h3, h4, if_false, hash_fine_j2]
      by_cases g1 : n.index = 0 <;> by_cases g2 : 0 ≤ n.type_ <;> by_cases g3 : n.type_ < nt <;> simp [g1, g2, g3]
   ·rw [if_neg h2]; simp [h2]
  ·rw [if_pos h1]; simp [h1]
theorem hash_fine_eq (n : MN) (k nt : Int) (h : n.name.size ≤ big) : hash_fine n k nt = some (fineM n k nt) := by
 have key : ∀ t7 : Bool, t7 = decide (¬ n.kind = 3 ∧ ¬ n.kind = 4) → hash_fine_j0 t7 n k nt = some (fineM n k nt) := fun t7 h7 => by
  unfold hash_fine_j0
  simp only [bs]
  have hm : mget (mput (mput (mput (mput (mput ([] : List (Int × Int)) 1 0) 2 0) 3 0) 4 2) 5 1) n.kind = arity n.kind := by
   simp [mput, mget, arity]
  rw [hm, fineM]
  cases ha : arity n.kind with
  | none => simp only []; rw [hash_fine_j1_eq _ _ _ _ _ _ h7 h]; simp
  | some r => simp only []; rw [hash_fine_j1_eq _ _ _ _ _ _ h7 h]; simp
 unfold hash_fine
 by_cases h3 : n.kind = 3
 ·rw [if_neg (by simp [h3])]; exact key _ (by simp [h3])
 ·rw [if_pos h3]
  by_cases h4 : n.kind = 4
  ·rw [if_neg (by simp [h4])]; exact key _ (by simp [h4])
  ·rw [if_pos h4]; exact key _ (by simp [h3, h4])
def openM (nt : Int) : List MN → List MN → Bool
 | pre, [] => true
 | pre, n :: r => fineM n pre.length nt && ((idxK keyM pre (keyM n)).isNone && openM nt (pre ++ [n]) r)
theorem open_l (a0 : AStore) (v4 : Bool × List TN × List MN × List (HTK × Int) × List (HMK × Int)) : ∀ (rest pre : List MN), (∀ n ∈ rest, n.name.size ≤ big) →
  hash_open_o_io_l0 rest pre.length (mapOf keyM 0 pre) a0 v4 = some (if openM a0.types.length pre rest = true then .inr (.inr (v4.2.1, v4.2.2.1, v4.2.2.2.1, mapOf keyM 0 (pre ++ rest))) else .inr (.inl ()))
 | [], pre, hb => by rw [hash_open_o_io_l0_eq]; simp [openM]
 | n :: r, pre, hb => by
  have ih := open_l a0 v4 r (pre ++ [n]) (fun q hq => hb q (by simp [hq]))
  rw [hash_open_o_io_l0_eq]
  simp only [YN.Ds_len]
  rw [hash_fine_eq n _ _ (hb n (by simp)), bs]
  by_cases hf : fineM n pre.length a0.types.length = true
  ·rw [if_pos hf, hash_keyTerm_eq, bs, mget_mapOf]
   cases hi : idxK keyM pre (keyM n) with
   | some i => simp [openM, hi]
   | none =>
    simp only [Option.map_none, bs, mput_mapOf keyM pre n hi]
    rw [List.length_append] at ih
    refine Eq.trans ih ?_
    simp [openM, hi, hf]
  ·rw [if_neg hf]
   simp [openM, hf]
/-! ### copies of stores -/
theorem clone_eq (xs : List Int) (h : xs.length < 4294967296) : slices_Clone_int_int_o xs = some xs := by
 unfold slices_Clone_int_int_o
 rw [app_ok (by simpa using h), bs, bs]
 by_cases hx : xs = []
 ·subst hx; rfl
 ·rw [if_neg hx]; rfl
structure AStore.thin (a : AStore) : Prop where
 nt : a.types.length ≤ 4200
 nm : a.terms.length ≤ 4200
 at_ : ∀ n ∈ a.types, n.name.size ≤ big ∧ n.args.length ≤ 20
 am : ∀ n ∈ a.terms, n.name.size ≤ big ∧ n.sub.length ≤ 20
theorem Twin_l1 (c : List TN) : ∀ (rest acc : List MN), (∀ n ∈ rest, n.sub.length ≤ 20) → acc.length + rest.length ≤ lim → hash_Twin_o_io_l1 rest acc c = some (c, acc ++ rest)
 | [], acc, h, hl => by rw [hash_Twin_o_io_l1_eq]; simp
 | n :: r, acc, h, hl => by
  simp only [List.length_cons, lim] at hl
  have := h n (by simp)
  rw [hash_Twin_o_io_l1_eq]; simp only []
  rw [clone_eq _ (by omega), bs, app_ok (by simp; omega), bs, Twin_l1 c r _ (fun q hq => h q (by simp [hq])) (by simp [lim]; omega)]
  simp
theorem Twin_l0 (a : AStore) (hm : ∀ n ∈ a.terms, n.sub.length ≤ 20) (hn : a.terms.length ≤ lim) : ∀ (rest acc : List TN), (∀ n ∈ rest, n.args.length ≤ 20) → acc.length + rest.length ≤ lim → hash_Twin_o_io_l0 rest acc a = some (acc ++ rest, a.terms)
 | [], acc, h, hl => by
  rw [hash_Twin_o_io_l0_eq]; simp only []
  rw [hash_Twin_o_io_j0, Twin_l1 _ _ _ hm (by simpa using hn)]; simp
 | n :: r, acc, h, hl => by
  simp only [List.length_cons, lim] at hl
  have := h n (by simp)
  rw [hash_Twin_o_io_l0_eq]; simp only []
  rw [clone_eq _ (by omega), bs, app_ok (by simp; omega), bs, Twin_l0 a hm hn r _ (fun q hq => h q (by simp [hq])) (by simp [lim]; omega)]
  simp
theorem Twin_store (a : AStore) (h : a.thin) : hash_Twin_o_io a = some (a.types, a.terms) := by
 have h1 := h.nt
 have h2 := h.nm
 rw [hash_Twin_o_io, Twin_l0 a (fun n hn => (h.am n hn).2) (by simp [lim]; omega) _ _ (fun n hn => (h.at_ n hn).2) (by simp [lim]; omega)]
 simp
/-- a store that is not too great and is valid -/
def AStore.few (a : AStore) : Bool := decide (a.types.length ≤ 4096) && decide (a.terms.length ≤ 4096)
def AStore.wf (a : AStore) : Bool := openT [] [] a.types && openM a.types.length [] a.terms
theorem open_eq (a : AStore) (h : a.thin) : hash_open_o_io a = some (if a.few = true then (if a.wf = true then .inr (.inr (a.types, a.terms, mapOf keyT 0 a.types, mapOf keyM 0 a.terms)) else .inr (.inl ())) else .inl ()) := by
 have h1 := h.nt
 have h2 := h.nm
 unfold hash_open_o_io
 simp only [YN.Ds_len, XN.Ds_len]
 by_cases g1 : a.types.length ≤ 4096
 ·rw [if_neg (show ¬ (4096 : Int) < (a.types.length : Int) by omega)]
  by_cases g2 : a.terms.length ≤ 4096
  ·rw [if_neg (show ¬ (4096 : Int) < (a.terms.length : Int) by omega), Twin_store a h, bs]
   have hf : a.few = true := by simp [AStore.few, g1, g2]
   rw [if_pos hf]
   obtain ⟨m', e1, e2⟩ := addTypes_l a.types a.terms ([] : List (HMK × Int)) a.types [] [] rfl (by simp [lim]; omega) (fun n hn => (h.at_ n hn).1)
   have e1 : hx_addTypes_o_io_l0 a.types 0 [] [] [] a.types a.terms [] = some (openT [] [] a.types, a.types, a.terms, m', []) := e1
   simp only [hx_addTypes_o_io]
   rw [e1, bs]
   simp only []
   by_cases ht : openT [] [] a.types = true
   ·rw [if_pos ht]
    have := open_l a (openT [] [] a.types, a.types, a.terms, m', []) a.terms [] (fun n hn => (h.am n hn).1)
    have this : hash_open_o_io_l0 a.terms 0 [] a (openT [] [] a.types, a.types, a.terms, m', []) = _ := this
    rw [this, e2 ht]
    simp [AStore.wf, ht]
   ·rw [if_neg ht]
    simp [AStore.wf, ht]
  ·rw [if_pos (show (4096 : Int) < (a.terms.length : Int) by omega), if_neg (by simp [AStore.few, g2])]
 ·rw [if_pos (show (4096 : Int) < (a.types.length : Int) by omega), if_neg (by simp [AStore.few, g1])]
end Go.Proofs.Ytemfpemejagndaa.Fw


namespace Go.Proofs.Ytemfpemejagndaa.Fw
open Go Go.Proofs

/-- nodes and the types that they stand for -/
inductive WT : List TN → List Ty → Prop
 | nil : WT [] []
 | snoc (ns : List TN) (tys : List Ty) (n : TN) : WT ns tys → okT tys n = true → idxK keyT ns (keyT n) = none → WT (ns ++ [n]) (tys ++ [nodeT tys n])
theorem openT_snoc (n : TN) : ∀ (ns pre : List TN) (tys : List Ty), openT pre tys (ns ++ [n]) = (openT pre tys ns && (okT (decT tys ns) n && (idxK keyT (pre ++ ns) (keyT n)).isNone))
 | [], pre, tys => by simp [openT, decT]
 | a :: r, pre, tys => by
  simp only [List.cons_append, openT, decT]
  rw [openT_snoc n r]
  simp [Bool.and_assoc]
theorem snoc_ind {α : Type} {p : List α → Prop} (h0 : p []) (h1 : ∀ l a, p l → p (l ++ [a])) (l : List α) : p l := by
 rw [← List.reverse_reverse l]
 induction l.reverse with
 | nil => exact h0
 | cons a r ih => rw [List.reverse_cons]; exact h1 _ _ ih
theorem WT.of {ns : List TN} : openT [] [] ns = true → WT ns (decT [] ns) := by
 induction ns using snoc_ind with
 | h0 => intro _; exact .nil
 | h1 l a ih =>
  intro h
  rw [openT_snoc, Bool.and_eq_true, Bool.and_eq_true] at h
  rw [decT_snoc]
  exact .snoc _ _ _ (ih h.1) h.2.1 (by simpa using h.2.2)
theorem WT.len {ns : List TN} {tys : List Ty} (h : WT ns tys) : tys.length = ns.length := by
 induction h with
 | nil => rfl
 | snoc ns tys n _ _ _ ih => simp [ih]
theorem getD_app {α : Type} (l e : List α) (z : α) {i : Nat} (h : i < l.length) : (l ++ e).getD i z = l.getD i z := by
 rw [List.getD_eq_getElem?_getD, List.getD_eq_getElem?_getD, List.getElem?_append_left h]
theorem nodeT_app {tys e : List Ty} {n : TN} (h : blw n.args tys.length = true) : nodeT (tys ++ e) n = nodeT tys n := by
 have hj := blw_iff.1 h
 simp only [nodeT, Ty.mk.injEq, true_and]
 exact List.map_congr_left fun j hq => getD_app _ _ _ (by have := hj j hq; omega)
structure okT' (tys : List Ty) (n : TN) : Prop where
 len : n.args.length ≤ 8
 var : n.var = true → n.args = []
 val : Ty.valid (.mk n.var n.name []) = true
 bel : blw n.args tys.length = true
 sz : (nodeT tys n).size ≤ 500
 dp : (nodeT tys n).depth ≤ 200
theorem okT_iff {tys : List Ty} {n : TN} : okT tys n = true ↔ okT' tys n := by
 simp only [okT, Bool.and_eq_true, Bool.or_eq_true, Bool.not_eq_true', decide_eq_true_eq]
 constructor
 ·rintro ⟨h1, h2, h3, h4, h5, h6⟩
  refine ⟨h1, fun hv => ?_, h3, h4, h5, h6⟩
  rcases h2 with h2 | h2
  ·rw [h2] at hv; cases hv
  ·exact List.length_eq_zero_iff.1 h2
 ·rintro ⟨h1, h2, h3, h4, h5, h6⟩
  refine ⟨h1, ?_, h3, h4, h5, h6⟩
  cases hv : n.var with
  | false => exact .inl rfl
  | true => right; rw [h2 hv]; rfl
theorem blw_mono {xs : List Int} {k k' : Nat} (h : blw xs k = true) (hk : k ≤ k') : blw xs k' = true :=
 blw_iff.2 fun j hj => by have := blw_iff.1 h j hj; omega
theorem snoc_get {α : Type} {l : List α} {a x : α} {i : Nat} (h : (l ++ [a])[i]? = some x) : (i < l.length ∧ l[i]? = some x) ∨ (i = l.length ∧ x = a) := by
 rcases Nat.lt_trichotomy i l.length with hi | hi | hi
 ·rw [List.getElem?_append_left hi] at h; exact .inl ⟨hi, h⟩
 ·subst hi; simp at h; exact .inr ⟨rfl, h.symm⟩
 ·rw [List.getElem?_append_right (by omega)] at h
  have : i - l.length ≠ 0 := by omega
  cases hd : i - l.length with
  | zero => omega
  | succ k => rw [hd] at h; simp at h
theorem WT.node {ns : List TN} {tys : List Ty} (h : WT ns tys) : ∀ {i : Nat} {n : TN}, ns[i]? = some n → tys[i]? = some (nodeT tys n) ∧ blw n.args i = true ∧ okT' tys n := by
 induction h with
 | nil => intro i n h; simp at h
 | snoc ns tys m hw hk hi ih =>
  intro i n h
  have hk := okT_iff.1 hk
  have hl := hw.len
  rcases snoc_get h with ⟨h1, h2⟩ | ⟨h1, h2⟩
  ·obtain ⟨g1, g2, g3⟩ := ih h2
   have gb : blw n.args tys.length = true := g3.bel
   have e := nodeT_app (e := [nodeT tys m]) gb
   refine ⟨by rw [List.getElem?_append_left (by omega), g1, e], g2, ?_⟩
   exact ⟨g3.len, g3.var, g3.val, blw_mono gb (by simp), by rw [e]; exact g3.sz, by rw [e]; exact g3.dp⟩
  ·subst h2; subst h1
   have e := nodeT_app (e := [nodeT tys n]) hk.bel
   refine ⟨by rw [← hl, e]; simp, by rw [← hl]; exact hk.bel, ?_⟩
   exact ⟨hk.len, hk.var, hk.val, blw_mono hk.bel (by simp), by rw [e]; exact hk.sz, by rw [e]; exact hk.dp⟩
theorem getD_ext {xs ys : List Int} (hl : xs.length = ys.length) (h : ∀ i, i < xs.length → xs.getD i 0 = ys.getD i 0) : xs = ys := by
 refine List.ext_getElem hl fun i h1 h2 => ?_
 have := h i h1
 rw [List.getD_eq_getElem?_getD, List.getD_eq_getElem?_getD, List.getElem?_eq_getElem h1, List.getElem?_eq_getElem h2] at this
 simpa using this
theorem keyT_inj {n m : TN} (hn : n.args.length ≤ 8) (hm : m.args.length ≤ 8) (h : keyT n = keyT m) : n = m := by
 obtain ⟨v, s, xs⟩ := n
 obtain ⟨v', s', ys⟩ := m
 simp only [keyT, HTK.mk.injEq, Arr8_i64.mk.injEq] at h hn hm
 obtain ⟨rfl, rfl, hl, h0, h1, h2, h3, h4, h5, h6, h7⟩ := h
 have : xs = ys := getD_ext (by omega) fun i hi => by
  have : i < 8 := by omega
  match i, this with
  | 0, _ => exact h0
  | 1, _ => exact h1
  | 2, _ => exact h2
  | 3, _ => exact h3
  | 4, _ => exact h4
  | 5, _ => exact h5
  | 6, _ => exact h6
  | 7, _ => exact h7
 rw [this]
/-- no two entries are equal -/
def Uniq {α : Type} (l : List α) : Prop := ∀ (i j : Nat) (x : α), l[i]? = some x → l[j]? = some x → i = j
theorem Uniq.snoc {α : Type} {l : List α} {a : α} (h : Uniq l) (ha : a ∉ l) : Uniq (l ++ [a]) := by
 intro i j x hi hj
 rcases snoc_get hi with ⟨h1, h2⟩ | ⟨h1, h2⟩ <;> rcases snoc_get hj with ⟨h3, h4⟩ | ⟨h3, h4⟩
 ·exact h i j x h2 h4
 ·subst h4; exact absurd (List.mem_of_getElem? h2) ha
 ·subst h2; exact absurd (List.mem_of_getElem? h4) ha
 ·omega
theorem map_getD_inj {α : Type} {l : List α} (hu : Uniq l) (z : α) {xs ys : List Int} (hx : blw xs l.length = true) (hy : blw ys l.length = true) (h : (xs.map fun j => l.getD j.toNat z) = ys.map fun j => l.getD j.toNat z) : xs = ys := by
 have hl : xs.length = ys.length := by simpa using congrArg List.length h
 refine List.ext_getElem hl fun i h1 h2 => ?_
 have e : l.getD (xs[i]).toNat z = l.getD (ys[i]).toNat z := by
  have := congrArg (fun q => q[i]?) h
  simpa [h1, h2] using this
 have a := blw_iff.1 hx _ (List.getElem_mem h1)
 have b := blw_iff.1 hy _ (List.getElem_mem h2)
 have a' : xs[i].toNat < l.length := by omega
 have b' : ys[i].toNat < l.length := by omega
 rw [List.getD_eq_getElem?_getD, List.getD_eq_getElem?_getD, List.getElem?_eq_getElem a', List.getElem?_eq_getElem b', Option.getD_some, Option.getD_some] at e
 have := hu _ _ _ (List.getElem?_eq_getElem a') (by rw [List.getElem?_eq_getElem b', e])
 omega
theorem nodeT_inj {tys : List Ty} (hu : Uniq tys) {n m : TN} (hn : blw n.args tys.length = true) (hm : blw m.args tys.length = true) (h : nodeT tys n = nodeT tys m) : n = m := by
 obtain ⟨v, s, xs⟩ := n
 obtain ⟨v', s', ys⟩ := m
 simp only [nodeT, Ty.mk.injEq] at h
 obtain ⟨rfl, rfl, h⟩ := h
 have e : xs = ys := map_getD_inj hu zTy hn hm h
 rw [e]
theorem WT.uniq {ns : List TN} {tys : List Ty} (h : WT ns tys) : Uniq tys := by
 induction h with
 | nil => intro i j x h; simp at h
 | snoc ns tys n hw hk hi ih =>
  refine ih.snoc fun hm => ?_
  obtain ⟨i, hi'⟩ := List.getElem?_of_mem hm
  have hlt : i < ns.length := by rw [← hw.len]; exact (List.getElem?_eq_some_iff.1 hi').1
  obtain ⟨g1, g2, g3⟩ := hw.node (List.getElem?_eq_getElem hlt)
  rw [hi'] at g1
  injection g1 with g1
  have := nodeT_inj ih (okT_iff.1 hk).bel g3.bel g1
  exact (idxK_none keyT).1 hi _ (List.getElem_mem hlt) (by rw [← this])
theorem WT.closed {ns : List TN} {tys : List Ty} (h : WT ns tys) {v : Bool} {s : ByteArray} {xs : List Ty} (hm : Ty.mk v s xs ∈ tys) : ∀ x ∈ xs, x ∈ tys := by
 obtain ⟨i, hi⟩ := List.getElem?_of_mem hm
 have hlt : i < ns.length := by rw [← h.len]; exact (List.getElem?_eq_some_iff.1 hi).1
 obtain ⟨g1, g2, g3⟩ := h.node (List.getElem?_eq_getElem hlt)
 rw [hi] at g1
 injection g1 with g1
 simp only [nodeT, Ty.mk.injEq] at g1
 obtain ⟨-, -, g1⟩ := g1
 intro x hx
 rw [g1] at hx
 obtain ⟨j, hj, rfl⟩ := List.mem_map.1 hx
 have := blw_iff.1 g3.bel j hj
 have hl : j.toNat < tys.length := by omega
 rw [List.getD_eq_getElem?_getD, List.getElem?_eq_getElem hl]
 exact List.getElem_mem hl
mutual
/-- a type and its parts -/
def Ty.parts : Ty → List Ty
 | .mk v n xs => .mk v n xs :: Ty.partss xs
def Ty.partss : List Ty → List Ty
 | [] => []
 | a :: r => a.parts ++ Ty.partss r
end
theorem valid_head {v : Bool} {n : ByteArray} {xs : List Ty} (h : Ty.shape (.mk v n xs) = true) : xs.length ≤ 8 ∧ (v = true → xs = []) ∧ Ty.valid (.mk v n []) = true ∧ Ty.shapes xs = true := by
 simp only [Ty.shape, Ty.head, Bool.and_eq_true, Bool.or_eq_true, Bool.not_eq_true', decide_eq_true_eq, beq_iff_eq] at h
 obtain ⟨⟨h1, h2, h3, h4⟩, h5⟩ := h
 refine ⟨h4, fun hv => ?_, ?_, h5⟩
 ·rcases h3 with h3 | h3
  ·rw [h3] at hv; cases hv
  ·exact List.length_eq_zero_iff.1 h3
 ·simp only [Ty.valid, Ty.small, Ty.size, Ty.sizes, Ty.depth, Ty.depths, Ty.shape, Ty.shapes, Ty.head, Bool.and_eq_true, Bool.or_eq_true, decide_eq_true_eq, beq_iff_eq]
  refine ⟨by simp, ⟨h1, h2, ?_, by simp⟩, trivial⟩
  cases v <;> simp
mutual
theorem addT_spec : ∀ (a : Ty) (ns : List TN) (tys : List Ty), WT ns tys → a.shape = true → a.size ≤ 500 → a.depth ≤ 200 →
  ∃ (i : Nat) (e : List TN) (e' : List Ty), addT a ns = ((i : Int), ns ++ e) ∧ WT (ns ++ e) (tys ++ e') ∧ (tys ++ e')[i]? = some a ∧ (∀ t ∈ e', t ∈ a.parts) ∧ (a ∈ tys → e = [])
 | .mk v n xs, ns, tys, hw, hs, hz, hd => by
  obtain ⟨h1, h2, h3, h4⟩ := valid_head hs
  obtain ⟨is, e, e', g1, g2, g3, g4, g5, g6⟩ := addTs_spec xs ns tys hw h4 (by simp only [Ty.size] at hz; omega) (by simp only [Ty.depth] at hd; omega)
  have hnode : nodeT (tys ++ e') (.mk v n is) = .mk v n xs := by simp only [nodeT]; rw [g4]
  have hlen : is.length = xs.length := by rw [← g4]; simp
  have hok : okT' (tys ++ e') (.mk v n is) := ⟨by simpa [hlen] using h1, fun hv => by
    have := h2 hv
    rw [this] at hlen
    exact List.length_eq_zero_iff.1 (by simpa using hlen), h3, g3, by rw [hnode]; exact hz, by rw [hnode]; exact hd⟩
  simp only [addT, g1]
  cases hi : idxK keyT (ns ++ e) (keyT (.mk v n is)) with
  | some j =>
   obtain ⟨m, hm1, hm2⟩ := idxK_some keyT hi
   obtain ⟨q1, q2, q3⟩ := g2.node hm1
   have : (YN.mk v n is) = m := keyT_inj hok.len q3.len hm2
   refine ⟨j, e, e', rfl, g2, by rw [q1, ← this, hnode], fun t ht => by simp only [Ty.parts]; exact List.mem_cons_of_mem _ (g5 t ht), fun ha => ?_⟩
   exact g6 (hw.closed ha)
  | none =>
   refine ⟨(ns ++ e).length, e ++ [.mk v n is], e' ++ [.mk v n xs], ?_, ?_, ?_, ?_, ?_⟩
   ·simp only [List.append_assoc]
   ·rw [← List.append_assoc, ← List.append_assoc, ← hnode]
    exact .snoc _ _ _ g2 (okT_iff.2 hok) hi
   ·rw [← List.append_assoc, ← g2.len]; simp
   ·intro t ht
    simp only [Ty.parts]
    rcases List.mem_append.1 ht with ht | ht
    ·exact List.mem_cons_of_mem _ (g5 t ht)
    ·simp at ht; rw [ht]; simp
   ·intro ha
    have he := g6 (hw.closed ha)
    exfalso
    -- the node is there
    obtain ⟨j, hj⟩ := List.getElem?_of_mem (List.mem_append_left e' ha)
    have hlt : j < (ns ++ e).length := by rw [← g2.len]; exact (List.getElem?_eq_some_iff.1 hj).1
    obtain ⟨q1, q2, q3⟩ := g2.node (List.getElem?_eq_getElem hlt)
    rw [hj, ← hnode] at q1
    injection q1 with q1
    have := nodeT_inj g2.uniq hok.bel q3.bel q1
    exact (idxK_none keyT).1 hi _ (List.getElem_mem hlt) (by rw [← this])
theorem addTs_spec : ∀ (xs : List Ty) (ns : List TN) (tys : List Ty), WT ns tys → Ty.shapes xs = true → Ty.sizes xs ≤ 500 → Ty.depths xs ≤ 200 →
  ∃ (is : List Int) (e : List TN) (e' : List Ty), addTs xs ns = (is, ns ++ e) ∧ WT (ns ++ e) (tys ++ e') ∧ blw is (tys ++ e').length = true ∧ (is.map fun j => (tys ++ e').getD j.toNat zTy) = xs ∧ (∀ t ∈ e', t ∈ Ty.partss xs) ∧ ((∀ x ∈ xs, x ∈ tys) → e = [])
 | [], ns, tys, hw, hs, hz, hd => ⟨[], [], [], by simp [addTs], by simpa using hw, rfl, rfl, by simp, fun _ => rfl⟩
 | a :: r, ns, tys, hw, hs, hz, hd => by
  simp only [Ty.shapes, Bool.and_eq_true] at hs
  simp only [Ty.sizes, Ty.depths] at hz hd
  obtain ⟨i, e, e', g1, g2, g3, g4, g5⟩ := addT_spec a ns tys hw hs.1 (by omega) (by omega)
  obtain ⟨is, f, f', k1, k2, k3, k4, k5, k6⟩ := addTs_spec r (ns ++ e) (tys ++ e') g2 hs.2 (by omega) (by omega)
  have hi := (List.getElem?_eq_some_iff.1 g3).1
  refine ⟨(i : Int) :: is, e ++ f, e' ++ f', ?_, by rw [← List.append_assoc, ← List.append_assoc]; exact k2, ?_, ?_, ?_, ?_⟩
  ·simp only [addTs, g1, k1, List.append_assoc]
  ·rw [← List.append_assoc]
   refine blw_iff.2 fun j hj => ?_
   rcases List.mem_cons.1 hj with rfl | hj
   ·simp only [List.length_append] at hi ⊢; omega
   ·exact blw_iff.1 k3 j hj
  ·rw [← List.append_assoc]
   simp only [List.map_cons, k4, List.cons.injEq, and_true, Int.toNat_natCast]
   rw [getD_app _ _ _ hi, List.getD_eq_getElem?_getD, g3]; rfl
  ·intro t ht
   simp only [Ty.partss]
   rcases List.mem_append.1 ht with ht | ht
   ·exact List.mem_append_left _ (g4 t ht)
   ·exact List.mem_append_right _ (k5 t ht)
  ·intro h
   have he := g5 (h a (by simp))
   subst he
   have hf := k6 fun x hx => List.mem_append_left _ (h x (by simp [hx]))
   rw [hf]; rfl
end
end Go.Proofs.Ytemfpemejagndaa.Fw

