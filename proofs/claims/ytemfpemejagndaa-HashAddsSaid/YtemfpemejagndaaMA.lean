/- Types and terms as data: what is plain mathematics. -/
import Derived.Test.YtemfpemejagndaaGData
import Derived.Test.YtemfpemejagndaaGFun
set_option autoImplicit false
set_option linter.unusedVariables false
set_option linter.unusedSimpArgs false
namespace Go.Proofs.Ytemfpemejagndaa.Fw
open Go Go.Proofs

def big : Nat := 9223372036854775807
mutual
def Ty.ok : Ty → Prop
 | .mk _ n xs => n.size ≤ big ∧ xs.length ≤ big ∧ Ty.oks xs
def Ty.oks : List Ty → Prop
 | [] => True
 | a :: r => a.ok ∧ Ty.oks r
end
theorem Ty.oks_mem : ∀ {xs : List Ty}, Ty.oks xs → ∀ x ∈ xs, x.ok
 | [], _, x, hx => by cases hx
 | a :: r, h, x, hx => by
  rcases List.mem_cons.1 hx with rfl | hx
  ·exact h.1
  ·exact Ty.oks_mem h.2 x hx
theorem Ty.ind {p : Ty → Prop} (h : ∀ v n xs, (∀ x ∈ xs, p x) → p (.mk v n xs)) : ∀ a, p a
 | .mk v n xs => h v n xs (go xs)
 where go : ∀ xs, ∀ x ∈ xs, p x
 | [], x, hx => by cases hx
 | a :: r, x, hx => (List.mem_cons.1 hx).elim (fun e => e ▸ Ty.ind h a) (go r x)
mutual
def Tm.ok : Tm → Prop
 | .mk k n t i xs => (0 ≤ k ∧ k ≤ 255) ∧ n.size ≤ big ∧ t.ok ∧ (-9223372036854775808 ≤ i ∧ i ≤ 9223372036854775807) ∧ xs.length ≤ big ∧ Tm.oks xs
def Tm.oks : List Tm → Prop
 | [] => True
 | a :: r => a.ok ∧ Tm.oks r
end
theorem Tm.ind {p : Tm → Prop} (h : ∀ k n t i xs, (∀ x ∈ xs, p x) → p (.mk k n t i xs)) : ∀ a, p a
 | .mk k n t i xs => h k n t i xs (go xs)
 where go : ∀ xs, ∀ x ∈ xs, p x
 | [], x, hx => by cases hx
 | a :: r, x, hx => (List.mem_cons.1 hx).elim (fun e => e ▸ Tm.ind h a) (go r x)
theorem fot (b : Bool) : b = false ∨ b = true := by cases b <;> simp
/-- what the printed functions are made of -/
theorem bs {α β : Type} (a : α) (f : α → Option β) : (some a >>= f) = f a := rfl
theorem wr {x : Int} (h : -9223372036854775808 ≤ x) (h' : x ≤ 9223372036854775807) : IntKind.i64.wrap x = x := wrap64 h h'
mutual
def Ty.count : Nat → Int → Ty → Int
 | 0, _, _ => 0
 | d + 1, left, .mk _ n xs => Ty.counts d (left - 1 - Int.tdiv n.size 100) xs
def Ty.counts : Nat → Int → List Ty → Int
 | _, left, [] => left
 | d, left, a :: r => if 0 < left then Ty.counts d (Ty.count d left a) r else left
end
theorem tdiv100 (n : Nat) : Int.tdiv n 100 = ((n / 100 : Nat) : Int) := rfl
theorem Ty.count_bd : ∀ (d : Nat) (left : Int) (a : Ty), a.ok → 0 < left → -100000000000000000 ≤ Ty.count d left a ∧ (Ty.count d left a ≤ left) := by
 intro d
 induction d with
 | zero => intro left a _ h; simp only [Ty.count]; omega
 | succ d ih =>
  rintro left ⟨v, n, xs⟩ ⟨hn, hl, hok⟩ h
  have key : ∀ (xs : List Ty) (l : Int), Ty.oks xs → -100000000000000000 ≤ l → -100000000000000000 ≤ Ty.counts d l xs ∧ Ty.counts d l xs ≤ l := by
   intro xs
   induction xs with
   | nil => intro l _ h; simp only [Ty.counts]; omega
   | cons a r ihr =>
    intro l ho h
    simp only [Ty.counts]
    split
    ·rename_i hp
     obtain ⟨k1, k2⟩ := ih l a ho.1 hp
     obtain ⟨k3, k4⟩ := ihr _ ho.2 k1
     omega
    ·omega
  simp only [Ty.count, tdiv100]
  simp only [big] at hn
  have := key xs (left - 1 - (n.size / 100 : Nat)) hok (by omega)
  omega
theorem Ty.counts_stop (d : Nat) (l : Int) (xs : List Ty) (h : ¬ 0 < l) : Ty.counts d l xs = l := by
 cases xs <;> simp [Ty.counts, h]
def Ty.great (a : Ty) : Bool := decide (Ty.count 500 1500 a ≤ 0)
mutual
def Ty.size : Ty → Nat
 | .mk _ _ xs => 1 + Ty.sizes xs
def Ty.sizes : List Ty → Nat
 | [] => 0
 | a :: r => a.size + Ty.sizes r
end
mutual
def Ty.depth : Ty → Nat
 | .mk _ _ xs => 1 + Ty.depths xs
def Ty.depths : List Ty → Nat
 | [] => 0
 | a :: r => max a.depth (Ty.depths r)
end
theorem Ty.size_pos (a : Ty) : 1 ≤ a.size := by obtain ⟨v, n, xs⟩ := a; simp only [Ty.size]; omega
theorem Ty.len_sizes : ∀ xs : List Ty, xs.length ≤ Ty.sizes xs
 | [] => Nat.le_refl _
 | a :: r => by have := Ty.len_sizes r; have := a.size_pos; simp only [Ty.sizes, List.length_cons]; omega
theorem Ty.size_mem : ∀ {xs : List Ty} {x : Ty}, x ∈ xs → x.size ≤ Ty.sizes xs
 | a :: r, x, h => by
  rcases List.mem_cons.1 h with rfl | h
  ·simp only [Ty.sizes]; omega
  ·have := Ty.size_mem h; simp only [Ty.sizes]; omega
mutual
theorem Ty.depth_size : ∀ a : Ty, a.depth ≤ a.size
 | .mk _ _ xs => by have := Ty.depths_sizes xs; simp only [Ty.depth, Ty.size]; omega
theorem Ty.depths_sizes : ∀ xs : List Ty, Ty.depths xs ≤ Ty.sizes xs
 | [] => Nat.le_refl _
 | a :: r => by have := a.depth_size; have := Ty.depths_sizes r; simp only [Ty.depths, Ty.sizes]; omega
end
def lim : Nat := 1000000000
def Ty.small (a : Ty) : Bool := decide (a.size ≤ 500) && decide (a.depth ≤ 200)
def nmBad (c : UInt8) : Bool := decide ((c.toNat : Int) < 33) || decide (126 < (c.toNat : Int)) || decide ((c.toNat : Int) = 40) || decide ((c.toNat : Int) = 41) || decide ((c.toNat : Int) = 44) || decide ((c.toNat : Int) = 58) || decide ((c.toNat : Int) = 92) || decide ((c.toNat : Int) = 46) || decide ((c.toNat : Int) = 34)
def Name (s : ByteArray) : Bool := decide (1 ≤ s.size) && (decide (s.size ≤ 30) && s.data.toList.all fun c => !nmBad c)
theorem bget (s : ByteArray) (i : Nat) (h : i < s.data.toList.length) : s[i]? = some s.data.toList[i] := by
 have h1 : i < s.size := by simpa using h
 rw [getElem?_pos s i h1]
 rfl
def Ty.head (v : Bool) (n : ByteArray) (k : Nat) : Bool := Name n && ((v == decide (n.data.toList[0]? = some 39)) && ((!v || decide (k = 0)) && decide (k ≤ 8)))
mutual
def Ty.shape : Ty → Bool
 | .mk v n xs => Ty.head v n xs.length && Ty.shapes xs
def Ty.shapes : List Ty → Bool
 | [] => true
 | a :: r => a.shape && Ty.shapes r
end
theorem b39 (c : UInt8) : ((c.toNat : Int) = 39) ↔ c = 39 := by
 constructor
 ·intro h
  have : c.toNat = 39 := by omega
  exact UInt8.toNat_inj.1 (by simpa using this)
 ·rintro rfl; rfl
def Ty.valid (a : Ty) : Bool := a.small && a.shape
def Ty.hd (v : Bool) (n : ByteArray) (k : Nat) (v' : Bool) (n' : ByteArray) (k' : Nat) : Int :=
 if v ≠ v' then (if v then -1 else 1) else if ¬ n = n' then (if Op.bytesLess n.toList n'.toList = true then -1 else 1) else if ¬ (k : Int) = k' then (if (k : Int) < k' then -1 else 1) else 0
mutual
def Ty.cmp : Ty → Ty → Int
 | .mk v n xs, .mk v' n' bs => if Ty.hd v n xs.length v' n' bs.length ≠ 0 then Ty.hd v n xs.length v' n' bs.length else Ty.cmps xs bs
def Ty.cmps : List Ty → List Ty → Int
 | a :: r, b :: q => if Ty.cmp a b ≠ 0 then Ty.cmp a b else Ty.cmps r q
 | _, _ => 0
end
mutual
theorem Ty.cmp_zero : ∀ a b : Ty, Ty.cmp a b = 0 ↔ a = b
 | .mk v n xs, .mk v' n' bs => by
  have hs := Ty.cmps_zero xs bs
  constructor
  ·intro h
   by_cases hh : Ty.hd v n xs.length v' n' bs.length = 0
   ·simp only [Ty.cmp, hh, ne_eq, not_true, if_false] at h
    simp only [Ty.hd] at hh
    split at hh
    ·split at hh <;> cases hh
    ·rename_i h1
     split at hh
     ·split at hh <;> cases hh
     ·rename_i h2
      split at hh
      ·split at hh <;> cases hh
      ·rename_i h3
       have h1 := Decidable.not_not.1 h1
       have h2 := Decidable.not_not.1 h2
       have h3 := Decidable.not_not.1 h3
       rw [h1, h2, (hs (by omega)).1 h]
   ·simp only [Ty.cmp, ne_eq, hh, not_false_iff, if_true] at h
  ·intro h
   injection h with h1 h2 h3
   subst h1; subst h2; subst h3
   simp [Ty.cmp, Ty.hd, (hs rfl).2 rfl]
theorem Ty.cmps_zero : ∀ xs bs : List Ty, xs.length = bs.length → (Ty.cmps xs bs = 0 ↔ xs = bs)
 | [], [], _ => by simp [Ty.cmps]
 | a :: r, b :: q, h => by
  have h1 := Ty.cmp_zero a b
  have h2 := Ty.cmps_zero r q (by simpa using h)
  simp only [Ty.cmps]
  by_cases hc : Ty.cmp a b = 0
  ·simp only [hc, ne_eq, not_true, if_false]
   rw [h2, h1.1 hc]
   simp
  ·simp only [ne_eq, hc, not_false_iff, if_true]
   constructor
   ·intro h; exact h.elim
   ·intro h; injection h with e1 e2; exact absurd (h1.2 e1) hc
 | [], _ :: _, h => by simp at h
 | _ :: _, [], h => by simp at h
end
def Ty.beq (a b : Ty) : Bool := decide (Ty.cmp a b = 0)
def bFun : ByteArray := ⟨#[102, 117, 110]⟩
def bBool : ByteArray := ⟨#[98, 111, 111, 108]⟩
def Ty.fn (a b : Ty) : Ty := .mk false bFun [a, b]
def Ty.bool : Ty := .mk false bBool []
def zTy : Ty := .mk false ByteArray.empty []
def icmp (a b : Int) : Int := if a < b then -1 else if b < a then 1 else 0
def ors : List Int → Int
 | [] => 0
 | a :: r => if a ≠ 0 then a else ors r
theorem Ty.hd_eq (v : Bool) (n : ByteArray) (k : Nat) (v' : Bool) (n' : ByteArray) (k' : Nat) :
  ors [icmp (if v then 0 else 1) (if v' then 0 else 1), bcmp n n', icmp k k'] = Ty.hd v n k v' n' k' := by
 by_cases h1 : v = v'
 ·subst h1
  have : icmp (if v then 0 else 1) (if v then 0 else 1) = 0 := by cases v <;> rfl
  rw [this]
  by_cases h2 : n = n'
  ·subst h2
   rw [(bcmp_zero n n).2 rfl]
   by_cases h3 : k = k'
   ·subst h3; simp [ors, icmp, Ty.hd]
   ·have h3' : ¬ (k : Int) = k' := by omega
    by_cases h4 : (k : Int) < k'
    ·simp [ors, icmp, Ty.hd, h3', h4]
    ·have h5 : (k' : Int) < k := by omega
     simp [ors, icmp, Ty.hd]; simp at h4 h5; simp [h5, h3]; omega
  ·have hz : bcmp n n' ≠ 0 := fun e => h2 ((bcmp_zero n n').1 e)
   simp only [ors, ne_eq, not_true, if_false, hz, not_false_iff, if_true, Ty.hd, h2]
   exact bcmp_less n n' h2
 ·cases v <;> cases v' <;> simp_all [ors, icmp, Ty.hd]
theorem name_empty (s : ByteArray) : s = ByteArray.empty ↔ s.size = 0 := by
 constructor
 ·rintro rfl; rfl
 ·intro h
  have := bsize s
  rw [h] at this
  have h2 : s.data.toList = [] := List.length_eq_zero_iff.1 this.symm
  cases s with | mk d => cases d with | mk l => simp at h2; subst h2; rfl
def tvar (s : ByteArray) : Bool := Name s && decide (s.data.toList[0]? = some 39)
def tcheck (a : Ty) : Int := if a.valid then 0 else 10
theorem Ty.count_size : ∀ (d : Nat) (left : Int) (a : Ty), 0 < Ty.count d left a → (a.size : Int) + Ty.count d left a ≤ left ∧ a.depth ≤ d := by
 intro d
 induction d with
 | zero => intro left a h; simp only [Ty.count] at h; omega
 | succ d ih =>
  rintro left ⟨v, n, xs⟩ h
  have key : ∀ (xs : List Ty) (l : Int), 0 < Ty.counts d l xs → (Ty.sizes xs : Int) + Ty.counts d l xs ≤ l ∧ Ty.depths xs ≤ d := by
   intro xs
   induction xs with
   | nil => intro l h; simp only [Ty.counts, Ty.sizes, Ty.depths] at h ⊢; omega
   | cons a r ihr =>
    intro l h
    simp only [Ty.counts] at h ⊢
    split at h
    ·rename_i hp
     rw [if_pos hp]
     have hc : 0 < Ty.count d l a := by
      by_cases hc : 0 < Ty.count d l a
      ·exact hc
      ·rw [Ty.counts_stop d _ r hc] at h; exact absurd h hc
     obtain ⟨k1, k2⟩ := ih l a hc
     obtain ⟨k3, k4⟩ := ihr _ h
     simp only [Ty.sizes, Ty.depths]
     omega
    ·omega
  simp only [Ty.count, tdiv100] at h ⊢
  obtain ⟨k1, k2⟩ := key xs _ h
  simp only [Ty.size, Ty.depth]
  omega
theorem Ty.great_size (a : Ty) (h : a.great = false) : a.size ≤ 1500 ∧ a.depth ≤ 500 := by
 simp only [Ty.great, decide_eq_false_iff_not] at h
 obtain ⟨h1, h2⟩ := Ty.count_size 500 1500 a (by omega)
 omega
mutual
def Tm.count : Nat → Int → Tm → Int
 | 0, _, _ => 0
 | d + 1, left, .mk _ n t _ xs => if t.great then 0 else Tm.counts d (left - 1 - Int.tdiv n.size 100) xs
def Tm.counts : Nat → Int → List Tm → Int
 | _, left, [] => left
 | d, left, a :: r => if 0 < left then Tm.counts d (Tm.count d left a) r else left
end
theorem Tm.counts_stop (d : Nat) (l : Int) (xs : List Tm) (h : ¬ 0 < l) : Tm.counts d l xs = l := by
 cases xs <;> simp [Tm.counts, h]
theorem Tm.count_bd : ∀ (d : Nat) (left : Int) (a : Tm), a.ok → 0 < left → -100000000000000000 ≤ Tm.count d left a ∧ (Tm.count d left a ≤ left) := by
 intro d
 induction d with
 | zero => intro left a _ h; simp only [Tm.count]; omega
 | succ d ih =>
  rintro left ⟨k, n, t, i, xs⟩ ⟨hk, hn, ht, hi, hl, hok⟩ h
  have key : ∀ (xs : List Tm) (l : Int), Tm.oks xs → -100000000000000000 ≤ l → -100000000000000000 ≤ Tm.counts d l xs ∧ Tm.counts d l xs ≤ l := by
   intro xs
   induction xs with
   | nil => intro l _ h; simp only [Tm.counts]; omega
   | cons a r ihr =>
    intro l ho h
    simp only [Tm.counts]
    split
    ·rename_i hp
     obtain ⟨k1, k2⟩ := ih l a ho.1 hp
     obtain ⟨k3, k4⟩ := ihr _ ho.2 k1
     omega
    ·omega
  simp only [Tm.count, tdiv100]
  simp only [big] at hn
  have := key xs (left - 1 - (n.size / 100 : Nat)) hok (by omega)
  split <;> omega
mutual
def Tm.size : Tm → Nat
 | .mk _ _ _ _ xs => 1 + Tm.sizes xs
def Tm.sizes : List Tm → Nat
 | [] => 0
 | a :: r => a.size + Tm.sizes r
end
mutual
def Tm.depth : Tm → Nat
 | .mk _ _ _ _ xs => 1 + Tm.depths xs
def Tm.depths : List Tm → Nat
 | [] => 0
 | a :: r => max a.depth (Tm.depths r)
end
theorem Tm.size_pos (a : Tm) : 1 ≤ a.size := by obtain ⟨k, n, t, i, xs⟩ := a; simp only [Tm.size]; omega
theorem Tm.len_sizes : ∀ xs : List Tm, xs.length ≤ Tm.sizes xs
 | [] => Nat.le_refl _
 | a :: r => by have := Tm.len_sizes r; have := a.size_pos; simp only [Tm.sizes, List.length_cons]; omega
theorem Tm.size_mem : ∀ {xs : List Tm} {x : Tm}, x ∈ xs → x.size ≤ Tm.sizes xs
 | a :: r, x, h => by
  rcases List.mem_cons.1 h with rfl | h
  ·simp only [Tm.sizes]; omega
  ·have := Tm.size_mem h; simp only [Tm.sizes]; omega
mutual
theorem Tm.depth_size : ∀ a : Tm, a.depth ≤ a.size
 | .mk _ _ _ _ xs => by have := Tm.depths_sizes xs; simp only [Tm.depth, Tm.size]; omega
theorem Tm.depths_sizes : ∀ xs : List Tm, Tm.depths xs ≤ Tm.sizes xs
 | [] => Nat.le_refl _
 | a :: r => by have := a.depth_size; have := Tm.depths_sizes r; simp only [Tm.depths, Tm.sizes]; omega
end
def Tm.small (a : Tm) : Bool := decide (a.size ≤ 32000) && decide (a.depth ≤ 300)
theorem Tm.count_size : ∀ (d : Nat) (left : Int) (a : Tm), 0 < Tm.count d left a → (a.size : Int) + Tm.count d left a ≤ left ∧ a.depth ≤ d := by
 intro d
 induction d with
 | zero => intro left a h; simp only [Tm.count] at h; omega
 | succ d ih =>
  rintro left ⟨k, n, t, i, xs⟩ h
  have key : ∀ (xs : List Tm) (l : Int), 0 < Tm.counts d l xs → (Tm.sizes xs : Int) + Tm.counts d l xs ≤ l ∧ Tm.depths xs ≤ d := by
   intro xs
   induction xs with
   | nil => intro l h; simp only [Tm.counts, Tm.sizes, Tm.depths] at h ⊢; omega
   | cons a r ihr =>
    intro l h
    simp only [Tm.counts] at h ⊢
    split at h
    ·rename_i hp
     rw [if_pos hp]
     have hc : 0 < Tm.count d l a := by
      by_cases hc : 0 < Tm.count d l a
      ·exact hc
      ·rw [Tm.counts_stop d _ r hc] at h; exact absurd h hc
     obtain ⟨k1, k2⟩ := ih l a hc
     obtain ⟨k3, k4⟩ := ihr _ h
     simp only [Tm.sizes, Tm.depths]
     omega
    ·omega
  simp only [Tm.count, tdiv100] at h ⊢
  split at h
  ·omega
  ·rename_i hg
   rw [if_neg hg]
   obtain ⟨k1, k2⟩ := key xs _ h
   simp only [Tm.size, Tm.depth]
   omega
def Tm.great (a : Tm) : Bool := !decide (0 < Tm.count 400 2000 a) && (decide (Tm.count 400 40000 a ≤ 0) || a.small)
def tlim : Nat := 100000
mutual
def Tm.tys : Tm → Prop
 | .mk _ _ t _ xs => t.size ≤ tlim ∧ Tm.tyss xs
def Tm.tyss : List Tm → Prop
 | [] => True
 | a :: r => a.tys ∧ Tm.tyss r
end
def cname (s : ByteArray) : Bool := Name s && !decide (s.data.toList[0]? = some 39)
def Ty.none (a : Ty) : Bool := match a with | .mk v n xs => !v && (decide (n = ByteArray.empty) && decide (xs.length = 0))
def appT (f x : Ty) : Option Ty := match f with
 | .mk false n [a, b] => if n = bFun ∧ Ty.beq a x = true then some b else none
 | _ => none
mutual
/-- the type of a term under those of the enclosing abstractions -/
def Tm.formed : List Ty → Tm → Ty × Bool
 | l, .mk k n t i xs =>
  if k = 1 ∨ k = 2 then (t, cname n && (t.valid && (decide (i = 0) && decide (xs.length = 0))))
  else if k = 3 then (if n = ByteArray.empty ∧ t.none = true ∧ xs.length = 0 ∧ 0 ≤ i ∧ i < l.length then (l.getD i.toNat zTy, true) else (zTy, false))
  else if k = 4 then (if n = ByteArray.empty ∧ t.none = true ∧ i = 0 ∧ xs.length = 2 then
    (match Tm.formeds l xs with
    | [a, b] => if a.2 = true ∧ b.2 = true then (match appT a.1 b.1 with | some u => (u, true) | none => (zTy, false)) else (zTy, false)
    | _ => (zTy, false)) else (zTy, false))
  else if k = 5 then (if cname n = true ∧ t.valid = true ∧ i = 0 ∧ xs.length = 1 then
    (match Tm.formeds (t :: l) xs with
    | [b] => (Ty.fn t b.1, b.2 && (Ty.fn t b.1).valid)
    | _ => (zTy, false)) else (zTy, false))
  else (zTy, false)
def Tm.formeds : List Ty → List Tm → List (Ty × Bool)
 | _, [] => []
 | l, a :: r => Tm.formed l a :: Tm.formeds l r
end
theorem Ty.zTy_size : zTy.size = 1 := rfl
theorem appT_size {f x u : Ty} (h : appT f x = some u) : u.size < f.size := by
 unfold appT at h
 split at h
 ·rename_i n a b
  split at h
  ·injection h with h; subst h; simp only [Ty.size, Ty.sizes]; omega
  ·cases h
 ·cases h
/-- how large a term's type may be -/
theorem Tm.formed_size : ∀ (a : Tm), a.tys → ∀ (l : List Ty) (M : Nat), tlim ≤ M → (∀ x ∈ l, x.size ≤ M) → (Tm.formed l a).1.size ≤ M + (tlim + 1) * a.depth := by
 refine Tm.ind fun k n t i xs ih => ?_
 rintro ⟨ht, htys⟩ l M hM hl
 have h1t : 1 ≤ tlim := by decide
 have hz : zTy.size ≤ M + (tlim + 1) * (Tm.mk k n t i xs).depth := by rw [Ty.zTy_size]; omega
 simp only [Tm.formed]
 split
 ·exact Nat.le_trans (Nat.le_trans ht hM) (Nat.le_add_right _ _)
 ·split
  ·split
   ·rename_i h
    obtain ⟨_, _, _, h4, h5⟩ := h
    have : i.toNat < l.length := by omega
    refine Nat.le_trans (hl _ ?_) (Nat.le_add_right _ _)
    rw [List.getD_eq_getElem?_getD, List.getElem?_eq_getElem this]
    exact List.getElem_mem this
   ·exact hz
  ·split
   ·split
    ·rename_i h
     obtain ⟨_, _, _, h4⟩ := h
     match xs, h4 with
     | [f, x], _ =>
      simp only [Tm.formeds]
      split
      ·split
       ·rename_i u hu
        have h1 := appT_size hu
        have h2 := ih f (by simp) htys.1 l M hM hl
        have h3 : f.depth ≤ (Tm.mk k n t i [f, x]).depth := by simp only [Tm.depth, Tm.depths]; omega
        have h4 := Nat.mul_le_mul_left (tlim + 1) h3
        simp only
        omega
       ·exact hz
      ·exact hz
    ·exact hz
   ·split
    ·split
     ·rename_i h
      obtain ⟨_, _, _, h4⟩ := h
      match xs, h4 with
      | [b], _ =>
       simp only [Tm.formeds]
       have h2 := ih b (by simp) htys.1 (t :: l) M hM (fun x hx => by
        rcases List.mem_cons.1 hx with rfl | hx
        ·omega
        ·exact hl x hx)
       have h3 : (Tm.mk k n t i [b]).depth = 1 + b.depth := by simp only [Tm.depth, Tm.depths]; omega
       rw [h3, Nat.mul_add, Nat.mul_one]
       simp only [Ty.fn, Ty.size, Ty.sizes]
       omega
     ·exact hz
    ·exact hz
theorem Ty.fn_ok {t u : Ty} (h : t.ok) (k : u.ok) : (Ty.fn t u).ok := ⟨by decide, (by decide : 2 ≤ big), h, k, trivial⟩
theorem zTy_ok : zTy.ok := ⟨by decide, by decide, trivial⟩
theorem appT_ok {f x u : Ty} (hf : f.ok) (h : appT f x = some u) : u.ok := by
 unfold appT at h
 split at h
 ·rename_i n a b
  split at h
  ·injection h with h; subst h; exact hf.2.2.2.1
  ·cases h
 ·cases h
theorem Tm.formed_ok : ∀ (a : Tm), a.ok → ∀ (l : List Ty), (∀ x ∈ l, x.ok) → (Tm.formed l a).1.ok := by
 refine Tm.ind fun k n t i xs ih => ?_
 rintro ⟨_, _, ht, _, _, hoks⟩ l hl
 simp only [Tm.formed]
 split
 ·exact ht
 ·split
  ·split
   ·rename_i h
    obtain ⟨_, _, _, h4, h5⟩ := h
    have : i.toNat < l.length := by omega
    refine hl _ ?_
    rw [List.getD_eq_getElem?_getD, List.getElem?_eq_getElem this]
    exact List.getElem_mem this
   ·exact zTy_ok
  ·split
   ·split
    ·rename_i h
     obtain ⟨_, _, _, h4⟩ := h
     match xs, h4 with
     | [f, x], _ =>
      simp only [Tm.formeds]
      split
      ·split
       ·rename_i u hu
        exact appT_ok (ih f (by simp) hoks.1 l hl) hu
       ·exact zTy_ok
      ·exact zTy_ok
    ·exact zTy_ok
   ·split
    ·split
     ·rename_i h
      obtain ⟨_, _, _, h4⟩ := h
      match xs, h4 with
      | [b], _ =>
       simp only [Tm.formeds]
       exact Ty.fn_ok ht (ih b (by simp) hoks.1 (t :: l) fun x hx => by
        rcases List.mem_cons.1 hx with rfl | hx
        ·exact ht
        ·exact hl x hx)
     ·exact zTy_ok
    ·exact zTy_ok
def Tm.check (a : Tm) : Int := if a.small = false then 21 else if (Tm.formed [] a).2 = false then 20 else 0
def zTm : Tm := .mk 0 ByteArray.empty zTy 0 []
theorem check_leaf (s : ByteArray) : tcheck (.mk false s []) = if cname s = true then 0 else 10 := by
 have : (Ty.mk false s []).valid = cname s := by
  simp [Ty.valid, Ty.small, Ty.size, Ty.sizes, Ty.depth, Ty.depths, Ty.shape, Ty.shapes, Ty.head, cname]
 simp [tcheck, this]
mutual
/-- the type of a term under those of the enclosing abstractions, the innermost last -/
def Tm.pform : List Ty → Tm → Ty × Bool
 | l, .mk k n t i xs =>
  if k = 1 ∨ k = 2 then (t, decide (i = 0) && (cname n && (decide (xs.length = 0) && t.valid)))
  else if k = 3 then (if n = ByteArray.empty ∧ t.none = true ∧ xs.length = 0 ∧ 0 ≤ i ∧ i < l.length then (l.getD (l.length - 1 - i.toNat) zTy, true) else (zTy, false))
  else if k = 4 then (if n = ByteArray.empty ∧ t.none = true ∧ i = 0 ∧ xs.length = 2 then
    (match Tm.pforms l xs with
    | [a, b] => if a.2 = true ∧ b.2 = true then (match appT a.1 b.1 with | some u => (u, true) | none => (zTy, false)) else (zTy, false)
    | _ => (zTy, false)) else (zTy, false))
  else if k = 5 then (if cname n = true ∧ t.valid = true ∧ i = 0 ∧ xs.length = 1 then
    (match Tm.pforms (l ++ [t]) xs with
    | [b] => if b.2 = true then (Ty.fn t b.1, (Ty.fn t b.1).valid) else (zTy, false)
    | _ => (zTy, false)) else (zTy, false))
  else (zTy, false)
def Tm.pforms : List Ty → List Tm → List (Ty × Bool)
 | _, [] => []
 | l, a :: r => Tm.pform l a :: Tm.pforms l r
end
theorem Tm.pform_formed : ∀ (a : Tm) (l : List Ty), (Tm.pform l a).2 = (Tm.formed l.reverse a).2 ∧ ((Tm.pform l a).2 = true → (Tm.pform l a).1 = (Tm.formed l.reverse a).1) := by
 refine Tm.ind fun k n t i xs ih => ?_
 intro l
 simp only [Tm.pform, Tm.formed]
 by_cases h12 : k = 1 ∨ k = 2
 ·rw [if_pos h12, if_pos h12]
  refine ⟨?_, fun _ => rfl⟩
  simp only
  cases decide (i = 0) <;> cases cname n <;> cases decide (xs.length = 0) <;> cases t.valid <;> rfl
 rw [if_neg h12, if_neg h12]
 by_cases h3 : k = 3
 ·rw [if_pos h3, if_pos h3, List.length_reverse]
  split
  ·rename_i h
   obtain ⟨_, _, _, h4, h5⟩ := h
   refine ⟨rfl, fun _ => ?_⟩
   have : i.toNat < l.length := by omega
   simp only [List.getD_eq_getElem?_getD]
   rw [List.getElem?_reverse this]
  ·exact ⟨rfl, fun _ => rfl⟩
 rw [if_neg h3, if_neg h3]
 by_cases h4 : k = 4
 ·rw [if_pos h4, if_pos h4]
  split
  ·rename_i h
   match xs, h.2.2.2 with
   | [f, x], _ =>
    obtain ⟨f1, f2⟩ := ih f (by simp) l
    obtain ⟨x1, x2⟩ := ih x (by simp) l
    simp only [Tm.pforms, Tm.formeds]
    rw [← f1, ← x1]
    split
    ·rename_i hh
     rw [f2 hh.1, x2 hh.2]
     exact ⟨rfl, fun _ => rfl⟩
    ·exact ⟨rfl, fun _ => rfl⟩
  ·exact ⟨rfl, fun _ => rfl⟩
 rw [if_neg h4, if_neg h4]
 by_cases h5 : k = 5
 ·rw [if_pos h5, if_pos h5]
  split
  ·rename_i h
   match xs, h.2.2.2 with
   | [b], _ =>
    obtain ⟨b1, b2⟩ := ih b (by simp) (l ++ [t])
    rw [List.reverse_append] at b1 b2
    simp only [List.reverse_cons, List.reverse_nil, List.nil_append, List.singleton_append] at b1 b2
    simp only [Tm.pforms, Tm.formeds]
    rw [← b1]
    cases hb : (Tm.pform (l ++ [t]) b).2
    ·simp
    ·simp only [if_true, Bool.true_and]
     rw [b2 hb]
     exact ⟨rfl, fun _ => rfl⟩
  ·exact ⟨rfl, fun _ => rfl⟩
 rw [if_neg h5, if_neg h5]
 exact ⟨rfl, fun _ => rfl⟩
theorem Tm.pform_nil (a : Tm) : (Tm.pform [] a).2 = (Tm.formed [] a).2 ∧ ((Tm.pform [] a).2 = true → (Tm.pform [] a).1 = (Tm.formed [] a).1) := Tm.pform_formed a []
end Go.Proofs.Ytemfpemejagndaa.Fw


namespace Go.Proofs.Ytemfpemejagndaa.Fw
open Go Go.Proofs

theorem getb_get (s : ByteArray) (k : Nat) (h : k < s.data.toList.length) : getb s (k : Int) = some ((s.data.toList[k]).toNat : Int) := by
 have := bget s k h
 simp [getb, this]
/-! ### names -/
theorem name_tail {s : ByteArray} {k : Nat} (h : k < s.data.toList.length) : (s.data.toList.drop k).all (fun c => !nmBad c) = (!nmBad s.data.toList[k] && (s.data.toList.drop (k + 1)).all (fun c => !nmBad c)) := by
 rw [List.drop_eq_getElem_cons h, List.all_cons]
theorem types_name_l (s : ByteArray) (hs : s.size ≤ big) : ∀ j k : Nat, k + j = s.data.toList.length →
  types_name_l0 k s = some ((s.data.toList.drop k).all (fun c => !nmBad c) && (decide (1 ≤ s.size) && decide (s.size ≤ 30))) := by
 have hz := bsize s
 have he := name_empty s
 simp only [big] at hs
 intro j
 induction j with
 | zero =>
  intro k hk
  rw [types_name_l0_eq, if_neg (by omega), List.drop_eq_nil_of_le (by omega)]
  by_cases h0 : s = ByteArray.empty
  ·rw [if_neg (fun h => h h0)]; have := he.1 h0; simp [this]
  ·rw [if_pos h0]
   have : 1 ≤ s.size := by have : ¬ s.size = 0 := fun h => h0 (he.2 h); omega
   have h30 : ((s.size : Int) ≤ 30) ↔ s.size ≤ 30 := by omega
   simp [this, h30]
 | succ j ih =>
  intro k hk
  have hlt : k < s.data.toList.length := by omega
  have ih1 := ih (k + 1) (by omega)
  rw [types_name_l0_eq, if_pos (by omega), getb_get s k hlt, name_tail hlt, bs, wr (by omega) (by omega)]
  generalize s.data.toList[k] = c
  simp only [bs]
  rw [show ((k : Int) + 1) = ((k + 1 : Nat) : Int) from by omega, ih1]
  have hb : nmBad c = (decide ((c.toNat : Int) < 33) || decide (126 < (c.toNat : Int)) || decide ((c.toNat : Int) = 40) || decide ((c.toNat : Int) = 41) || decide ((c.toNat : Int) = 44) || decide ((c.toNat : Int) = 58) || decide ((c.toNat : Int) = 92) || decide ((c.toNat : Int) = 46) || decide ((c.toNat : Int) = 34)) := rfl
  rw [hb]
  generalize (c.toNat : Int) = n
  clear ih ih1 hs hz hlt hb
  try clear he
  repeat' split
  all_goals simp_all
  all_goals (rw [decide_eq_false (show ¬ n < 33 by omega), decide_eq_false (show ¬ 126 < n by omega)]; simp)
theorem types_name_eq (s : ByteArray) (hs : s.size ≤ big) : types_name s = some (Name s) := by
 have := types_name_l s hs s.data.toList.length 0 (by simp)
 rw [types_name, show (0 : Int) = ((0 : Nat) : Int) from rfl, this, List.drop_zero, Name]
 congr 1
 cases decide (1 ≤ s.size) <;> cases decide (s.size ≤ 30) <;> simp
theorem ref_name_l (s : ByteArray) (hs : s.size ≤ big) : ∀ j k : Nat, k + j = s.data.toList.length →
  z01_Name_l0 k s = some ((s.data.toList.drop k).all (fun c => !nmBad c)) := by
 have hz := bsize s
 simp only [big] at hs
 intro j
 induction j with
 | zero =>
  intro k hk
  rw [z01_Name_l0_eq, if_neg (by omega), List.drop_eq_nil_of_le (by omega)]; rfl
 | succ j ih =>
  intro k hk
  have hlt : k < s.data.toList.length := by omega
  have ih1 := ih (k + 1) (by omega)
  rw [z01_Name_l0_eq, if_pos (by omega), getb_get s k hlt, name_tail hlt, bs, wr (by omega) (by omega)]
  generalize s.data.toList[k] = c
  simp only [bs]
  rw [show ((k : Int) + 1) = ((k + 1 : Nat) : Int) from by omega, ih1]
  have hb : nmBad c = (decide ((c.toNat : Int) < 33) || decide (126 < (c.toNat : Int)) || decide ((c.toNat : Int) = 40) || decide ((c.toNat : Int) = 41) || decide ((c.toNat : Int) = 44) || decide ((c.toNat : Int) = 58) || decide ((c.toNat : Int) = 92) || decide ((c.toNat : Int) = 46) || decide ((c.toNat : Int) = 34)) := rfl
  rw [hb]
  generalize (c.toNat : Int) = n
  clear ih ih1 hs hz hlt hb
  try clear he
  repeat' split
  all_goals simp_all
theorem ref_name_eq (s : ByteArray) (hs : s.size ≤ big) : z01_Name s = some (Name s) := by
 have := ref_name_l s hs s.data.toList.length 0 (by simp)
 rw [z01_Name, show z01_Name_l0 0 s = some _ from this, List.drop_zero, Name]
 by_cases h1 : 1 ≤ s.size
 ·by_cases h2 : s.size ≤ 30
  ·rw [if_neg (by omega), if_neg (by omega)]; simp [h1, h2]
  ·rw [if_neg (by omega), if_pos (by omega)]; simp [h2]
 ·rw [if_pos (by omega)]; simp [h1]
theorem name_pos {s : ByteArray} (h : Name s = true) : 0 < s.data.toList.length := by
 simp only [Name, Bool.and_eq_true, decide_eq_true_eq] at h
 have := bsize s; omega
theorem name_head {s : ByteArray} (h : Name s = true) : ∃ c : UInt8, s.data.toList[0]? = some c ∧ getb s 0 = some (c.toNat : Int) :=
 ⟨_, List.getElem?_eq_getElem (name_pos h), getb_get s 0 (name_pos h)⟩
theorem types_variable_eq (s : ByteArray) (hs : s.size ≤ big) : types_variable s = some (tvar s) := by
 rw [types_variable, types_name_eq s hs, bs]
 cases hN : Name s with
 | false => simp [tvar, hN]
 | true =>
  obtain ⟨c, h1, h2⟩ := name_head hN
  simp [tvar, hN, h1, h2, b39]
theorem ref2_name_eq (s : ByteArray) (hs : s.size ≤ big) : z02_Name s = some (cname s) := by
 rw [z02_Name, ref_name_eq s hs, bs]
 cases hN : Name s with
 | false => simp [cname, hN]
 | true =>
  obtain ⟨c, h1, h2⟩ := name_head hN
  simp [cname, hN, h1, h2, b39]
/-! ### sizes and depths -/
theorem types_measure_l (xs : List Ty) (ih : ∀ x ∈ xs, types_measure x = some ((x.size : Int), (x.depth : Int), x.shape)) (hs : Ty.sizes xs ≤ lim) :
  ∀ (m d : Nat) (b : Bool), m + Ty.sizes xs ≤ 2 * lim → d ≤ lim → types_measure_l0 xs m d b = some (((m + Ty.sizes xs : Nat) : Int), ((max d (Ty.depths xs) + 1 : Nat) : Int), b && Ty.shapes xs) := by
 simp only [lim] at hs ⊢
 induction xs with
 | nil =>
  intro m d b hm hd
  rw [types_measure_l0_eq]; simp only []
  rw [wr (by omega) (by omega), bs]
  simp [Ty.sizes, Ty.depths, Ty.shapes]
 | cons x r ihr =>
  intro m d b hm hd
  simp only [Ty.sizes] at hs hm
  have hx := x.depth_size
  rw [types_measure_l0_eq]; simp only []
  rw [ih x (by simp), bs, wr (by simp only; omega) (by simp only; omega), bs]
  simp only []
  have e1 : ((m : Int) + (x.size : Int)) = ((m + x.size : Nat) : Int) := by omega
  have e2 : max (d : Int) (x.depth : Int) = ((max d x.depth : Nat) : Int) := by omega
  rw [e1, e2]
  have hr := fun b' => ihr (fun y hy => ih y (by simp [hy])) (by omega) (m + x.size) (max d x.depth) b' (by omega) (by omega)
  cases b
  ·rw [if_neg (by decide), hr]; simp [Ty.sizes, Ty.depths, Ty.shapes, Nat.add_assoc, Nat.max_assoc]
  ·rw [if_pos rfl, hr]; simp [Ty.sizes, Ty.depths, Ty.shapes, Nat.add_assoc, Nat.max_assoc]
theorem types_measure_eq2 : ∀ a : Ty, a.ok → a.size ≤ lim → types_measure a = some ((a.size : Int), (a.depth : Int), a.shape) := by
 refine Ty.ind fun v n xs ih => ?_
 rintro ⟨hn, hl, hok⟩ hs
 simp only [Ty.size, lim] at hs
 have hd := Ty.depths_sizes xs
 have hj : ∀ b : Bool, types_measure_j0 b (Ty.mk v n xs) = some ((((Ty.mk v n xs).size : Nat) : Int), (((Ty.mk v n xs).depth : Nat) : Int), b && Ty.shapes xs) := fun b => by
  have hm := types_measure_l xs (fun x hx => ih x hx (Ty.oks_mem hok x hx) (by have := Ty.size_mem hx; simp only [lim]; omega)) (by simp only [lim]; omega) 1 0 b (by simp only [lim]; omega) (by omega)
  rw [types_measure_j0_eq, show types_measure_l0 xs 1 0 b = _ from hm]
  simp only [Ty.size, Ty.depth, Nat.zero_max, Nat.add_comm 1]
 have hlen := Ty.Ds_len xs
 rw [types_measure_eq]
 cases v with
 | true =>
  simp only [if_true, types_variable_eq n hn, bs, hj, hlen]
  simp only [Ty.shape, Ty.head, tvar]
  rcases fot (Name n) with hN | hN <;> rcases fot (decide (n.data.toList[0]? = some 39)) with hD | hD <;> simp only [hN, hD]
  ·simp
  ·simp
  ·simp
  ·by_cases h0 : xs = []
   ·simp [h0]
   ·simp [h0]
 | false =>
  simp only [Bool.false_eq_true, if_false, types_name_eq n hn, bs, hj, hlen]
  simp only [Ty.shape, Ty.head]
  cases hN : Name n with
  | false => simp
  | true =>
   obtain ⟨c, h1, h2⟩ := name_head hN
   simp only [if_true, h2, bs, h1, b39, Option.some.injEq]
   by_cases h3 : c = 39
   ·simp [h3]
   ·by_cases h4 : xs.length ≤ 8
    ·rw [if_pos h3, if_pos (by omega)]; simp [h3, h4]
    ·rw [if_pos h3, if_neg (by omega)]; simp [h3, h4]
theorem types_Check_eq (a : Ty) (h : a.ok) (hs : a.size ≤ lim) : types_Check a = some (tcheck a) := by
 rw [types_Check, types_measure_eq2 a h hs, bs]
 simp only [tcheck, Ty.valid, Ty.small]
 rcases fot a.shape with hsh | hsh <;> simp only [hsh]
 ·simp
 ·by_cases h1 : a.size ≤ 500
  ·by_cases h2 : a.depth ≤ 200
   ·simp only [if_true]; rw [if_neg (by omega), if_neg (by omega)]; simp [h1, h2]
   ·simp only [if_true]; rw [if_neg (by omega), if_pos (by omega)]; simp [h2]
  ·simp only [if_true]; rw [if_pos (by omega)]; simp [h1]
theorem ref_Size_l (xs : List Ty) (ih : ∀ x ∈ xs, z01_Size x = some (x.size : Int)) : ∀ m : Nat, m + Ty.sizes xs ≤ 2 * lim → z01_Size_l0 xs m = some ((m + Ty.sizes xs : Nat) : Int) := by
 simp only [lim]
 induction xs with
 | nil => intro m _; rw [z01_Size_l0_eq]; simp [Ty.sizes]
 | cons x r ihr =>
  intro m hm
  simp only [Ty.sizes] at hm
  rw [z01_Size_l0_eq]; simp only []
  rw [ih x (by simp), bs, wr (by omega) (by omega), bs, show (m : Int) + (x.size : Int) = ((m + x.size : Nat) : Int) by omega, ihr (fun y hy => ih y (by simp [hy])) _ (by omega)]
  simp [Ty.sizes, Nat.add_assoc]
theorem ref_Size_eq : ∀ a : Ty, a.size ≤ lim → z01_Size a = some (a.size : Int) := by
 refine Ty.ind fun v n xs ih => ?_
 intro hs
 simp only [Ty.size, lim] at hs ⊢
 rw [z01_Size_eq, show (1 : Int) = ((1 : Nat) : Int) from rfl, ref_Size_l xs (fun x hx => ih x hx (by have := Ty.size_mem hx; simp only [lim]; omega)) 1 (by simp only [lim]; omega)]
theorem ref_Depth_l (xs : List Ty) (ih : ∀ x ∈ xs, z01_Depth x = some (x.depth : Int)) : ∀ d : Nat, d ≤ lim → Ty.depths xs ≤ lim → z01_Depth_l0 xs d = some ((1 + max d (Ty.depths xs) : Nat) : Int) := by
 simp only [lim]
 induction xs with
 | nil => intro d h1 h2; rw [z01_Depth_l0_eq]; simp only []; rw [wr (by omega) (by omega), bs]; simp [Ty.depths]
 | cons x r ihr =>
  intro d h1 h2
  simp only [Ty.depths] at h2
  rw [z01_Depth_l0_eq]; simp only []
  rw [ih x (by simp), bs, show max (d : Int) (x.depth : Int) = ((max d x.depth : Nat) : Int) by omega, ihr (fun y hy => ih y (by simp [hy])) _ (by omega) (by omega)]
  simp [Ty.depths, Nat.max_assoc]
theorem ref_Depth_eq : ∀ a : Ty, a.size ≤ lim → z01_Depth a = some (a.depth : Int) := by
 refine Ty.ind fun v n xs ih => ?_
 intro hs
 simp only [Ty.size, lim] at hs
 have hd := Ty.depths_sizes xs
 rw [z01_Depth_eq, show (0 : Int) = ((0 : Nat) : Int) from rfl, ref_Depth_l xs (fun x hx => ih x hx (by have := Ty.size_mem hx; simp only [lim]; omega)) 0 (by omega) (by simp only [lim]; omega)]
 simp [Ty.depth]
theorem ref_Small_eq (a : Ty) (hs : a.size ≤ lim) : z01_Small a = some a.small := by
 rw [z01_Small, ref_Size_eq a hs, bs, Ty.small]
 by_cases h : a.size ≤ 500
 ·rw [if_pos (by omega), ref_Depth_eq a hs, bs]; simp only [h, decide_true, Bool.true_and]; congr 2; simp; omega
 ·rw [if_neg (by omega)]; simp [h]
theorem ref_shape_l (xs : List Ty) (ih : ∀ x ∈ xs, z01_shape x = some x.shape) : z01_shape_l0 xs = some (Ty.shapes xs) := by
 induction xs with
 | nil => rw [z01_shape_l0_eq]; rfl
 | cons x r ihr =>
  rw [z01_shape_l0_eq]; simp only []
  rw [ih x (by simp), bs, ihr fun y hy => ih y (by simp [hy])]
  cases h : x.shape <;> simp [Ty.shapes, h]
theorem ref_shape_eq : ∀ a : Ty, a.ok → z01_shape a = some a.shape := by
 refine Ty.ind fun v n xs ih => ?_
 rintro ⟨hn, hl, hok⟩
 have hlen := Ty.Ds_len xs
 have hj : z01_shape_j0 (Ty.mk v n xs) = some (Ty.shapes xs) := by rw [z01_shape_j0_eq]; exact ref_shape_l xs fun x hx => ih x hx (Ty.oks_mem hok x hx)
 rw [z01_shape_eq]
 simp only [ref_name_eq n hn, bs, hj, hlen, Ty.shape, Ty.head]
 cases hN : Name n with
 | false => simp
 | true =>
  obtain ⟨c, h1, h2⟩ := name_head hN
  simp only [if_true, h2, bs, h1, b39, Option.some.injEq, Bool.true_and]
  by_cases h0 : xs.length = 0
  ·cases v <;> by_cases h3 : c = 39 <;> simp [h0, h3]
  ·by_cases h4 : xs.length ≤ 8
   ·cases v <;> by_cases h3 : c = 39 <;> simp [h0, h3, h4] <;> omega
   ·cases v <;> by_cases h3 : c = 39 <;> simp [h0, h3, h4] <;> omega
theorem ref_Valid_eq (a : Ty) (h : a.ok) (hs : a.size ≤ lim) : z01_Valid a = some a.valid := by
 rw [z01_Valid, ref_Small_eq a hs, bs, Ty.valid]
 cases hsm : a.small
 ·simp
 ·rw [if_pos rfl, ref_shape_eq a h, bs]; simp
/-! ### the order of types -/
theorem cmp_int_eq (a b : Int) : cmp_Compare_int a b = some (icmp a b) := by
 simp only [cmp_Compare_int, cmp_isNaN_int, bs, icmp]
 simp only [not_true_eq_false, decide_false, Bool.false_eq_true, if_false]
 split
 ·rfl
 ·split <;> rfl
theorem strings_Compare_eq (a b : ByteArray) : strings_Compare a b = some (bcmp a b) := rfl
theorem cmp_Or_eq (xs : List Int) : cmp_Or_int xs = some (ors xs) := by
 rw [cmp_Or_int]
 induction xs with
 | nil => rw [cmp_Or_int_l0_eq]; rfl
 | cons x r ih =>
  rw [cmp_Or_int_l0_eq]; simp only [ih, ors]
  split <;> rfl
theorem geti_drop {α : Type} {l : List α} {k : Nat} {n : Nat} (h : k + (n + 1) = l.length) : ∃ y, geti l (k : Int) = some y ∧ l.drop k = y :: l.drop (k + 1) := by
 have hk : k < l.length := by omega
 exact ⟨l[k], by rw [geti_nat, List.getElem?_eq_getElem hk], List.drop_eq_getElem_cons hk⟩
theorem ref_cmp_l (ys : List Ty) (b : Ty) (hb : b.args = ys) : ∀ (xs : List Ty) (k : Nat), (∀ x ∈ xs, ∀ y, z01_Compare x y = some (Ty.cmp x y)) → k + xs.length = ys.length → z01_Compare_l0 xs k b = some (Ty.cmps xs (ys.drop k)) := by
 intro xs
 induction xs with
 | nil => intro k _ _; rw [z01_Compare_l0_eq]; simp [Ty.cmps]
 | cons x r ih =>
  intro k h hk
  obtain ⟨y, h1, h2⟩ := geti_drop (l := ys) (k := k) (n := r.length) (by simpa using hk)
  rw [z01_Compare_l0_eq]; simp only []
  rw [hb, h1, bs, h x (by simp), bs, h2, Ty.cmps, ih (k + 1) (fun z hz => h z (by simp [hz])) (by simp at hk; omega)]
  split <;> simp_all
theorem ref_Compare_eq : ∀ a b : Ty, z01_Compare a b = some (Ty.cmp a b) := by
 refine Ty.ind fun v n xs ih => ?_
 rintro ⟨v', n', ys⟩
 rw [z01_Compare_eq]
 simp only [Ty.Ds_len, Ty.cmp, Ty.hd]
 by_cases hv : v = v'
 ·subst hv
  by_cases hn : n = n'
  ·subst hn
   by_cases hl : xs.length = ys.length
   ·simp only [hl, not_true_eq_false, if_false, ne_eq]
    exact ref_cmp_l ys _ rfl xs 0 ih (by omega)
   ·have hl' : ¬ (xs.length : Int) = ys.length := by omega
    simp only [hl', not_true_eq_false, not_false_eq_true, if_false, if_true, ne_eq]
    split <;> simp
  ·simp only [hn, not_true_eq_false, not_false_eq_true, if_false, if_true, ne_eq]
   split <;> simp
 ·simp only [hv, not_false_eq_true, if_true, ne_eq]
  cases v <;> simp
theorem types_cmp_l (xs0 ys : List Ty) (hl : xs0.length = ys.length) : ∀ (xs : List Ty) (k : Nat), (∀ x ∈ xs, ∀ y, types_Compare x y = some (Ty.cmp x y)) → k + xs.length = ys.length →
  slCF_l0 xs k xs0 ys = some (Ty.cmps xs (ys.drop k)) := by
 intro xs
 induction xs with
 | nil => intro k _ _; rw [slCF_l0_eq]; simp only [Ty.Ds_len, hl]; simp [Ty.cmps]
 | cons x r ih =>
  intro k h hk
  obtain ⟨y, h1, h2⟩ := geti_drop (l := ys) (k := k) (n := r.length) (by simpa using hk)
  rw [slCF_l0_eq]; simp only [Ty.Ds_len]
  rw [if_neg (by simp at hk; omega), h1, bs, h x (by simp), bs, h2, Ty.cmps, ih (k + 1) (fun z hz => h z (by simp [hz])) (by simp at hk; omega)]
  split <;> simp_all
theorem types_Compare_eq2 : ∀ a b : Ty, types_Compare a b = some (Ty.cmp a b) := by
 refine Ty.ind fun v n xs ih => ?_
 rintro ⟨v', n', ys⟩
 have hr : ∀ (w : Bool) (m : ByteArray) (l : List Ty), types_rank (Ty.mk w m l) = some (if w then 0 else 1) := fun w m l => by cases w <;> rfl
 rw [types_Compare_eq]
 simp only [hr, bs, cmp_int_eq, strings_Compare_eq, cmp_Or_eq, Ty.Ds_len, Ty.hd_eq, Ty.cmp]
 by_cases h0 : Ty.hd v n xs.length v' n' ys.length = 0
 ·simp only [h0, not_true_eq_false, if_false, ne_eq]
  have hl : xs.length = ys.length := by
   simp only [Ty.hd] at h0
   repeat' split at h0
   all_goals first | omega | simp_all
  rw [slCF_eq, types_cmp_l xs ys hl xs 0 ih (by omega)]; rfl
 ·simp only [h0, not_false_eq_true, if_true, ne_eq]
theorem types_Same_eq (a b : Ty) : types_Same a b = some (Ty.beq a b) := by rw [types_Same, types_Compare_eq2, bs]; rfl
theorem ref_Same_eq (a b : Ty) : z01_Same a b = some (Ty.beq a b) := by rw [z01_Same, ref_Compare_eq, bs]; rfl
/-! ### copies -/
theorem ref_Twin_l (a : Ty) (xs : List Ty) (ih : ∀ x ∈ xs, z01_Twin x = some x) : ∀ acc : List Ty, acc.length + xs.length ≤ 2 * lim → z01_Twin_l0 xs acc a = some (Ty.mk a.v a.name (acc ++ xs)) := by
 simp only [lim]
 induction xs with
 | nil => intro acc _; rw [z01_Twin_l0_eq]; simp
 | cons x r ihr =>
  intro acc h
  simp only [List.length_cons] at h
  rw [z01_Twin_l0_eq]; simp only []
  rw [ih x (by simp), bs, app_eq (by simp; omega), bs, ihr (fun y hy => ih y (by simp [hy])) _ (by simp; omega)]
  simp
theorem ref_Twin_eq : ∀ a : Ty, a.size ≤ lim → z01_Twin a = some a := by
 refine Ty.ind fun v n xs ih => ?_
 intro hs
 simp only [Ty.size, lim] at hs
 have hl := Ty.len_sizes xs
 rw [z01_Twin_eq, ref_Twin_l _ xs (fun x hx => ih x hx (by have := Ty.size_mem hx; simp only [lim]; omega)) [] (by simp only [lim, List.length_nil]; omega)]
 rfl
theorem types_Twin_l (a : Ty) (ih : ∀ x ∈ a.args, types_Twin x = some x) (hn : a.args.length ≤ 2000000000) : ∀ (j k : Nat) (arr : List Ty), k + j = a.args.length → arr.length = a.args.length → types_Twin_l0 k arr a = some (Ty.mk a.v a.name (arr.take k ++ a.args.drop k)) := by
 intro j
 induction j with
 | zero =>
  intro k arr h hl
  rw [types_Twin_l0_eq, if_neg (by simp only [Ty.Ds_len]; omega), List.take_of_length_le (by omega), List.drop_eq_nil_of_le (by omega), List.append_nil]
 | succ j ihj =>
  intro k arr h hl
  obtain ⟨y, g1, g2⟩ := geti_drop (l := a.args) (k := k) (n := j) h
  have hy : y ∈ a.args := List.mem_of_mem_drop (by rw [g2]; simp : y ∈ a.args.drop k)
  rw [types_Twin_l0_eq, if_pos (by simp only [Ty.Ds_len]; omega), g1, bs, ih y hy, bs, wantb, if_pos (by omega), bs, seti_nat (by omega), bs, bs, wr (by omega) (by omega)]
  have := ihj (k + 1) (arr.set k y) (by omega) (by simpa using hl)
  rw [show ((k + 1 : Nat) : Int) = (k : Int) + 1 from rfl] at this
  rw [this]
  congr 2
  rw [List.take_succ_eq_append_getElem (by simp; omega), List.getElem_set_self, List.take_set_of_le (Nat.le_refl _), g2]
  simp
theorem types_Twin_eq2 : ∀ a : Ty, a.size ≤ lim → types_Twin a = some a := by
 refine Ty.ind fun v n xs ih => ?_
 intro hs
 simp only [Ty.size, lim] at hs
 have hl := Ty.len_sizes xs
 have ih' : ∀ x ∈ xs, types_Twin x = some x := fun x hx => ih x hx (by have := Ty.size_mem hx; simp only [lim]; omega)
 rw [types_Twin_eq]
 simp only [Ty.Ds_len]
 by_cases h0 : 0 < xs.length
 ·rw [if_pos (by omega), mkn, if_pos (by omega), bs, types_Twin_j0_eq]
  have := types_Twin_l (.mk v n xs) ih' (by show xs.length ≤ _; omega) xs.length 0 (List.replicate (xs.length : Int).toNat (.mk false ByteArray.empty [])) (by simp) (by simp)
  simpa using this
 ·have : xs = [] := List.length_eq_zero_iff.1 (by omega)
  subst this
  rw [if_neg (by simp), types_Twin_j0b_eq, types_Twin_l0b_eq]
  simp [Ty.Ds_len]
theorem ref_Fun_eq (a b : Ty) (ha : a.size ≤ lim) (hb : b.size ≤ lim) : z01_Fun a b = some (Ty.fn a b) := by rw [z01_Fun, ref_Twin_eq a ha, bs, ref_Twin_eq b hb, bs]; rfl
theorem types_Bool_eq : types_Bool = some Ty.bool := rfl
/-! ### what is too large -/
theorem ref_count_l (d : Nat) (hd : d ≤ 1000) (ih : ∀ (left : Int) (a : Ty), a.ok → 0 < left → left ≤ 1000000 → z01_count a left d = some (Ty.count d left a)) :
  ∀ (xs : List Ty) (left : Int), Ty.oks xs → left ≤ 1000000 → z01_count_l0 xs left ((d + 1 : Nat) : Int) = some (Ty.counts d left xs) := by
 intro xs
 induction xs with
 | nil => intro left _ _; rw [z01_count_l0_eq]; rfl
 | cons x r ihr =>
  intro left ho h
  rw [z01_count_l0_eq]; simp only [Ty.counts]
  by_cases h0 : 0 < left
  ·have hb := Ty.count_bd d left x ho.1 h0
   rw [if_pos h0, if_pos h0, wr (by omega) (by omega), bs, show ((d + 1 : Nat) : Int) - 1 = (d : Int) by omega, ih left x ho.1 h0 h, bs, ihr _ ho.2 (by omega)]
  ·rw [if_neg h0, if_neg h0]
theorem ref_count_eq : ∀ (d : Nat), d ≤ 1000 → ∀ (left : Int) (a : Ty), a.ok → 0 < left → left ≤ 1000000 → z01_count a left d = some (Ty.count d left a) := by
 intro d
 induction d with
 | zero => intro _ left a _ _ _; rw [z01_count_eq, if_pos (by rfl)]; simp [Ty.count]
 | succ d ih =>
  rintro hd left ⟨v, n, xs⟩ ⟨hn, hl, ho⟩ h0 h1
  simp only [big] at hn
  have ht := tdiv100 n.size
  rw [z01_count_eq, if_neg (by omega), wr (by omega) (by omega), bs, ht, wr (by omega) (by omega), bs, wr (by omega) (by omega), bs]
  simp only []
  rw [ref_count_l d (by omega) (fun left a => ih (by omega) left a) xs _ ho (by omega)]
  simp only [Ty.count, ht]
theorem ref_Great_eq (a : Ty) (h : a.ok) : z01_Great a = some a.great := by
 rw [z01_Great, show (500 : Int) = ((500 : Nat) : Int) from rfl, ref_count_eq 500 (by omega) 1500 a h (by omega) (by omega), bs]; rfl
end Go.Proofs.Ytemfpemejagndaa.Fw


namespace Go.Proofs.Ytemfpemejagndaa.Fw
open Go Go.Proofs

theorem ref2_Size_l (xs : List Tm) (ih : ∀ x ∈ xs, z02_Size x = some (x.size : Int)) : ∀ m : Nat, m + Tm.sizes xs ≤ 2 * lim → z02_Size_l0 xs m = some ((m + Tm.sizes xs : Nat) : Int) := by
 simp only [lim]
 induction xs with
 | nil => intro m _; rw [z02_Size_l0_eq]; simp [Tm.sizes]
 | cons x r ihr =>
  intro m hm
  simp only [Tm.sizes] at hm
  rw [z02_Size_l0_eq]; simp only []
  rw [ih x (by simp), bs, wr (by omega) (by omega), bs, show (m : Int) + (x.size : Int) = ((m + x.size : Nat) : Int) by omega, ihr (fun y hy => ih y (by simp [hy])) _ (by omega)]
  simp [Tm.sizes, Nat.add_assoc]
theorem ref2_Size_eq : ∀ a : Tm, a.size ≤ lim → z02_Size a = some (a.size : Int) := by
 refine Tm.ind fun k n t i xs ih => ?_
 intro hs
 simp only [Tm.size, lim] at hs ⊢
 rw [z02_Size_eq, show (1 : Int) = ((1 : Nat) : Int) from rfl, ref2_Size_l xs (fun x hx => ih x hx (by have := Tm.size_mem hx; simp only [lim]; omega)) 1 (by simp only [lim]; omega)]
theorem ref2_Depth_l (xs : List Tm) (ih : ∀ x ∈ xs, z02_Depth x = some (x.depth : Int)) : ∀ d : Nat, d ≤ lim → Tm.depths xs ≤ lim → z02_Depth_l0 xs d = some ((1 + max d (Tm.depths xs) : Nat) : Int) := by
 simp only [lim]
 induction xs with
 | nil => intro d h1 h2; rw [z02_Depth_l0_eq]; simp only []; rw [wr (by omega) (by omega), bs]; simp [Tm.depths]
 | cons x r ihr =>
  intro d h1 h2
  simp only [Tm.depths] at h2
  rw [z02_Depth_l0_eq]; simp only []
  rw [ih x (by simp), bs, show max (d : Int) (x.depth : Int) = ((max d x.depth : Nat) : Int) by omega, ihr (fun y hy => ih y (by simp [hy])) _ (by omega) (by omega)]
  simp [Tm.depths, Nat.max_assoc]
theorem ref2_Depth_eq : ∀ a : Tm, a.size ≤ lim → z02_Depth a = some (a.depth : Int) := by
 refine Tm.ind fun k n t i xs ih => ?_
 intro hs
 simp only [Tm.size, lim] at hs
 have hd := Tm.depths_sizes xs
 rw [z02_Depth_eq, show (0 : Int) = ((0 : Nat) : Int) from rfl, ref2_Depth_l xs (fun x hx => ih x hx (by have := Tm.size_mem hx; simp only [lim]; omega)) 0 (by omega) (by simp only [lim]; omega)]
 simp [Tm.depth]
theorem ref2_Small_eq (a : Tm) (hs : a.size ≤ lim) : z02_Small a = some a.small := by
 rw [z02_Small, ref2_Size_eq a hs, bs, Tm.small]
 by_cases h : a.size ≤ 32000
 ·rw [if_pos (by omega), ref2_Depth_eq a hs, bs]; simp only [h, decide_true, Bool.true_and]; congr 2; simp; omega
 ·rw [if_neg (by omega)]; simp [h]
theorem terms_extent_l (xs : List Tm) (ih : ∀ x ∈ xs, terms_extent x = some ((x.size : Int), (x.depth : Int))) : ∀ (m d : Nat), m + Tm.sizes xs ≤ 2 * lim → d ≤ lim → Tm.depths xs ≤ lim →
  terms_extent_l0 xs m d = some (((m + Tm.sizes xs : Nat) : Int), ((max d (Tm.depths xs) + 1 : Nat) : Int)) := by
 simp only [lim]
 induction xs with
 | nil => intro m d _ _ _; rw [terms_extent_l0_eq]; simp only []; rw [wr (by omega) (by omega), bs]; simp [Tm.sizes, Tm.depths]
 | cons x r ihr =>
  intro m d hm hd h2
  simp only [Tm.sizes] at hm
  simp only [Tm.depths] at h2
  rw [terms_extent_l0_eq]; simp only []
  rw [ih x (by simp), bs, wr (by simp only; omega) (by simp only; omega), bs]
  simp only []
  rw [show (m : Int) + (x.size : Int) = ((m + x.size : Nat) : Int) by omega, show max (d : Int) (x.depth : Int) = ((max d x.depth : Nat) : Int) by omega, ihr (fun y hy => ih y (by simp [hy])) _ _ (by omega) (by omega) (by omega)]
  simp [Tm.sizes, Tm.depths, Nat.add_assoc, Nat.max_assoc]
theorem terms_extent_eq2 : ∀ a : Tm, a.size ≤ lim → terms_extent a = some ((a.size : Int), (a.depth : Int)) := by
 refine Tm.ind fun k n t i xs ih => ?_
 intro hs
 simp only [Tm.size, lim] at hs
 have hd := Tm.depths_sizes xs
 have := terms_extent_l xs (fun x hx => ih x hx (by have := Tm.size_mem hx; simp only [lim]; omega)) 1 0 (by simp only [lim]; omega) (by omega) (by simp only [lim]; omega)
 rw [terms_extent_eq]
 simp only
 rw [show terms_extent_l0 xs 1 0 = _ from this]
 simp [Tm.size, Tm.depth, Nat.add_comm]
theorem terms_great_eq (a : Tm) (hs : a.size ≤ lim) : terms_great a = some (!a.small) := by
 rw [terms_great, terms_extent_eq2 a hs, bs, Tm.small]
 simp only []
 by_cases h : a.size ≤ 32000
 ·rw [if_neg (by omega)]; simp only [h, decide_true, Bool.true_and]; congr 1; rw [Bool.eq_iff_iff]; simp; omega
 ·rw [if_pos (by omega)]; simp [h]
/-! ### what is too large -/
theorem ref2_count_l (d : Nat) (hd : d ≤ 1000) (ih : ∀ (left : Int) (a : Tm), a.ok → 0 < left → left ≤ 1000000 → z02_count a left d = some (Tm.count d left a)) :
  ∀ (xs : List Tm) (left : Int), Tm.oks xs → left ≤ 1000000 → z02_count_l0 xs left ((d + 1 : Nat) : Int) = some (Tm.counts d left xs) := by
 intro xs
 induction xs with
 | nil => intro left _ _; rw [z02_count_l0_eq]; rfl
 | cons x r ihr =>
  intro left ho h
  rw [z02_count_l0_eq]; simp only [Tm.counts]
  by_cases h0 : 0 < left
  ·have hb := Tm.count_bd d left x ho.1 h0
   rw [if_pos h0, if_pos h0, wr (by omega) (by omega), bs, show ((d + 1 : Nat) : Int) - 1 = (d : Int) by omega, ih left x ho.1 h0 h, bs, ihr _ ho.2 (by omega)]
  ·rw [if_neg h0, if_neg h0]
theorem ref2_count_eq : ∀ (d : Nat), d ≤ 1000 → ∀ (left : Int) (a : Tm), a.ok → 0 < left → left ≤ 1000000 → z02_count a left d = some (Tm.count d left a) := by
 intro d
 induction d with
 | zero => intro _ left a _ _ _; rw [z02_count_eq, if_pos (by rfl)]; simp [Tm.count]
 | succ d ih =>
  rintro hd left ⟨k, n, t, i, xs⟩ ⟨hk, hn, ht, hi, hl, ho⟩ h0 h1
  simp only [big] at hn
  have htd := tdiv100 n.size
  rw [z02_count_eq, if_neg (by omega)]
  simp only []
  rw [ref_Great_eq t ht, bs]
  simp only [Tm.count]
  by_cases hg : t.great = true
  ·rw [if_pos hg, if_pos hg]
  ·rw [if_neg hg, if_neg hg, wr (by omega) (by omega), bs, htd, wr (by omega) (by omega), bs, wr (by omega) (by omega), bs, ref2_count_l d (by omega) (fun left a => ih (by omega) left a) xs _ ho (by omega)]
theorem ref2_Great_eq (a : Tm) (h : a.ok) : z02_Great a = some a.great := by
 rw [z02_Great, show (400 : Int) = ((400 : Nat) : Int) from rfl, ref2_count_eq 400 (by omega) 2000 a h (by omega) (by omega), bs, Tm.great]
 by_cases h1 : 0 < Tm.count 400 2000 a
 ·rw [if_pos h1]; simp [h1]
 ·rw [if_neg h1, ref2_count_eq 400 (by omega) 40000 a h (by omega) (by omega), bs]
  by_cases h2 : Tm.count 400 40000 a ≤ 0
  ·rw [if_pos h2]; simp [h1, h2]
  ·have := (Tm.count_size 400 40000 a (by omega)).1
   rw [if_neg h2, ref2_Small_eq a (by simp only [lim]; omega), bs]; simp [h1, h2]
end Go.Proofs.Ytemfpemejagndaa.Fw

