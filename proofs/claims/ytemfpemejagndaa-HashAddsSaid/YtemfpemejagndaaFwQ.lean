/- Strings, compared. -/
import Derived.Test.YtemfpemejagndaaFwP
set_option autoImplicit false
set_option linter.unusedVariables false
set_option linter.unusedSimpArgs false
namespace Go.Proofs.Ytemfpemejagndaa.Fw
open Go Go.Proofs Go.RowKit
theorem bsize (s : ByteArray) : s.size = s.data.toList.length := by simp
/-! ### strings -/
def lcmp : List UInt8 → List UInt8 → Int
 | [], [] => 0
 | [], _ :: _ => -1
 | _ :: _, [] => 1
 | a :: x, b :: y => if a = b then lcmp x y else if a < b then -1 else 1
def bcmp (a b : ByteArray) : Int := lcmp a.toList b.toList
theorem lcmp_zero : ∀ x y : List UInt8, lcmp x y = 0 ↔ x = y
 | [], [] => by simp [lcmp]
 | [], _ :: _ => by simp [lcmp]
 | _ :: _, [] => by simp [lcmp]
 | a :: x, b :: y => by
  simp only [lcmp]
  by_cases h : a = b
  ·simp [h, lcmp_zero x y]
  ·simp only [h, if_false]
   constructor
   ·intro h'; split at h' <;> cases h'
   ·intro h'; injection h' with h1 _; exact absurd h1 h
theorem lcmp_less : ∀ x y : List UInt8, x ≠ y → lcmp x y = if Op.bytesLess x y = true then -1 else 1
 | [], [], h => absurd rfl h
 | [], _ :: _, h => by simp [lcmp, Op.bytesLess]
 | _ :: _, [], h => by simp [lcmp, Op.bytesLess]
 | a :: x, b :: y, h => by
  simp only [lcmp, Op.bytesLess]
  by_cases hab : a = b
  ·subst hab
   have h' : x ≠ y := fun e => h (by rw [e])
   have : ¬ a < a := by simp
   simp [lcmp_less x y h']
  ·simp only [hab, if_false]
   by_cases hl : a < b
   ·simp [hl]
   ·simp [hl, hab]
theorem bcmp_zero (a b : ByteArray) : bcmp a b = 0 ↔ a = b := by
 rw [bcmp, lcmp_zero]
 constructor
 ·intro h
  rw [ByteArray.toList_eq, ByteArray.toList_eq] at h
  cases a; cases b
  simp at h
  rw [h]
 ·rintro rfl; rfl
theorem bcmp_less (a b : ByteArray) (h : a ≠ b) : bcmp a b = if Op.bytesLess a.toList b.toList = true then -1 else 1 :=
 lcmp_less _ _ fun e => h ((bcmp_zero a b).1 ((lcmp_zero _ _).2 e))
def fcmp (l m : List UInt8) : Int :=
 match (List.range (min l.length m.length)).find? fun i => l[i]! != m[i]! with
 | some i => if l[i]! < m[i]! then -1 else 1
 | none => if l.length < m.length then -1 else if l.length > m.length then 1 else 0
theorem fcmp_eq : ∀ l m : List UInt8, fcmp l m = lcmp l m
 | [], [] => rfl
 | [], _ :: _ => by simp [fcmp, lcmp]
 | _ :: _, [] => by simp [fcmp, lcmp]
 | a :: x, b :: y => by
  have ih := fcmp_eq x y
  simp only [lcmp, ← ih]
  simp only [fcmp, List.length_cons, Nat.succ_min_succ, List.range_succ_eq_map, List.find?_cons]
  by_cases h : a = b
  ·subst h
   simp only [List.getElem!_cons_zero, bne_self_eq_false, if_true, List.find?_map]
   have : ((fun i => (a :: x)[i]! != (a :: y)[i]!) ∘ Nat.succ) = fun i => x[i]! != y[i]! := by
    funext i; simp
   rw [this]
   cases (List.range (min x.length y.length)).find? fun i => x[i]! != y[i]! with
   | none => simp
   | some i => simp
  ·have hne : (a != b) = true := by simpa using h
   simp [h, hne]
theorem get_toList (a : ByteArray) (i : Nat) : a[i]! = a.toList[i]! := by
 rw [ByteArray.toList_eq]
 by_cases h : i < a.size
 ·rw [getElem!_pos a i h, getElem!_pos a.data.toList i (by simpa using h)]
  rfl
 ·rw [getElem!_neg a i h, getElem!_neg a.data.toList i (by simpa using h)]
theorem cmp_bcmp (a b : ByteArray) : Extern.BytealgCompare.cmp a b = bcmp a b := by
 rw [bcmp, ← fcmp_eq]
 have h1 : ∀ c : ByteArray, c.size = c.toList.length := fun c => by rw [ByteArray.toList_eq]; exact bsize c
 unfold Extern.BytealgCompare.cmp fcmp
 simp only [get_toList, h1]
 rfl
def cmpstr (a b : ByteArray) : Option Int := some (bcmp a b)
end Go.Proofs.Ytemfpemejagndaa.Fw

