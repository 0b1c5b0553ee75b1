/- The concrete evaluator and the world: comparisons, numbers, strings, slices. -/
import Derived.Test.YtjkbljgolcdhhaaGreatDoorCB
import Derived.LaidEql
import Derived.Laws.StructEq
set_option autoImplicit false
set_option linter.unusedVariables false
set_option linter.constructorNameAsVariable false
set_option linter.unusedSimpArgs false
namespace Go.Proofs.YtjkbljgolcdhhaaGreatDoor.Fw.Cm
open Go Go.RowKit Go.WideShapes

/-! ### 1. Numbers and strings -/
theorem eqI_eq (a b : Int) : eqI a b = decide (a = b) := by
  cases a with
  | ofNat n =>
    cases b with
    | ofNat m =>
      show Nat.beq n m = _
      rw [Bool.eq_iff_iff, decide_eq_true_iff]
      exact ⟨fun h => by rw [Nat.eq_of_beq_eq_true h], fun h => by injection h with h; subst h; exact Nat.beq_refl n⟩
    | negSucc m => show false = _; rw [eq_comm, decide_eq_false_iff_not]; intro h; cases h
  | negSucc n =>
    cases b with
    | ofNat m => show false = _; rw [eq_comm, decide_eq_false_iff_not]; intro h; cases h
    | negSucc m =>
      show Nat.beq n m = _
      rw [Bool.eq_iff_iff, decide_eq_true_iff]
      exact ⟨fun h => by rw [Nat.eq_of_beq_eq_true h], fun h => by injection h with h; subst h; exact Nat.beq_refl n⟩
theorem leI_eq (a b : Int) : leI a b = decide (a ≤ b) := by
  cases a with
  | ofNat n =>
    cases b with
    | ofNat m =>
      show Nat.ble n m = _
      rw [Bool.eq_iff_iff, decide_eq_true_iff]
      exact ⟨fun h => Int.ofNat_le.2 (Nat.le_of_ble_eq_true h), fun h => Nat.ble_eq_true_of_le (Int.ofNat_le.1 h)⟩
    | negSucc m => show false = _; rw [eq_comm, decide_eq_false_iff_not]; intro h; have h1 : (0 : Int) ≤ Int.ofNat n := Int.natCast_nonneg n; have h2 := Int.negSucc_lt_zero m; omega
  | negSucc n =>
    cases b with
    | ofNat m => show true = _; rw [eq_comm, decide_eq_true_iff]; have h1 : (0 : Int) ≤ Int.ofNat m := Int.natCast_nonneg m; have h2 := Int.negSucc_lt_zero n; omega
    | negSucc m =>
      show Nat.ble m n = _
      rw [Bool.eq_iff_iff, decide_eq_true_iff]
      constructor
      · intro h; have := Nat.le_of_ble_eq_true h; omega
      · intro h; exact Nat.ble_eq_true_of_le (by omega)
theorem wrapIn {x : Int} (h : -9223372036854775808 ≤ x) (h' : x ≤ 9223372036854775807) : IntKind.i64.wrap x = x := by
  simp only [IntKind.wrap, IntKind.bits, IntKind.signed]
  simp
  omega
theorem fit_eq (k : IntKind) (x : Int) : fit k x = k.wrap x := by
  cases k with
  | i64 =>
    cases x with
    | ofNat n =>
      show Bool.rec (motive := fun _ => Int) (IntKind.i64.wrap (.ofNat n)) (.ofNat n) (Nat.blt n 9223372036854775808) = _
      cases h : Nat.blt n 9223372036854775808 with
      | false => rfl
      | true =>
        have : n < 9223372036854775808 := by simpa [Nat.blt_eq] using h
        show (Int.ofNat n) = _
        rw [wrapIn (by simp only [Int.ofNat_eq_natCast]; omega) (by simp only [Int.ofNat_eq_natCast]; omega)]
    | negSucc n =>
      show Bool.rec (motive := fun _ => Int) (IntKind.i64.wrap (.negSucc n)) (.negSucc n) (Nat.blt n 9223372036854775808) = _
      cases h : Nat.blt n 9223372036854775808 with
      | false => rfl
      | true =>
        have : n < 9223372036854775808 := by simpa [Nat.blt_eq] using h
        show (Int.negSucc n) = _
        rw [wrapIn (by omega) (by omega)]
  | _ => rfl
theorem eqB_eq (a b : Bool) : eqB a b = (a == b) := by cases a <;> cases b <;> rfl
theorem bsize (s : ByteArray) : s.size = s.data.toList.length := by simp
/-! ### strings -/
def lcmp : List UInt8 → List UInt8 → Int
  | [], [] => 0
  | [], _ :: _ => -1
  | _ :: _, [] => 1
  | a :: x, b :: y => if a = b then lcmp x y else if a < b then -1 else 1
def bcmp (a b : ByteArray) : Int := lcmp a.toList b.toList

theorem lcmp_zero : ∀ x y : List UInt8, lcmp x y = 0 ↔ x = y
  | [], [] => by simp [lcmp]
  | [], _ :: _ => by simp [lcmp]
  | _ :: _, [] => by simp [lcmp]
  | a :: x, b :: y => by
    simp only [lcmp]
    by_cases h : a = b
    · simp [h, lcmp_zero x y]
    · simp only [h, if_false]
      constructor
      · intro h'; split at h' <;> cases h'
      · intro h'; injection h' with h1 _; exact absurd h1 h
theorem lcmp_less : ∀ x y : List UInt8, x ≠ y → lcmp x y = if Op.bytesLess x y = true then -1 else 1
  | [], [], h => absurd rfl h
  | [], _ :: _, h => by simp [lcmp, Op.bytesLess]
  | _ :: _, [], h => by simp [lcmp, Op.bytesLess]
  | a :: x, b :: y, h => by
    simp only [lcmp, Op.bytesLess]
    by_cases hab : a = b
    · subst hab
      have h' : x ≠ y := fun e => h (by rw [e])
      have : ¬ a < a := by simp
      simp [lcmp_less x y h']
    · simp only [hab, if_false]
      by_cases hl : a < b
      · simp [hl]
      · simp [hl, hab]
theorem bcmp_zero (a b : ByteArray) : bcmp a b = 0 ↔ a = b := by
  rw [bcmp, lcmp_zero]
  constructor
  · intro h
    rw [ByteArray.toList_eq, ByteArray.toList_eq] at h
    cases a; cases b
    simp at h
    rw [h]
  · rintro rfl; rfl
theorem bcmp_less (a b : ByteArray) (h : a ≠ b) : bcmp a b = if Op.bytesLess a.toList b.toList = true then -1 else 1 :=
  lcmp_less _ _ fun e => h ((bcmp_zero a b).1 ((lcmp_zero _ _).2 e))

def fcmp (l m : List UInt8) : Int :=
  match (List.range (min l.length m.length)).find? fun i => l[i]! != m[i]! with
  | some i => if l[i]! < m[i]! then -1 else 1
  | none => if l.length < m.length then -1 else if l.length > m.length then 1 else 0
theorem fcmp_eq : ∀ l m : List UInt8, fcmp l m = lcmp l m
  | [], [] => rfl
  | [], _ :: _ => by simp [fcmp, lcmp]
  | _ :: _, [] => by simp [fcmp, lcmp]
  | a :: x, b :: y => by
    have ih := fcmp_eq x y
    simp only [lcmp, ← ih]
    simp only [fcmp, List.length_cons, Nat.succ_min_succ, List.range_succ_eq_map, List.find?_cons]
    by_cases h : a = b
    · subst h
      simp only [List.getElem!_cons_zero, bne_self_eq_false, if_true, List.find?_map]
      have : ((fun i => (a :: x)[i]! != (a :: y)[i]!) ∘ Nat.succ) = fun i => x[i]! != y[i]! := by
        funext i; simp
      rw [this]
      cases (List.range (min x.length y.length)).find? fun i => x[i]! != y[i]! with
      | none => simp
      | some i => simp
    · have hne : (a != b) = true := by simpa using h
      simp [h, hne]
theorem get_toList (a : ByteArray) (i : Nat) : a[i]! = a.toList[i]! := by
  rw [ByteArray.toList_eq]
  by_cases h : i < a.size
  · rw [getElem!_pos a i h, getElem!_pos a.data.toList i (by simpa using h)]
    rfl
  · rw [getElem!_neg a i h, getElem!_neg a.data.toList i (by simpa using h)]
theorem cmp_bcmp (a b : ByteArray) : Extern.BytealgCompare.cmp a b = bcmp a b := by
  rw [bcmp, ← fcmp_eq]
  have h1 : ∀ c : ByteArray, c.size = c.toList.length := fun c => by rw [ByteArray.toList_eq]; exact bsize c
  unfold Extern.BytealgCompare.cmp fcmp
  simp only [get_toList, h1]
  rfl



theorem cmpS_cons (a b : Nat) (r q : List Nat) : cmpS (a :: r) (b :: q) = if a = b then cmpS r q else if a ≤ b then 0 else 2 := by
  show Bool.rec (motive := fun _ => Nat) (Bool.rec (motive := fun _ => Nat) 2 0 (Nat.ble a b)) (cmpS r q) (Nat.beq a b) = _
  cases hb : Nat.beq a b with
  | true => rw [if_pos (Nat.eq_of_beq_eq_true hb)]
  | false =>
    rw [if_neg (fun e => by subst e; rw [Nat.beq_refl] at hb; cases hb)]
    cases hl : Nat.ble a b with
    | true => rw [if_pos (Nat.le_of_ble_eq_true hl)]
    | false => rw [if_neg (fun e => by rw [Nat.ble_eq_true_of_le e] at hl; cases hl)]
theorem ofNat_inj {a b : Nat} (ha : a < 256) (hb : b < 256) : UInt8.ofNat a = UInt8.ofNat b ↔ a = b := by
  constructor
  · intro h
    have := congrArg UInt8.toNat h
    simp at this
    omega
  · rintro rfl; rfl
theorem ofNat_lt {a b : Nat} (ha : a < 256) (hb : b < 256) : UInt8.ofNat a < UInt8.ofNat b ↔ a < b := by
  rw [UInt8.lt_iff_toNat_lt]
  simp
  omega
theorem cmpS_lcmp : ∀ (x y : List Nat), (∀ c ∈ x, c < 256) → (∀ c ∈ y, c < 256) → (cmpS x y : Int) = lcmp (x.map UInt8.ofNat) (y.map UInt8.ofNat) + 1
  | [], [], _, _ => rfl
  | [], _ :: _, _, _ => rfl
  | _ :: _, [], _, _ => rfl
  | a :: r, b :: q, hx, hy => by
    have ha := hx a (List.mem_cons_self ..)
    have hb := hy b (List.mem_cons_self ..)
    have ih := cmpS_lcmp r q (fun c hc => hx c (List.mem_cons_of_mem _ hc)) (fun c hc => hy c (List.mem_cons_of_mem _ hc))
    rw [cmpS_cons]
    simp only [List.map_cons, lcmp, ofNat_inj ha hb, ofNat_lt ha hb]
    by_cases h : a = b
    · simp only [h, if_true]; exact ih
    · simp only [h, if_false]
      by_cases hl : a < b
      · rw [if_pos (by omega), if_pos hl]; rfl
      · rw [if_neg (by omega), if_neg hl]; rfl
theorem byt_toList (s : List Nat) : (byt s).toList = s.map UInt8.ofNat := by rw [ByteArray.toList_eq]; rfl
theorem lcmp_range : ∀ x y : List UInt8, lcmp x y = -1 ∨ lcmp x y = 0 ∨ lcmp x y = 1
  | [], [] => .inr (.inl rfl)
  | [], _ :: _ => .inl rfl
  | _ :: _, [] => .inr (.inr rfl)
  | a :: x, b :: y => by
    simp only [lcmp]
    split
    · exact lcmp_range x y
    · split
      · exact .inl rfl
      · exact .inr (.inr rfl)
theorem cmpS_one {x y : List Nat} (hx : ∀ c ∈ x, c < 256) (hy : ∀ c ∈ y, c < 256) : Nat.beq (cmpS x y) 1 = ((byt x).toList == (byt y).toList) := by
  have h := cmpS_lcmp x y hx hy
  rw [byt_toList, byt_toList, Bool.eq_iff_iff, beq_iff_eq, ← lcmp_zero]
  constructor
  · intro hb; have := Nat.eq_of_beq_eq_true hb; omega
  · intro hz; have : cmpS x y = 1 := by omega
    rw [this]; rfl
theorem cmpS_zero {x y : List Nat} (hx : ∀ c ∈ x, c < 256) (hy : ∀ c ∈ y, c < 256) : Nat.beq (cmpS x y) 0 = Op.bytesLess (byt x).toList (byt y).toList := by
  have h := cmpS_lcmp x y hx hy
  rw [byt_toList, byt_toList]
  by_cases he : x.map UInt8.ofNat = y.map UInt8.ofNat
  · have h0 := (lcmp_zero _ _).2 he
    have h1 : cmpS x y = 1 := by omega
    rw [h1, he]
    have : ∀ l : List UInt8, Op.bytesLess l l = false := fun l => by
      induction l with
      | nil => rfl
      | cons a r ih => simp [Op.bytesLess, ih]
    rw [this]; rfl
  · have h0 := lcmp_less _ _ he
    cases hb : Op.bytesLess (x.map UInt8.ofNat) (y.map UInt8.ofNat) with
    | true => rw [hb] at h0; simp at h0; have : cmpS x y = 0 := by omega
              rw [this]; rfl
    | false => rw [hb] at h0; simp at h0; have : cmpS x y = 2 := by omega
               rw [this]; rfl
theorem eqS_eq {x y : List Nat} (hx : ∀ c ∈ x, c < 256) (hy : ∀ c ∈ y, c < 256) : eqS x y = ((byt x).toList == (byt y).toList) := cmpS_one hx hy
theorem byt_size (s : List Nat) : (byt s).size = s.length := by simp [byt, ByteArray.size]
theorem byt_append (s q : List Nat) : byt (s ++ q) = byt s ++ byt q := by
  have h1 : (byt (s ++ q)).data = (byt s ++ byt q).data := by
    apply Array.ext'
    rw [ByteArray.data_append]
    simp [byt]
  cases hx : byt (s ++ q) with
  | mk a => cases hy : byt s ++ byt q with
    | mk b => rw [hx, hy] at h1; simpa using h1
end Go.Proofs.YtjkbljgolcdhhaaGreatDoor.Fw.Cm

/- The concrete evaluator and the world: operations on two values. -/
namespace Go.Proofs.YtjkbljgolcdhhaaGreatDoor.Fw.Cm
open Go Go.RowKit Go.WideShapes

theorem outB_ok {b : Bool} {h : H} {top : Nat} {K : K} {r : R} (he : outB b h top K = r) : K (.o (.b b)) h top = r := by
  unfold outB at he; rw [sBool_eq] at he; exact he
theorem outI_ok {k : Nat} {n : Int} {h : H} {top : Nat} {K : K} {r : R} (he : outI k n h top K = r) : K (.o (.i k n)) h top = r := by
  unfold outI at he; rw [sInt_eq] at he; exact he
theorem two2_ok {k : Nat} {a b : E → W} {e : E} {K : Int → Int → R} {r : R} (he : two2 k a b e K = r) (hg : Good r) : ∃ n m, a e = .o (.i k n) ∧ b e = .o (.i k m) ∧ K n m = r := by
  obtain ⟨x, y, h1, h2, he⟩ := two_ok he hg
  replace he := V.int_ok he hg; obtain ⟨c, n, rfl, he⟩ := he
  replace he := V.int_ok he hg; obtain ⟨c', m, rfl, he⟩ := he
  obtain ⟨e1, he⟩ := gd_ok he hg
  obtain ⟨e2, he⟩ := gd_ok he hg
  have e1 := Nat.eq_of_beq_eq_true e1
  have e2 := Nat.eq_of_beq_eq_true e2
  exact ⟨n, m, by rw [h1, e1], by rw [h2, e2], he⟩

section
variable {P : Program} {T : TT} {dst : Option Tmp} {ty : TypeId} {pos : String} {after : Array Edge} {guard : Option (Nat × Bool)}

theorem guard_run {w : World} {op : BinOp} {t : TypeId} {ox oy : Operand} {vx vy v : Value} (h1 : ∀ cs, vx ≠ .agg cs) (h2 : vx ≠ .nilIface ∨ vy ≠ .nilIface) (hv : (Go.binOp op t vx vy).run P w = .ok v w) :
    (do pure (.value (← (do eqGuard op t ox oy vx vy; Go.binOp op t vx vy : Sem Value))) : Sem Next).run P w = .ok (.value v) w := by
  refine val_run ?_
  rw [eqGuard_pure op t ox oy h1 h2]
  simpa using hv

theorem s_intC {op : BinOp} {t yt : TypeId} {x y : Operand} {f g : E → W} {k : IntKind} {F : Int → Int → Bool} (hx : evb x = .mk f) (hy : evb y = .mk g)
    (hF : ∀ (n m : Int) (w : World), (Go.binOp op t (.int k n) (.int k m)).run P w = .ok (.bool (F n m)) w) : OpP P ⟨dst, .binOp op t x y yt, ty, pos, after, guard⟩ (intC (kc k) F f g) :=
  ⟨fun {rc e h top K r} hg he => by
    obtain ⟨n, m, h1, h2, he⟩ := two2_ok he hg
    refine ⟨_, outB_ok he, fun {B κ a w} hr hE => ⟨.bool (F n m), ?_, rfl⟩⟩
    have h3 := evb_rel hx hE; rw [h1] at h3
    have h4 := evb_rel hy hE; rw [h2] at h4
    have h3 : a.eval x = .int k n := by rw [← kd_kc k]; exact h3
    have h4 : a.eval y = .int k m := by rw [← kd_kc k]; exact h4
    simp only [execOp, h3, h4]
    exact guard_run (by simp) (by simp) (hF n m w)⟩
theorem s_intA {op : BinOp} {t yt : TypeId} {x y : Operand} {f g : E → W} {k : IntKind} {F : Int → Int → Int} (hx : evb x = .mk f) (hy : evb y = .mk g)
    (hF : ∀ (n m : Int) (w : World), (Go.binOp op t (.int k n) (.int k m)).run P w = .ok (.int k (F n m)) w) : OpP P ⟨dst, .binOp op t x y yt, ty, pos, after, guard⟩ (intA (kc k) F f g) :=
  ⟨fun {rc e h top K r} hg he => by
    obtain ⟨n, m, h1, h2, he⟩ := two2_ok he hg
    refine ⟨_, outI_ok he, fun {B κ a w} hr hE => ⟨.int k (F n m), ?_, by show Value.int k (F n m) = .int (kd (kc k)) (F n m); rw [kd_kc]⟩⟩
    have h3 := evb_rel hx hE; rw [h1] at h3
    have h4 := evb_rel hy hE; rw [h2] at h4
    have h3 : a.eval x = .int k n := by rw [← kd_kc k]; exact h3
    have h4 : a.eval y = .int k m := by rw [← kd_kc k]; exact h4
    simp only [execOp, h3, h4]
    exact guard_run (by simp) (by simp) (hF n m w)⟩
theorem s_intD {op : BinOp} {t yt : TypeId} {x y : Operand} {f g : E → W} {k : IntKind} {F : Int → Int → Int} (hx : evb x = .mk f) (hy : evb y = .mk g)
    (hF : ∀ (n m : Int) (w : World), m ≠ 0 → (Go.binOp op t (.int k n) (.int k m)).run P w = .ok (.int k (F n m)) w) : OpP P ⟨dst, .binOp op t x y yt, ty, pos, after, guard⟩ (intD (kc k) F f g) :=
  ⟨fun {rc e h top K r} hg he => by
    obtain ⟨n, m, h1, h2, he⟩ := two2_ok he hg
    obtain ⟨h0, he⟩ := gd_ok he hg
    have hm : m ≠ 0 := by rw [not'_eq, eqI_eq] at h0; simpa using h0
    refine ⟨_, outI_ok he, fun {B κ a w} hr hE => ⟨.int k (F n m), ?_, by show Value.int k (F n m) = .int (kd (kc k)) (F n m); rw [kd_kc]⟩⟩
    have h3 := evb_rel hx hE; rw [h1] at h3
    have h4 := evb_rel hy hE; rw [h2] at h4
    have h3 : a.eval x = .int k n := by rw [← kd_kc k]; exact h3
    have h4 : a.eval y = .int k m := by rw [← kd_kc k]; exact h4
    simp only [execOp, h3, h4]
    exact guard_run (by simp) (by simp) (hF n m w hm)⟩
theorem s_binI {op : BinOp} {t yt : TypeId} {x y : Operand} {f g : E → W} {k : IntKind} {q : Op'} (hx : evb x = .mk f) (hy : evb y = .mk g) (h : binI op k f g = .mk q) : OpP P ⟨dst, .binOp op t x y yt, ty, pos, after, guard⟩ q := by
  unfold binI at h
  split at h <;> (try cases h) <;> (try (injection h with h; subst h))
  · exact s_intA hx hy fun n m w => by rw [fit_eq]; simp [Go.binOp, Op.intArith]
  · exact s_intA hx hy fun n m w => by rw [fit_eq]; simp [Go.binOp, Op.intArith]
  · exact s_intA hx hy fun n m w => by rw [fit_eq]; simp [Go.binOp, Op.intArith]
  · exact s_intD hx hy fun n m w hm => by rw [fit_eq]; simp [Go.binOp, Op.intDiv, hm]
  · exact s_intD hx hy fun n m w hm => by simp [Go.binOp, Op.intDiv, hm]
  · exact s_intC hx hy fun n m w => by rw [eqI_eq]; simp [Go.binOp, Op.intCmp]; rfl
  · exact s_intC hx hy fun n m w => by rw [not'_eq, eqI_eq]; simp [Go.binOp, Op.intCmp]; rfl
  · exact s_intC hx hy fun n m w => by rw [not'_eq, leI_eq, ← decide_not]; simp [Go.binOp, Op.intCmp]
  · exact s_intC hx hy fun n m w => by rw [leI_eq]; simp [Go.binOp, Op.intCmp]
  · exact s_intC hx hy fun n m w => by rw [not'_eq, leI_eq, ← decide_not]; simp [Go.binOp, Op.intCmp]
  · exact s_intC hx hy fun n m w => by rw [leI_eq]; simp [Go.binOp, Op.intCmp]
theorem s_strC {op : BinOp} {t yt : TypeId} {x y : Operand} {f g : E → W} {F : Nat → Bool} (hx : evb x = .mk f) (hy : evb y = .mk g)
    (hF : ∀ (s q : List Nat) (w : World), (∀ c ∈ s, c < 256) → (∀ c ∈ q, c < 256) → (Go.binOp op t (.string (byt s)) (.string (byt q))).run P w = .ok (.bool (F (cmpS s q))) w) : OpP P ⟨dst, .binOp op t x y yt, ty, pos, after, guard⟩ (strC F f g) :=
  ⟨fun {rc e h top K r} hg he => by
    obtain ⟨v1, v2, h1, h2, he⟩ := two_ok he hg
    replace he := V.str_ok he hg; obtain ⟨s, rfl, he⟩ := he
    replace he := V.str_ok he hg; obtain ⟨q, rfl, he⟩ := he
    refine ⟨_, outB_ok he, fun {B κ a w} hr hE => ⟨.bool (F (cmpS s q)), ?_, rfl⟩⟩
    have h3 := evb_rel hx hE; rw [h1] at h3
    have h4 := evb_rel hy hE; rw [h2] at h4
    obtain ⟨h3, k3⟩ := h3
    obtain ⟨h4, k4⟩ := h4
    simp only [execOp, h3, h4]
    exact guard_run (by simp) (by simp) (hF s q w k3 k4)⟩
theorem s_binS {op : BinOp} {t yt : TypeId} {x y : Operand} {f g : E → W} {q : Op'} (hx : evb x = .mk f) (hy : evb y = .mk g) (h : binS op f g = .mk q) : OpP P ⟨dst, .binOp op t x y yt, ty, pos, after, guard⟩ q := by
  unfold binS at h
  split at h <;> (try cases h) <;> (try (injection h with h; subst h))
  · exact s_strC hx hy fun s q w h1 h2 => by rw [cmpS_one h1 h2]; simp only [Go.binOp, Op.stringOp]; rfl
  · exact s_strC hx hy fun s q w h1 h2 => by rw [not'_eq, cmpS_one h1 h2]; simp only [Go.binOp, Op.stringOp]; rfl
  · exact s_strC hx hy fun s q w h1 h2 => by rw [cmpS_zero h1 h2]; simp only [Go.binOp, Op.stringOp]; rfl
  · refine ⟨fun {rc e h top K r} hg he => ?_⟩
    obtain ⟨v1, v2, h1, h2, he⟩ := two_ok he hg
    replace he := V.str_ok he hg; obtain ⟨s, rfl, he⟩ := he
    replace he := V.str_ok he hg; obtain ⟨q, rfl, he⟩ := he
    obtain ⟨hl, he⟩ := gd_ok he hg
    have hl : nLen s + nLen q < 1000000000000 := by simpa [Nat.blt_eq] using hl
    rw [nLen_eq, nLen_eq] at hl
    refine ⟨_, he, fun {B κ a w} hr hE => ⟨.string (byt (s ++ q)), ?_, ?_⟩⟩
    · have h3 := evb_rel hx hE; rw [h1] at h3
      have h4 := evb_rel hy hE; rw [h2] at h4
      simp only [execOp, h3.1, h4.1]
      refine guard_run (by simp) (by simp) ?_
      simp only [Go.binOp, Op.stringOp]
      rw [if_neg, byt_append]
      · rfl
      · have : IntKind.i64.max = 9223372036854775807 := by decide
        rw [this, byt_size, byt_size]; omega
    · have h3 := evb_rel hx hE; rw [h1] at h3
      have h4 := evb_rel hy hE; rw [h2] at h4
      show _ = Value.string (byt (nCat s q)) ∧ _
      rw [nCat_eq]
      refine ⟨rfl, fun c hc => ?_⟩
      rcases List.mem_append.1 hc with hc | hc
      · exact h3.2 c hc
      · exact h4.2 c hc

/-! ### equality of others -/
/-- what a comparison says -/
def CmpOk (P : Program) (t : TypeId) (cmp : (Nat → Nat → Bool) → V → V → (Bool → R) → R) : Prop :=
  ∀ {h : H} {x y : V} {K : Bool → R} {r : R}, Good r → cmp (alive h) x y K = r → ∃ c, K c = r ∧ ∀ {B : Nat} {κ : Kap} {top : Nat} {w : World} {u v : Value}, HR B κ h top w → VR κ x u → VR κ y v →
    (∀ n, (Op.equalIn (n + 1) t u v).run P w = .ok c w)
theorem bB_ok {v : V} {k : Bool → R} {r : R} (h : v.bB k = r) (hr : Good r) : ∃ b, v = .b b ∧ k b = r := by
  cases v <;> first | (subst h; exact hr.bad) | exact ⟨_, rfl, h⟩
theorem nilP_ok {v : V} {k : Bool → R} {r : R} (h : v.nilP k = r) (hr : Good r) : (v = .p0 ∧ k true = r) ∨ ∃ o g off, v = .p o g off ∧ k false = r := by
  cases v <;> first | (subst h; exact hr.bad) | exact .inl ⟨rfl, h⟩ | exact .inr ⟨_, _, _, rfl, h⟩
theorem eqBo_ok {t : TypeId} (hu : P.underlying t = some .bool) : CmpOk P t eqBo := by
  intro h x y K r hg he
  replace he := bB_ok he hg; obtain ⟨a, rfl, he⟩ := he
  replace he := bB_ok he hg; obtain ⟨b, rfl, he⟩ := he
  rw [sBool_eq, eqB_eq] at he
  refine ⟨_, he, fun {B κ top w u v} hr h1 h2 n => ?_⟩
  have h1 : u = .bool a := h1
  have h2 : v = .bool b := h2
  subst h1; subst h2
  simp [Op.equalIn, hu, underlying]
theorem eqP_ok {t e : TypeId} {j : TypeInfo} (hu : P.underlying t = some (.pointer e)) (hj : P.info? e = some j) (hs : j.size ≠ 0) : CmpOk P t eqP := by
  have hsz : ∀ w : World, (sizeOf e).run P w = .ok j.size w := fun w => by simp [sizeOf, typeInfo, hj]
  intro h x y K r hg he
  cases x with
  | p0 =>
    rcases nilP_ok he hg with ⟨rfl, he⟩ | ⟨o, g, off, rfl, he⟩
    · refine ⟨true, he, fun {B κ top w u v} hr h1 h2 n => ?_⟩
      have h1 : u = .pointer none := h1
      have h2 : v = .pointer none := h2
      subst h1; subst h2
      simp [Op.equalIn, hu, underlying]
    · refine ⟨false, he, fun {B κ top w u v} hr h1 h2 n => ?_⟩
      have h1 : u = .pointer none := h1
      obtain ⟨b, d, m, _, _, h2⟩ := h2
      subst h1; subst h2
      simp [Op.equalIn, hu, underlying]
  | p o g off =>
    cases y with
    | p0 =>
      refine ⟨false, he, fun {B κ top w u v} hr h1 h2 n => ?_⟩
      obtain ⟨b, d, m, _, _, h1⟩ := h1
      have h2 : v = .pointer none := h2
      subst h1; subst h2
      simp [Op.equalIn, hu, underlying]
    | p o2 g2 off2 =>
      have he : ifB (Nat.beq o o2) (gd (Nat.beq g g2) (gd (alive h o2 g2) (sBool (Nat.beq off off2) K))) (gd (and' (alive h o g) (alive h o2 g2)) (K false)) = r := he
      rw [ifB_eq] at he
      split at he
      · rename_i ho
        have ho := Nat.eq_of_beq_eq_true ho
        subst ho
        obtain ⟨h1, he⟩ := gd_ok he hg
        have h1 := Nat.eq_of_beq_eq_true h1
        subst h1
        obtain ⟨h2, he⟩ := gd_ok he hg
        rw [sBool_eq] at he
        refine ⟨_, he, fun {B κ top w u v} hr h3 h4 n => ?_⟩
        obtain ⟨b, d, m, k1, k2, h3⟩ := h3
        obtain ⟨b', d', m', k3, k4, h4⟩ := h4
        rw [k1] at k3; injection k3 with k3; injection k3 with e1 e2; injection e2 with e2 e3
        subst e1; subst e2; subst e3; subst h3; subst h4
        cases hb : Nat.beq off off2 with
        | true =>
          have := Nat.eq_of_beq_eq_true hb
          subst this
          simp [Op.equalIn, hu, underlying, hsz, hs, run_sameAddr_same]
        | false =>
          have hne : off ≠ off2 := fun e => by subst e; rw [Nat.beq_refl] at hb; cases hb
          have : (sameAddr (⟨b, off - d, none⟩ : Addr) ⟨b, off2 - d, none⟩).run P w = .ok false w := by
            have : ¬ (off - d = off2 - d) := by omega
            simp [sameAddr, this]
          simp [Op.equalIn, hu, underlying, hsz, hs, this]
      · rename_i ho
        have ho : o ≠ o2 := fun e => by subst e; rw [Nat.beq_refl] at ho; exact ho rfl
        obtain ⟨h1, he⟩ := gd_ok he hg
        rw [and'_eq, Bool.and_eq_true] at h1
        refine ⟨false, he, fun {B κ top w u v} hr h3 h4 n => ?_⟩
        obtain ⟨b, d, m, k1, k2, h3⟩ := h3
        obtain ⟨b', d', m', k3, k4, h4⟩ := h4
        have hbb : b ≠ b' := fun e => by subst e; exact ho (hr.inj o g b d m o2 g2 d' m' k1 k3 h1.1 h1.2).1
        have hc : ∀ o g b d n, κ.m o g = some (b, d, n) → alive h o g = true → ∃ vs t, w.heap[b]? = some (.cells vs t (0, 0)) := by
          intro o g b d n hm ha
          obtain ⟨lo, g', l, q1, q2, q3, q4⟩ := hr.cell o g b d n hm
          obtain ⟨_, vs, t, q5, _⟩ := q4 ((alive_c q1).1 ha)
          exact ⟨vs, t, q5⟩
        obtain ⟨vs, t1, c1⟩ := hc o g b d m k1 h1.1
        obtain ⟨us, t2, c2⟩ := hc o2 g2 b' d' m' k3 h1.2
        subst h3; subst h4
        have := run_sameAddr_other (P := P) w (a := ⟨b, off - d, none⟩) (b := ⟨b', off2 - d', none⟩) (by simp [hbb]) c1 c2
        simp [Op.equalIn, hu, underlying, hsz, hs, this]
    | _ => have he : R.bad 11 = r := he
           subst he; exact hg.bad
  | _ => have he : R.bad 11 = r := he
         subst he; exact hg.bad
end
end Go.Proofs.YtjkbljgolcdhhaaGreatDoor.Fw.Cm

/- The concrete evaluator and the world: comparisons with nil, of structs. -/
namespace Go.Proofs.YtjkbljgolcdhhaaGreatDoor.Fw.Cm
open Go Go.RowKit Go.WideShapes

section
variable {P : Program} {T : TT} {dst : Option Tmp} {ty : TypeId} {pos : String} {after : Array Edge} {guard : Option (Nat × Bool)}

/-- nil or not: what a value of this kind is -/
def NilOk (f : V → (Bool → R) → R) (q : Value → Bool) : Prop := ∀ {x : V} {K : Bool → R} {r : R}, Good r → f x K = r → ∃ c, K c = r ∧ ∀ {κ : Kap} {u : Value}, VR κ x u → q u = c
def isNilS : Value → Bool
  | .slice none _ _ => true
  | _ => false
def isNilM : Value → Bool
  | .map none => true
  | _ => false
def isNilF : Value → Bool
  | .nilFunc => true
  | _ => false
def kindS : Value → Bool
  | .slice _ _ _ => true
  | _ => false
def kindM : Value → Bool
  | .map _ => true
  | _ => false
def kindF : Value → Bool
  | .nilFunc => true
  | .func _ _ _ => true
  | _ => false
theorem nilS_ok {x : V} {K : Bool → R} {r : R} (hg : Good r) (he : x.nilS K = r) : ∃ c, K c = r ∧ ∀ {κ : Kap} {u : Value}, VR κ x u → isNilS u = c ∧ kindS u = true := by
  cases x <;> first
    | (have he : R.bad 9 = r := he; subst he; exact hg.bad)
    | exact ⟨true, he, fun h => by have h : _ = _ := h; subst h; exact ⟨rfl, rfl⟩⟩
    | exact ⟨false, he, fun h => by obtain ⟨b, d, n, _, _, _, _, rfl⟩ := h; exact ⟨rfl, rfl⟩⟩
    | exact ⟨false, he, fun h => by obtain ⟨b, d, n, cap, _, _, _, _, _, _, _, rfl⟩ := h; exact ⟨rfl, rfl⟩⟩
    | exact ⟨false, he, fun h => by obtain ⟨a, cap, rfl⟩ := h; exact ⟨rfl, rfl⟩⟩
theorem nilM_ok {x : V} {K : Bool → R} {r : R} (hg : Good r) (he : x.nilM K = r) : ∃ c, K c = r ∧ ∀ {κ : Kap} {u : Value}, VR κ x u → isNilM u = c ∧ kindM u = true := by
  cases x <;> first
    | (have he : R.bad 9 = r := he; subst he; exact hg.bad)
    | exact ⟨true, he, fun h => by have h : _ = _ := h; subst h; exact ⟨rfl, rfl⟩⟩
    | exact ⟨false, he, fun h => by obtain ⟨b, _, rfl⟩ := h; exact ⟨rfl, rfl⟩⟩
theorem nilF_ok {x : V} {K : Bool → R} {r : R} (hg : Good r) (he : x.nilF K = r) : ∃ c, K c = r ∧ ∀ {κ : Kap} {u : Value}, VR κ x u → isNilF u = c ∧ kindF u = true := by
  cases x <;> first
    | (have he : R.bad 9 = r := he; subst he; exact hg.bad)
    | exact ⟨true, he, fun h => by have h : _ = _ := h; subst h; exact ⟨rfl, rfl⟩⟩
    | exact ⟨false, he, fun h => by obtain ⟨us, cs, _, rfl⟩ := h; exact ⟨rfl, rfl⟩⟩
    | exact ⟨false, he, fun h => by obtain ⟨b, _, rfl⟩ := h; exact ⟨rfl, rfl⟩⟩
theorem eqNil_ok {t : TypeId} {f : V → (Bool → R) → R} {q kq : Value → Bool} (hf : ∀ {x : V} {K : Bool → R} {r : R}, Good r → f x K = r → ∃ c, K c = r ∧ ∀ {κ : Kap} {u : Value}, VR κ x u → q u = c ∧ kq u = true)
    (hq : ∀ (w : World) (u v : Value) (n : Nat), kq u = true → kq v = true → (q u = true ∨ q v = true) → (Op.equalIn (n + 1) t u v).run P w = .ok (q u && q v) w) : CmpOk P t (eqNil f) := by
  intro h x y K r hg he
  obtain ⟨c, he, h1⟩ := hf hg he
  obtain ⟨d, he, h2⟩ := hf hg he
  obtain ⟨h3, he⟩ := gd_ok he hg
  rw [sBool_eq, and'_eq] at he
  refine ⟨_, he, fun {B κ top w u v} hr hu hv n => ?_⟩
  obtain ⟨e1, k1⟩ := h1 hu
  obtain ⟨e2, k2⟩ := h2 hv
  rw [← e1, ← e2]
  refine hq w u v n k1 k2 ?_
  rw [e1, e2]
  rw [not'_eq, and'_eq, not'_eq, not'_eq] at h3
  cases c <;> cases d <;> simp at h3 ⊢
theorem eqS_nil {t e : TypeId} (hu : P.underlying t = some (.slice e)) : CmpOk P t (eqNil V.nilS) := eqNil_ok nilS_ok fun w u v n h1 h2 h3 => by
  cases u <;> simp [kindS] at h1
  cases v <;> simp [kindS] at h2
  rename_i a _ _ b _ _
  cases a <;> cases b <;> simp [isNilS] at h3 <;> simp [Op.equalIn, hu, underlying, isNilS]
theorem eqM_nil {t k e : TypeId} (hu : P.underlying t = some (.map k e)) : CmpOk P t (eqNil V.nilM) := eqNil_ok nilM_ok fun w u v n h1 h2 h3 => by
  cases u <;> simp [kindM] at h1
  cases v <;> simp [kindM] at h2
  rename_i a b
  cases a <;> cases b <;> simp [isNilM] at h3 <;> simp [Op.equalIn, hu, underlying, isNilM]
theorem eqF_nil {t : TypeId} {a : Array TypeId} {b : Array TypeId} {c : Bool} (hu : P.underlying t = some (.func a b c)) : CmpOk P t (eqNil V.nilF) := eqNil_ok nilF_ok fun w u v n h1 h2 h3 => by
  cases u <;> simp [kindF] at h1 <;> cases v <;> simp [kindF] at h2 <;> simp [isNilF] at h3 <;> simp [Op.equalIn, hu, underlying, isNilF]

theorem VR.noAgg {κ : Kap} {x : V} {v : Value} (h : VR κ x v) : (∀ cs, v ≠ .agg cs) := h.one.1
theorem s_eqO {op : BinOp} {t yt : TypeId} {x y : Operand} {f g : E → W} {cmp : (Nat → Nat → Bool) → V → V → (Bool → R) → R} {q : Op'} (hx : evb x = .mk f) (hy : evb y = .mk g) (hc : CmpOk P t cmp)
    (hk : ∀ {κ : Kap} {h : H} {x y : V} {K : Bool → R} {r : R} {u v : Value}, Good r → cmp (alive h) x y K = r → VR κ x u → VR κ y v → (u ≠ .nilIface) ∧ (∀ k n, u ≠ .int k n) ∧ (∀ k n, u ≠ .float k n) ∧ (∀ k n m, u ≠ .complex k n m) ∧ ∀ s, u ≠ .string s)
    (h : eqneq op (fun neg => eqO cmp neg f g) = .mk q) : OpP P ⟨dst, .binOp op t x y yt, ty, pos, after, guard⟩ q := by
  have key : ∀ neg, (op = if neg = true then .neq else .eql) → OpP P ⟨dst, .binOp op t x y yt, ty, pos, after, guard⟩ (eqO cmp neg f g) := by
    intro neg hop
    refine ⟨fun {rc e h top K r} hg he => ?_⟩
    obtain ⟨v1, v2, h1, h2, he⟩ := two_ok he hg
    have he0 := he
    obtain ⟨c, he, h3⟩ := hc hg he
    refine ⟨_, outB_ok he, fun {B κ a w} hr hE => ⟨.bool (negB neg c), ?_, rfl⟩⟩
    have k1 := evb_rel hx hE; rw [h1] at k1
    have k2 := evb_rel hy hE; rw [h2] at k2
    obtain ⟨q1, q2, q3, q4, q5⟩ := hk hg he0 k1 k2
    have k3 := h3 hr k1 k2
    have hn := VR.noAgg (x := v1) k1
    simp only [execOp]
    refine guard_run hn (.inl q1) ?_
    have heq : (Op.equal t (a.eval x) (a.eval y)).run P w = .ok c w := k3 9999
    generalize a.eval x = u at *
    generalize a.eval y = v at *
    cases neg with
    | false =>
      subst hop
      have : Go.binOp .eql t u v = (do pure (.bool (← Op.equal t u v)) : Sem Value) := by
        unfold Go.binOp
        split <;> first | rfl | (exact absurd rfl (q2 _ _)) | (exact absurd rfl (q3 _ _)) | (exact absurd rfl (q4 _ _ _)) | (exact absurd rfl (q5 _)) | simp_all
      simp only [if_false, Bool.false_eq_true]
      rw [this]
      simp [heq]; rfl
    | true =>
      subst hop
      have : Go.binOp .neq t u v = (do pure (.bool (!(← Op.equal t u v))) : Sem Value) := by
        unfold Go.binOp
        split <;> first | rfl | (exact absurd rfl (q2 _ _)) | (exact absurd rfl (q3 _ _)) | (exact absurd rfl (q4 _ _ _)) | (exact absurd rfl (q5 _)) | simp_all
      simp only [if_true]
      rw [this]
      simp [heq]
      show c = !(not' c)
      rw [not'_eq, Bool.not_not]
  unfold eqneq at h
  split at h
  · injection h with h; subst h; exact key false rfl
  · injection h with h; subst h; exact key true rfl
  · cases h

/-! ### structs -/
theorem eqF1_ok {t : TypeId} {f : Field} {k : Nat} (hf : fkind P f = some k) : CmpOk P f.type (eqF1 k) := by
  unfold fkind at hf
  split at hf
  · rename_i e h1 hu
    split at hf
    · rename_i j hj
      split at hf
      · cases hf
      · rename_i hs
        injection hf with hf; subst hf
        exact eqP_ok hu hj hs
    · cases hf
  · rename_i k' h1 hu
    injection hf with hf; subst hf
    intro h x y K r hg he
    replace he : (x.int fun k n => y.int fun k' m => gd (Nat.beq k k') (sBool (eqI n m) K)) = r := he
    replace he := V.int_ok he hg; obtain ⟨c, n, rfl, he⟩ := he
    replace he := V.int_ok he hg; obtain ⟨c', m, rfl, he⟩ := he
    obtain ⟨e1, he⟩ := gd_ok he hg
    have e1 := Nat.eq_of_beq_eq_true e1
    rw [sBool_eq, eqI_eq] at he
    refine ⟨_, he, fun {B κ top w u v} hr h1 h2 n => ?_⟩
    have h1 : u = .int (kd c) _ := h1
    have h2 : v = .int (kd c') _ := h2
    subst h1; subst h2; subst e1
    rw [run_equalIn_int w n f.type _ _ _ _ hu]
    congr 1
  · rename_i h1 hu
    injection hf with hf; subst hf
    intro h x y K r hg he
    replace he : (x.str fun s => y.str fun q => sBool (eqS s q) K) = r := he
    replace he := V.str_ok he hg; obtain ⟨s, rfl, he⟩ := he
    replace he := V.str_ok he hg; obtain ⟨q, rfl, he⟩ := he
    rw [sBool_eq] at he
    refine ⟨_, he, fun {B κ top w u v} hr h1 h2 n => ?_⟩
    obtain ⟨h1, k1⟩ := h1
    obtain ⟨h2, k2⟩ := h2
    subst h1; subst h2
    rw [run_equalIn_string w n f.type _ _ hu, eqS_eq k1 k2]
  · rename_i h1 hu
    injection hf with hf; subst hf
    exact eqBo_ok hu
  · cases hf
theorem fkind_part {f : Field} {k : Nat} (hf : fkind P f = some k) (w : World) (xs : Array Value) (i : Nat) (v : Value) (hv : xs[i]? = some v) : (part f.type xs i).run P w = .ok v w := by
  unfold fkind at hf
  split at hf
  · rename_i e h1 hu; rw [run_part hu h1]; simp [aggB, hv]
  · rename_i e h1 hu; rw [run_part hu h1]; simp [aggB, hv]
  · rename_i h1 hu; rw [run_part hu h1]; simp [aggB, hv]
  · rename_i h1 hu; rw [run_part hu h1]; simp [aggB, hv]
  · cases hf
theorem eqFs_ok : ∀ {fs : List Field} {i : Nat} {ks : List Nat} {f : (Nat → Nat → Bool) → L → L → (Bool → R) → R}, fkinds P i fs = some ks → eqFs ks = .mk f → ∀ {h : H} {x y : L} {K : Bool → R} {r : R}, Good r → f (alive h) x y K = r →
    ∃ c, K c = r ∧ ∀ {B : Nat} {κ : Kap} {top : Nat} {w : World} {xs ys : Array Value}, HR B κ h top w → LR κ x.list (xs.toList.drop i) → LR κ y.list (ys.toList.drop i) → ∀ n, (Op.eqFields (n + 1) xs ys fs).run P w = .ok c w
  | [], i, ks, f, hk, hf, h, x, y, K, r, hg, he => by
    injection hk with hk; subst hk
    injection hf with hf; subst hf
    cases x with
    | cons a q => have he : R.bad 12 = r := he
                  subst he; exact hg.bad
    | nil =>
      cases y with
      | cons a q => have he : R.bad 12 = r := he
                    subst he; exact hg.bad
      | nil => exact ⟨true, he, fun {B κ top w xs ys} hr h1 h2 n => rfl⟩
  | fd :: fs, i, ks, f, hk, hf, h, x, y, K, r, hg, he => by
    unfold fkinds at hk
    split at hk
    · rename_i k ks' e1 e2 e3 e4
      injection hk with hk; subst hk
      have hname : fd.name ≠ "_" := of_decide_eq_true e1
      have hoff := Nat.eq_of_beq_eq_true e2
      have hf' : FB.rec (motive := fun _ => FB) (fun f => .mk fun hp x y K => L.rec (motive := fun _ => R) (.bad 12) (fun a x _ => L.rec (motive := fun _ => R) (.bad 12) (fun b y _ => eqF1 k hp a b fun c => f hp x y fun d => sBool (and' c d) K) y) x) (eqFs ks') = FB.mk f := hf
      cases hq : eqFs ks' with
      | mk g =>
        rw [hq] at hf'
        injection hf' with hf'; subst hf'
        cases x with
        | nil => have he : R.bad 12 = r := he
                 subst he; exact hg.bad
        | cons a x =>
          cases y with
          | nil => have he : R.bad 12 = r := he
                   subst he; exact hg.bad
          | cons b y =>
            have he : (eqF1 k (alive h) a b fun c => g (alive h) x y fun d => sBool (and' c d) K) = r := he
            obtain ⟨c, he, h1⟩ := eqF1_ok (t := 0) e3 hg he
            obtain ⟨d, he, h2⟩ := eqFs_ok e4 hq hg he
            rw [sBool_eq, and'_eq] at he
            refine ⟨_, he, fun {B κ top w xs ys} hr hx hy n => ?_⟩
            obtain ⟨u, us, hu, hu1, hu2⟩ := LR.uncons hx
            obtain ⟨v, vs, hv, hv1, hv2⟩ := LR.uncons hy
            have gx : xs[i]? = some u := by rw [← Array.getElem?_toList]; have := congrArg (fun l => l[0]?) hu; simpa using this
            have gy : ys[i]? = some v := by rw [← Array.getElem?_toList]; have := congrArg (fun l => l[0]?) hv; simpa using this
            have dx : xs.toList.drop (i + 1) = us := by rw [← List.drop_drop, hu]; rfl
            have dy : ys.toList.drop (i + 1) = vs := by rw [← List.drop_drop, hv]; rfl
            have k1 := h1 hr hu1 hv1 n
            have k2 := h2 (w := w) (xs := xs) (ys := ys) hr (by rw [dx]; exact hu2) (by rw [dy]; exact hv2) n
            unfold Op.eqFields
            rw [if_pos hname, hoff]
            simp only [Sem.run_bind, fkind_part e3 w xs i u gx, fkind_part e3 w ys i v gy, Result.andThen_ok, k1]
            cases c with
            | false => simp
            | true => simp [k2]
    · cases hk
theorem s_eqA {op : BinOp} {t yt : TypeId} {x y : Operand} {f g : E → W} {fs : Array Field} {ks : List Nat} {F : (Nat → Nat → Bool) → L → L → (Bool → R) → R} {q : Op'} (hx : evb x = .mk f) (hy : evb y = .mk g) (hu : P.underlying t = some (.struct fs))
    (hk : fkinds P 0 fs.toList = some ks) (hs : P.stoodInHeld t = false) (hm : P.eqGuardType P.depth t = false) (hF : eqFs ks = .mk F)
    (h : eqneq op (fun neg => eqA F neg f g) = .mk q) : OpP P ⟨dst, .binOp op t x y yt, ty, pos, after, guard⟩ q := by
  have hfo : P.fieldsOf t = fs := by simp [Program.fieldsOf, hu]
  have key : ∀ neg, (op = if neg = true then .neq else .eql) → OpP P ⟨dst, .binOp op t x y yt, ty, pos, after, guard⟩ (eqA F neg f g) := by
    intro neg hop
    refine ⟨fun {rc e h top K r} hg he => ?_⟩
    obtain ⟨l1, h1, he⟩ := W.agK_ok he hg
    obtain ⟨l2, h2, he⟩ := W.agK_ok he hg
    obtain ⟨c, he, h3⟩ := eqFs_ok hk hF hg he
    refine ⟨_, outB_ok he, fun {B κ a w} hr hE => ⟨.bool (negB neg c), ?_, rfl⟩⟩
    have k1 := evb_rel hx hE; rw [h1] at k1
    have k2 := evb_rel hy hE; rw [h2] at k2
    obtain ⟨us, hu1, hu2⟩ := k1
    obtain ⟨vs, hv1, hv2⟩ := k2
    have heq : (Op.equalIn 10000 t (.agg us.toArray) (.agg vs.toArray)).run P w = .ok c w := by
      rw [run_equalIn_struct w 9999 t _ _ (by rw [hfo]; exact hu) hs, hfo]
      exact h3 hr (by simpa using hu2) (by simpa using hv2) 9998
    simp only [execOp, hu1, hv1]
    refine val_run ?_
    simp only [Sem.run_bind, run_eqGuard_agg w op t x y _ _ hm, Result.andThen_ok]
    cases neg with
    | false => subst hop; simp only [if_false, Bool.false_eq_true]; rw [run_eql_struct, heq]; rfl
    | true => subst hop; simp only [if_true]; rw [run_neq_struct, heq]; show Result.ok (Value.bool (!c)) w = .ok (.bool (not' c)) w; rw [not'_eq]
  unfold eqneq at h
  split at h
  · injection h with h; subst h; exact key false rfl
  · injection h with h; subst h; exact key true rfl
  · cases h
theorem und_map {t : TypeId} {ti : TI} {i : TypeInfo} {d : TypeDesc} {z : Value} (F : TFacts P t ti i d z) {k e : TypeId} (hk : ti.kind = .map k e) : P.underlying t = some (.map k e) := by
  have h := F.kind; rw [hk] at h; have hu := F.und; cases d <;> simp [kindB] at h; obtain ⟨rfl, rfl⟩ := h; exact hu
theorem und_func {t : TypeId} {ti : TI} {i : TypeInfo} {d : TypeDesc} {z : Value} (F : TFacts P t ti i d z) (hk : ti.kind = .func) : ∃ a b c, P.underlying t = some (.func a b c) := by
  have h := F.kind; rw [hk] at h; have hu := F.und; cases d <;> simp [kindB] at h; exact ⟨_, _, _, hu⟩
/-! ### interfaces: nil alone -/
def isNilI : Value → Bool | .nilIface => true | _ => false
theorem isNilI_eq {u : Value} (h : isNilI u = true) : u = .nilIface := by cases u <;> first | rfl | cases h
theorem nilI_ok {x : V} {K : Bool → R} {r : R} (hg : Good r) (he : x.nilI K = r) : ∃ c, K c = r ∧ ∀ {κ : Kap} {u : Value}, VR κ x u → isNilI u = c ∧ isNilI u = true := by
  cases x <;> first
    | (have he : R.bad 9 = r := he; subst he; exact hg.bad)
    | exact ⟨true, he, fun h => by have h : _ = _ := h; subst h; exact ⟨rfl, rfl⟩⟩
    | exact ⟨false, he, fun h => h.elim⟩
theorem eqI_nil {t : TypeId} {ms} (hu : P.underlying t = some (.interface ms)) : CmpOk P t (eqNil V.nilI) := eqNil_ok nilI_ok fun w u v n h1 h2 h3 => by
  rw [isNilI_eq h1, isNilI_eq h2]
  simp [Op.equalIn, hu, underlying, isNilI]
theorem guardIn_nil {t : TypeId} {ms} (hu : P.underlying t = some (.interface ms)) (hm : ms.isEmpty = true) (n : Nat) (w : World) : (Op.eqGuardIn (n + 1) t .nilIface .nilIface).run P w = .ok false w := by
  simp [Op.eqGuardIn, underlying, hu, hm]
theorem s_eqI {op : BinOp} {t yt : TypeId} {x y : Operand} {f g : E → W} {q : Op'} {ms} (hx : evb x = .mk f) (hy : evb y = .mk g) (hu : P.underlying t = some (.interface ms)) (hm : ms.isEmpty = true)
    (h : eqneq op (fun neg => eqO (eqNil V.nilI) neg f g) = .mk q) : OpP P ⟨dst, .binOp op t x y yt, ty, pos, after, guard⟩ q := by
  have key : ∀ neg, (op = if neg = true then .neq else .eql) → OpP P ⟨dst, .binOp op t x y yt, ty, pos, after, guard⟩ (eqO (eqNil V.nilI) neg f g) := by
    intro neg hop
    refine ⟨fun {rc e h top K r} hg he => ?_⟩
    obtain ⟨v1, v2, h1, h2, he⟩ := two_ok he hg
    have he0 := he
    obtain ⟨c, he, h3⟩ := eqI_nil hu hg he
    refine ⟨_, outB_ok he, fun {B κ a w} hr hE => ⟨.bool (negB neg c), ?_, rfl⟩⟩
    have k1 := evb_rel hx hE; rw [h1] at k1
    have k2 := evb_rel hy hE; rw [h2] at k2
    have k3 := h3 hr k1 k2
    obtain ⟨_, he1, n1⟩ := nilI_ok hg he0
    obtain ⟨_, _, n2⟩ := nilI_ok hg he1
    have n1 := isNilI_eq (n1 k1).2
    have n2 := isNilI_eq (n2 k2).2
    have heq : (Op.equal t (a.eval x) (a.eval y)).run P w = .ok c w := k3 9999
    rw [n1, n2] at heq
    simp only [execOp, n1, n2]
    refine val_run ?_
    have hgd : (eqGuard op t x y .nilIface .nilIface).run P w = .ok () w := by
      have hq : (Op.eqGuardIn Op.maxDepth t .nilIface .nilIface).run P w = .ok false w := guardIn_nil hu hm 9999 w
      subst hop
      unfold eqGuard
      cases neg <;> simp only [] <;> split <;> simp [hq] <;> split <;> simp [hq]
    cases neg with
    | false =>
      subst hop
      simp only [if_false, Bool.false_eq_true] at hgd ⊢
      simp [hgd, Go.binOp, heq]; rfl
    | true =>
      subst hop
      simp only [if_true] at hgd ⊢
      simp [hgd, Go.binOp, heq]
      show c = !(not' c)
      rw [not'_eq, Bool.not_not]
  unfold eqneq at h
  split at h
  · injection h with h; subst h; exact key false rfl
  · injection h with h; subst h; exact key true rfl
  · cases h
theorem VR.int' {κ : Kap} {x : V} {v : Value} (h : VR κ x v) (hx : ∀ k n, x ≠ .i k n) (hs : ∀ s, x ≠ .s s) (hi : x ≠ .i0) : (v ≠ .nilIface) ∧ (∀ k n, v ≠ .int k n) ∧ (∀ k n, v ≠ .float k n) ∧ (∀ k n m, v ≠ .complex k n m) ∧ ∀ s, v ≠ .string s := by
  cases x <;> simp only [VR] at h
  case b => subst h; simp
  case i => exact absurd rfl (hx _ _)
  case s => exact absurd rfl (hs _)
  case p0 => subst h; simp
  case p => obtain ⟨b, d, n, _, _, rfl⟩ := h; simp
  case sl0 => subst h; simp
  case sl => obtain ⟨b, d, n, _, _, _, _, rfl⟩ := h; simp
  case gl => obtain ⟨b, d, n, cap, _, _, _, _, _, _, _, rfl⟩ := h; simp
  case ge => obtain ⟨a, cap, rfl⟩ := h; simp
  case f0 => subst h; simp
  case f => obtain ⟨us, cs, _, rfl⟩ := h; simp
  case y => obtain ⟨b, _, rfl⟩ := h; simp
  case m0 => subst h; simp
  case m => obtain ⟨b, _, rfl⟩ := h; simp
  case i0 => exact absurd rfl hi
theorem s_binB (hT : T.okB P = true) {op : BinOp} {t yt : TypeId} {x y : Operand} {f g : E → W} {ti : TI} {i : TypeInfo} {d : TypeDesc} {z : Value} (F : TFacts P t ti i d z) {q : Op'} (hx : evb x = .mk f) (hy : evb y = .mk g) (h : binB P t ti op f g = .mk q) :
    OpP P ⟨dst, .binOp op t x y yt, ty, pos, after, guard⟩ q := by
  have bad : ∀ {n : Nat} {r : R} {p : Prop}, Good r → R.bad n = r → p := fun hg he => by subst he; exact hg.bad
  unfold binB at h
  split at h
  · exact s_binI hx hy h
  · exact s_binS hx hy h
  · rename_i hk
    refine s_eqO hx hy (eqBo_ok (F.und_bool hk)) (fun {κ h x y K r u v} hg he h1 h2 => ?_) h
    obtain ⟨b, rfl, _⟩ := bB_ok he hg
    exact VR.int' h1 (by simp) (by simp) (by simp)
  · rename_i e hk
    split at h
    · rename_i j hj
      split at h
      · cases h
      · rename_i hs
        refine s_eqO hx hy (eqP_ok (F.und_ptr hk) hj hs) (fun {κ h x y K r u v} hg he h1 h2 => ?_) h
        cases x <;> first | exact bad hg he | exact VR.int' h1 (by simp) (by simp) (by simp)
    · cases h
  · rename_i e hk
    refine s_eqO hx hy (eqS_nil (by rw [F.und, F.slice hk])) (fun {κ h x y K r u v} hg he h1 h2 => ?_) h
    cases x <;> first | exact bad hg he | exact VR.int' h1 (by simp) (by simp) (by simp)
  · rename_i k e hk
    refine s_eqO hx hy (eqM_nil (und_map F hk)) (fun {κ h x y K r u v} hg he h1 h2 => ?_) h
    cases x <;> first | exact bad hg he | exact VR.int' h1 (by simp) (by simp) (by simp)
  · rename_i hk
    obtain ⟨p1, p2, p3, hu⟩ := und_func F hk
    refine s_eqO hx hy (eqF_nil hu) (fun {κ h x y K r u v} hg he h1 h2 => ?_) h
    cases x <;> first | exact bad hg he | exact VR.int' h1 (by simp) (by simp) (by simp)
  · split at h
    · rename_i fs hu
      split at h
      · rename_i ks hks hst hgt
        cases hF : eqFs ks with
        | mk G => rw [hF] at h; exact s_eqA hx hy hu hks hst hgt hF h
      · cases h
    · cases h
  · split at h
    · rename_i ms hu
      split at h
      · rename_i hm; exact s_eqI hx hy hu hm h
      · cases h
    · cases h
  · cases h
end
end Go.Proofs.YtjkbljgolcdhhaaGreatDoor.Fw.Cm

/- The concrete evaluator and the world: parts, lengths, cuts. -/
namespace Go.Proofs.YtjkbljgolcdhhaaGreatDoor.Fw.Cm
open Go Go.RowKit Go.WideShapes

section
variable {P : Program} {T : TT} {dst : Option Tmp} {ty : TypeId} {pos : String} {after : Array Edge} {guard : Option (Nat × Bool)}
variable {t : TypeId} {ti : TI} {i : TypeInfo} {d : TypeDesc} {z : Value}

theorem s_neg (F : TFacts P t ti i d z) {x : Operand} {f : E → W} {k : IntKind} (hk : ti.kind = .int k) (hx : evb x = .mk f) : OpP P ⟨dst, .unOp .neg t x, ty, pos, after, guard⟩ (oNeg k f) :=
  ⟨fun {rc e h top K r} hg he => by
    obtain ⟨v, h1, he⟩ := W.v_ok he hg
    replace he := V.int_ok he hg; obtain ⟨c, n, rfl, he⟩ := he
    obtain ⟨e1, he⟩ := gd_ok he hg
    have e1 := Nat.eq_of_beq_eq_true e1
    have he := outI_ok he
    rw [fit_eq] at he
    refine ⟨_, he, fun {B κ a w} hr hE => ⟨.int k (k.wrap (0 - n)), ?_, by show Value.int k _ = .int (kd (kc k)) _; rw [kd_kc]⟩⟩
    have h3 := evb_rel hx hE; rw [h1] at h3
    have h3 : a.eval x = .int k n := by rw [← kd_kc k, ← e1]; exact h3
    simp only [execOp, h3]; rfl⟩
theorem s_field (F : TFacts P t ti i d z) {x : Operand} {f : E → W} (hx : evb x = .mk f) {k : Nat} {q : Nat × Nat × Bool} (hf : ti.fields[k]? = some q) :
    OpP P ⟨dst, .field t x k, ty, pos, after, guard⟩ (oField q.2.2 q.1 q.2.1 f) :=
  ⟨fun {rc e h top K r} hg he => by
    obtain ⟨o, n, g⟩ := q
    obtain ⟨fs, fd, rfl, h1, h2, h3, ⟨j, h4, h5⟩, ee, h6, h7⟩ := F.struct_field hf
    have hrun : ∀ (cs : Array Value) (w : World), (Instr.field t (.agg cs) k).run P w = (part fd.type cs fd.offset).run P w := fun cs w => by
      unfold Instr.field
      simp only [Sem.run_bind, F.run_underlying, Result.andThen_ok, h1, asAgg, Sem.run_pure]
    have key : ∀ (vs : List Value) (w : World), (Instr.field t (.agg vs.toArray) k).run P w = if g = true then .ok (.agg ((vs.drop o).take n).toArray) w else match vs[o]? with | some v => .ok v w | none => .halt (.stuck "part: no such cell") w := fun vs w => by
      rw [hrun, run_part h6 h4, h7, h2, h5]
      split
      · congr 2; apply Array.ext'; simp [List.extract_eq_take_drop]
      · simp only [List.getElem?_toArray]; cases vs[o]? <;> rfl
    obtain ⟨l, hl, he⟩ := W.agK_ok he hg
    obtain ⟨hle, he⟩ := gd_ok he hg
    have hle := Nat.le_of_ble_eq_true hle
    rw [L.len_eq] at hle
    cases g with
    | true =>
      refine ⟨.ag ((l.drop o).take n), he, fun {B κ a w} hr hE => ?_⟩
      have h8 := evb_rel hx hE; rw [hl] at h8
      obtain ⟨vs, h9, h10⟩ := h8
      exact ⟨_, by simp only [execOp, h9]; exact val_run (by rw [key]; rfl), _, rfl, by rw [L.list_take, L.list_drop]; exact (h10.drop o).take n⟩
    | false =>
      obtain ⟨y, q, hlq, he⟩ := L.hdK_ok he hg
      refine ⟨.o y, he, fun {B κ a w} hr hE => ?_⟩
      have h8 := evb_rel hx hE; rw [hl] at h8
      obtain ⟨vs, h9, h10⟩ := h8
      have h11 := (h10.drop o).take n
      rw [← L.list_drop, ← L.list_take, hlq] at h11
      obtain ⟨u, us, h12, h13, h14⟩ := LR.uncons h11
      have hu : vs[o]? = some u := by
        have hne : n ≠ 0 := fun e => by subst e; simp at h12
        have := congrArg (fun l => l[0]?) h12
        simp only [List.getElem?_take, List.getElem?_drop] at this
        rw [if_pos (by omega)] at this
        simpa using this
      exact ⟨u, by simp only [execOp, h9]; exact val_run (by rw [key]; simp [hu]), h13⟩⟩
theorem s_index (F : TFacts P t ti i d z) {x y : Operand} {f g : E → W} (hk : ti.kind = .str) (hx : evb x = .mk f) (hy : evb y = .mk g) : OpP P ⟨dst, .index t x y, ty, pos, after, guard⟩ (oIndex f g) :=
  ⟨fun {rc e h top K r} hg he => by
    have hd := F.und_str hk
    subst hd
    obtain ⟨v1, v2, h1, h2, he⟩ := two_ok he hg
    replace he := V.str_ok he hg; obtain ⟨s, rfl, he⟩ := he
    replace he := V.nat_ok he hg; obtain ⟨c, n, rfl, he⟩ := he
    rw [nth_eq] at he
    cases hn : s[n]? with
    | none => rw [hn] at he; have he : R.bad 31 = r := he
              subst he; exact hg.bad
    | some q =>
      rw [hn] at he
      refine ⟨_, he, fun {B κ a w} hr hE => ?_⟩
      have h3 := evb_rel hx hE; rw [h1] at h3
      have h4 := evb_rel hy hE; rw [h2] at h4
      obtain ⟨h3, k3⟩ := h3
      have hq : q < 256 := k3 q (List.mem_of_getElem? hn)
      have hb0 : (byt s)[n]? = some (UInt8.ofNat q) := by
        have h5 : (byt s).data[n]? = some (UInt8.ofNat q) := by simp only [byt, List.getElem?_toArray, List.getElem?_map, hn, Option.map_some]
        have hlt : n < (byt s).data.size := (Array.getElem?_eq_some_iff.1 h5).1
        rw [getElem?_pos (byt s) n hlt]
        congr 1
        exact (Array.getElem?_eq_some_iff.1 h5).2
      obtain ⟨u, hb, hu⟩ : ∃ u : UInt8, (byt s)[n]? = some u ∧ u.toNat = q := ⟨_, hb0, by simp; omega⟩
      refine ⟨.int .u8 q, ?_, rfl⟩
      have h4 : a.eval y = .int (kd c) n := h4
      simp only [execOp, h3, h4]
      refine val_run ?_
      unfold Instr.index
      simp [asIntOf, F.run_underlying, hb, hu]⟩
theorem s_conv {t' : TypeId} {ti' : TI} {i' : TypeInfo} {d' : TypeDesc} {z' : Value} (F : TFacts P t ti i d z) (F' : TFacts P t' ti' i' d' z') {x : Operand} {f : E → W} {k0 k : IntKind} (hk : ti.kind = .int k0) (hk' : ti'.kind = .int k) (hx : evb x = .mk f) :
    OpP P ⟨dst, .convert t t' x, ty, pos, after, guard⟩ (oConv k f) :=
  ⟨fun {rc e h top K r} hg he => by
    obtain ⟨v, h1, he⟩ := W.v_ok he hg
    replace he := V.int_ok he hg; obtain ⟨c, n, rfl, he⟩ := he
    have he := outI_ok he
    rw [fit_eq] at he
    refine ⟨_, he, fun {B κ a w} hr hE => ⟨.int k (k.wrap n), ?_, by show Value.int k _ = .int (kd (kc k)) _; rw [kd_kc]⟩⟩
    have h3 := evb_rel hx hE; rw [h1] at h3
    have h3 : a.eval x = .int (kd c) n := h3
    have q1 := F'.kind
    rw [hk'] at q1
    cases d' <;> simp [kindB] at q1
    subst q1
    have q2 := F.kind
    rw [hk] at q2
    cases d <;> simp [kindB] at q2
    simp only [execOp, h3]
    refine val_run ?_
    unfold convert
    simp [F.run_underlying, F'.run_underlying, Conv.intToInt]⟩

/-! ### builtins that look -/
theorem call_val {b : Builtin} {args : Array Operand} {ats : Array TypeId} {a : Act} {w w' : World} {u : Value} {s : Sem Value} (h1 : execOp a.eval ⟨dst, .call ⟨.builtin b, args, ats⟩, ty, pos, after, guard⟩ = (do pure (.value (← s)) : Sem Next)) (h : s.run P w = .ok u w') :
    (execOp a.eval ⟨dst, .call ⟨.builtin b, args, ats⟩, ty, pos, after, guard⟩).run P w = .ok (.value u) w' := by
  rw [h1]; exact val_run h
theorem s_lenS (F : TFacts P t ti i d z) {x : Operand} {f : E → W} {el : TypeId} (hk : ti.kind = .slice el) (hx : evb x = .mk f) : OpP P ⟨dst, .call ⟨.builtin .len, #[x], #[t]⟩, ty, pos, after, guard⟩ (bLenS f) :=
  ⟨fun {rc e h top K r} hg he => by
    have hd := F.slice hk
    subst hd
    obtain ⟨v, h1, he⟩ := W.v_ok he hg
    have run : ∀ {a : Act} {w : World} {p : Option Addr} {n c : Nat}, a.eval x = .slice p n c → (execOp a.eval ⟨dst, .call ⟨.builtin .len, #[x], #[t]⟩, ty, pos, after, guard⟩).run P w = .ok (.value (.int .i64 n)) w := by
      intro a w p n c ha
      have : (Builtin.len_ #[t] ty #[.slice p n c]).run P w = .ok (.int .i64 n) w := by simp [Builtin.len_, F.run_underlying, goInt]
      simp [execOp, resolve, invoke, builtin, ha, this]
    replace he := V.slice_ok he hg; rcases he with ⟨rfl, he⟩ | ⟨o, q, off, n, cap, rfl, he⟩ | ⟨o, q, off, n, sz, rfl, he⟩ | ⟨rfl, he⟩
    · refine ⟨_, he, fun {B κ a w} hr hE => ?_⟩
      have h3 := evb_rel hx hE; rw [h1] at h3
      exact ⟨_, run h3, rfl⟩
    · refine ⟨_, he, fun {B κ a w} hr hE => ?_⟩
      have h3 := evb_rel hx hE; rw [h1] at h3
      obtain ⟨b, dd, nn, hm, hd, hnc, hn32, hu⟩ := h3
      exact ⟨_, run hu, rfl⟩
    · refine ⟨_, he, fun {B κ a w} hr hE => ?_⟩
      have h3 := evb_rel hx hE; rw [h1] at h3
      obtain ⟨b, dd, nn, cap, hm, hd, hsz, hnc, hn32, _, _, hu⟩ := h3
      exact ⟨_, run hu, rfl⟩
    · refine ⟨_, he, fun {B κ a w} hr hE => ?_⟩
      have h3 := evb_rel hx hE; rw [h1] at h3
      obtain ⟨p, cap, hu⟩ := h3
      exact ⟨_, run hu, rfl⟩⟩
theorem s_lenStr (F : TFacts P t ti i d z) {x : Operand} {f : E → W} (hk : ti.kind = .str) (hx : evb x = .mk f) : OpP P ⟨dst, .call ⟨.builtin .len, #[x], #[t]⟩, ty, pos, after, guard⟩ (bLenStr f) :=
  ⟨fun {rc e h top K r} hg he => by
    have hd := F.und_str hk
    subst hd
    obtain ⟨v, h1, he⟩ := W.v_ok he hg
    replace he := V.str_ok he hg; obtain ⟨s, rfl, he⟩ := he
    have he := outI_ok he
    refine ⟨_, he, fun {B κ a w} hr hE => ?_⟩
    have h3 := evb_rel hx hE; rw [h1] at h3
    refine ⟨.int .i64 (nLen s : Nat), ?_, rfl⟩
    have : (Builtin.len_ #[t] ty #[.string (byt s)]).run P w = .ok (.int .i64 (nLen s : Nat)) w := by rw [nLen_eq, ← byt_size]; simp [Builtin.len_, F.run_underlying, goInt]
    simp [execOp, resolve, invoke, builtin, h3.1, this]⟩
theorem s_lenM (F : TFacts P t ti i d z) {x : Operand} {f : E → W} {kt el : TypeId} (hk : ti.kind = .map kt el) (hx : evb x = .mk f) : OpP P ⟨dst, .call ⟨.builtin .len, #[x], #[t]⟩, ty, pos, after, guard⟩ (bLenM f) :=
  ⟨fun {rc e h top K r} hg he => by
    have hu := und_map F hk
    have hd : d = .map kt el := by have h1 := F.und; rw [hu] at h1; injection h1 with h1; exact h1.symm
    subst hd
    obtain ⟨v, h1, he⟩ := W.v_ok he hg
    rcases V.map_ok he hg with ⟨rfl, he⟩ | ⟨o, rfl, he⟩
    · refine ⟨_, he, fun {B κ a w} hr hE => ?_⟩
      have h3 := evb_rel hx hE; rw [h1] at h3
      have h3 : a.eval x = .map none := h3
      refine ⟨.int .i64 0, ?_, rfl⟩
      have : (Builtin.len_ #[t] ty #[.map none]).run P w = .ok (.int .i64 0) w := by simp [Builtin.len_, F.run_underlying, goInt]
      simp [execOp, resolve, invoke, builtin, h3, this]
    · obtain ⟨m, hob, he⟩ := Ob.mapK_ok he hg
      have he := outI_ok he
      refine ⟨_, he, fun {B κ a w} hr hE => ?_⟩
      have h3 := evb_rel hx hE; rw [h1] at h3
      obtain ⟨b, hq, h3⟩ := h3
      have hQ := hr.que o b hq
      rw [hob] at hQ
      obtain ⟨es, clock, hw, hM⟩ := hQ
      have hlen : ∀ (m : M) (es : List MapEntry) (k : Nat), MR κ m es → (M.rec (motive := fun _ => Nat → Nat) (fun k => k) (fun _ _ _ ih k => ih (k + 1)) m k : Nat) = k + es.length := by
        intro m
        induction m with
        | nil => intro es k hm; have hm : es = [] := hm; subst hm; rfl
        | cons kk ww rr ih =>
          intro es k hm
          obtain ⟨x, xs, rfl, _, _, _, h5⟩ := hm
          have := ih xs (k + 1) h5
          show (M.rec (motive := fun _ => Nat → Nat) (fun k => k) (fun _ _ _ ih k => ih (k + 1)) rr (k + 1) : Nat) = _
          rw [this]; simp; omega
      have hl : mLen m = es.size := by have := hlen m es.toList 0 hM; simpa [mLen] using this
      refine ⟨.int .i64 (mLen m : Nat), ?_, rfl⟩
      have : (Builtin.len_ #[t] ty #[.map (some b)]).run P w = .ok (.int .i64 (mLen m : Nat)) w := by rw [hl]; simp [Builtin.len_, F.run_underlying, goInt, getObj, Sem.run, hw]
      simp [execOp, resolve, invoke, builtin, h3, this]⟩
end
end Go.Proofs.YtjkbljgolcdhhaaGreatDoor.Fw.Cm
