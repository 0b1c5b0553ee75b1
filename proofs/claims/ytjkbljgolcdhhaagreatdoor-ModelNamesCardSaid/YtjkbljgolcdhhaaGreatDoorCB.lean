/- The concrete evaluator and the world: what a value stands for. -/
import Derived.Test.YtjkbljgolcdhhaaGreatDoorCA
set_option autoImplicit false
set_option linter.unusedVariables false
set_option linter.constructorNameAsVariable false
set_option linter.unusedSimpArgs false
namespace Go.Proofs.YtjkbljgolcdhhaaGreatDoor.Fw.Cm
open Go Go.RowKit

/-! ### 1. What comes out well -/
def Good (r : R) : Prop := ∀ n, r ≠ .bad n
theorem Good.bad {n : Nat} {p : Prop} (h : Good (.bad n)) : p := absurd rfl (h n)
theorem sNat_eq (n : Nat) (k : Nat → R) : sNat n k = k n := by cases n <;> rfl
theorem sInt_eq (n : Int) (k : Int → R) : sInt n k = k n := by
  cases n with
  | ofNat m => show sNat m (fun m => k (.ofNat m)) = _; rw [sNat_eq]
  | negSucc m => show sNat m (fun m => k (.negSucc m)) = _; rw [sNat_eq]
theorem sBool_eq (b : Bool) (k : Bool → R) : sBool b k = k b := by cases b <;> rfl
theorem ifB_eq (b : Bool) (x y : R) : ifB b x y = if b = true then x else y := by cases b <;> rfl
theorem gd_ok {b : Bool} {k r : R} (h : gd b k = r) (hr : Good r) : b = true ∧ k = r := by
  cases b with
  | true => exact ⟨rfl, h⟩
  | false => subst h; exact hr.bad
theorem and'_eq (a b : Bool) : and' a b = (a && b) := by cases a <;> rfl
theorem not'_eq (b : Bool) : not' b = !b := by cases b <;> rfl
theorem W.v_ok {w : W} {k : V → R} {r : R} (h : w.v k = r) (hr : Good r) : ∃ x, w = .o x ∧ k x = r := by
  cases w with
  | o x => exact ⟨x, rfl, h⟩
  | _ => subst h; exact hr.bad
/-- the cells of what is not a tuple -/
noncomputable def W.cs : W → List V
  | .o x => [x]
  | .ag l => l.list
  | _ => []
def W.plain : W → Bool
  | .o _ => true
  | .ag _ => true
  | _ => false
theorem W.cells_ok {w : W} {k : L → R} {r : R} (h : w.cells k = r) (hr : Good r) : w.plain = true ∧ ∃ l, l.list = w.cs ∧ k l = r := by
  cases w with
  | o x => exact ⟨rfl, _, rfl, h⟩
  | ag l => exact ⟨rfl, _, rfl, h⟩
  | _ => subst h; exact hr.bad
theorem W.agK_ok {w : W} {k : L → R} {r : R} (h : w.agK k = r) (hr : Good r) : ∃ l, w = .ag l ∧ k l = r := by
  cases w with
  | ag l => exact ⟨l, rfl, h⟩
  | _ => subst h; exact hr.bad
theorem L.hdK_ok {l : L} {k : V → R} {r : R} (h : l.hdK k = r) (hr : Good r) : ∃ a q, l = .cons a q ∧ k a = r := by
  cases l with
  | cons a q => exact ⟨a, q, rfl, h⟩
  | nil => subst h; exact hr.bad
theorem V.ptr_ok {v : V} {k : Nat → Nat → Nat → R} {r : R} (h : v.ptr k = r) (hr : Good r) : ∃ o g off, v = .p o g off ∧ k o g off = r := by
  cases v <;> first | (subst h; exact hr.bad) | exact ⟨_, _, _, rfl, h⟩
theorem V.bool_ok {v : V} {x y r : R} (h : v.bool x y = r) (hr : Good r) : ∃ b, v = .b b ∧ (if b = true then x else y) = r := by
  cases v <;> first | (subst h; exact hr.bad) | exact ⟨_, rfl, by rw [← ifB_eq]; exact h⟩
theorem V.int_ok {v : V} {k : Nat → Int → R} {r : R} (h : v.int k = r) (hr : Good r) : ∃ c n, v = .i c n ∧ k c n = r := by
  cases v <;> first | (subst h; exact hr.bad) | exact ⟨_, _, rfl, h⟩
theorem V.nat_ok {v : V} {k : Nat → R} {r : R} (h : v.nat k = r) (hr : Good r) : ∃ c n, v = .i c (.ofNat n) ∧ k n = r := by
  obtain ⟨c, n, rfl, h⟩ := V.int_ok h hr
  cases n with
  | ofNat m => exact ⟨c, m, rfl, h⟩
  | negSucc m => subst h; exact hr.bad
theorem V.str_ok {v : V} {k : List Nat → R} {r : R} (h : v.str k = r) (hr : Good r) : ∃ s, v = .s s ∧ k s = r := by
  cases v <;> first | (subst h; exact hr.bad) | exact ⟨_, rfl, h⟩
theorem V.slice_ok {v : V} {k0 : R} {k1 k2 : Nat → Nat → Nat → Nat → Nat → R} {k3 r : R} (h : v.slice k0 k1 k2 k3 = r) (hr : Good r) :
    (v = .sl0 ∧ k0 = r) ∨ (∃ o g off n c, v = .sl o g off n c ∧ k1 o g off n c = r) ∨ (∃ o g off n z, v = .gl o g off n z ∧ k2 o g off n z = r) ∨ (v = .ge ∧ k3 = r) := by
  cases v <;> first | (subst h; exact hr.bad) | exact .inl ⟨rfl, h⟩ | exact .inr (.inl ⟨_, _, _, _, _, rfl, h⟩) | exact .inr (.inr (.inl ⟨_, _, _, _, _, rfl, h⟩)) | exact .inr (.inr (.inr ⟨rfl, h⟩))
theorem V.fn_ok {v : V} {k : FuncId → Nat → R} {k2 : Nat → R} {r : R} (h : v.fn k k2 = r) (hr : Good r) : (∃ f o, v = .f f o ∧ k f o = r) ∨ (∃ o, v = .y o ∧ k2 o = r) := by
  cases v <;> first | (subst h; exact hr.bad) | exact .inl ⟨_, _, rfl, h⟩ | exact .inr ⟨_, rfl, h⟩
theorem V.map_ok {v : V} {k0 : R} {k : Nat → R} {r : R} (h : v.map k0 k = r) (hr : Good r) : (v = .m0 ∧ k0 = r) ∨ ∃ o, v = .m o ∧ k o = r := by
  cases v <;> first | (subst h; exact hr.bad) | exact .inl ⟨rfl, h⟩ | exact .inr ⟨_, rfl, h⟩
theorem V.some_ok {v : V} {k r : R} (h : v.some k = r) (hr : Good r) : ((∃ o g off, v = .p o g off) ∨ ∃ f o, v = .f f o) ∧ k = r := by
  cases v <;> first | (subst h; exact hr.bad) | exact ⟨.inl ⟨_, _, _, rfl⟩, h⟩ | exact ⟨.inr ⟨_, _, rfl⟩, h⟩
theorem Ob.cell_ok {b : Ob} {g hi : Nat} {k : L → R} {r : R} (h : b.cell g hi k = r) (hr : Good r) : ∃ lo g' l, b = .c lo g' l ∧ lo ≤ g ∧ hi ≤ g ∧ k l = r := by
  cases b with
  | c lo g' l =>
    obtain ⟨h1, h⟩ := gd_ok h hr
    obtain ⟨h2, h⟩ := gd_ok h hr
    exact ⟨lo, g', l, rfl, Nat.le_of_ble_eq_true h1, Nat.le_of_ble_eq_true h2, h⟩
  | _ => subst h; exact hr.bad
theorem Ob.cellW_ok {b : Ob} {g hi : Nat} {k : L → R} {r : R} (h : b.cellW g hi k = r) (hr : Good r) : ∃ lo l, b = .c lo g l ∧ lo ≤ g ∧ hi ≤ g ∧ k l = r := by
  cases b with
  | c lo g' l =>
    obtain ⟨h1, k1⟩ := gd_ok h hr
    obtain ⟨h3, k2⟩ := gd_ok k1 hr
    obtain ⟨h2, k3⟩ := gd_ok k2 hr
    have he := Nat.eq_of_beq_eq_true h3
    exact ⟨lo, l, by rw [he], Nat.le_of_ble_eq_true h1, Nat.le_of_ble_eq_true h2, k3⟩
  | _ => subst h; exact hr.bad
theorem Ob.all_ok {b : Ob} {k : Nat → Nat → L → R} {r : R} (h : b.all k = r) (hr : Good r) : ∃ lo g l, b = .c lo g l ∧ k lo g l = r := by
  cases b with
  | c lo g l => exact ⟨lo, g, l, rfl, h⟩
  | _ => subst h; exact hr.bad
theorem Ob.clo_ok {b : Ob} {k : Nat → W → R} {r : R} (h : b.clo k = r) (hr : Good r) : ∃ n w, b = .bx n w ∧ k n w = r := by
  cases b with
  | bx n w => exact ⟨n, w, rfl, h⟩
  | _ => subst h; exact hr.bad
theorem Ob.mapK_ok {b : Ob} {k : M → R} {r : R} (h : b.mapK k = r) (hr : Good r) : ∃ l, b = .mp l ∧ k l = r := by
  cases b with
  | mp l => exact ⟨l, rfl, h⟩
  | _ => subst h; exact hr.bad
theorem Ob.loopK_ok {b : Ob} {k : E → List Tmp → Code → Code → Nat → Option Code → R} {r : R} (h : b.loopK k = r) (hr : Good r) : ∃ e ps x y st j, b = .lp e ps x y st j ∧ k e ps x y st j = r := by
  cases b with
  | lp e ps x y st j => exact ⟨_, _, _, _, _, _, rfl, h⟩
  | _ => subst h; exact hr.bad
theorem two'_ok {w : W} {k : W → W → R} {r : R} (h : two' w k = r) (hr : Good r) : ∃ a b, w = .tu a b ∧ k a b = r := by
  cases w with
  | tu a b => exact ⟨a, b, rfl, h⟩
  | _ => subst h; exact hr.bad
theorem two_ok {a b : E → W} {e : E} {k : V → V → R} {r : R} (h : two a b e k = r) (hr : Good r) : ∃ x y, a e = .o x ∧ b e = .o y ∧ k x y = r := by
  obtain ⟨x, h1, h⟩ := W.v_ok h hr
  obtain ⟨y, h2, h⟩ := W.v_ok h hr
  exact ⟨x, y, h1, h2, h⟩

/-! ### 2. What stands for what -/
structure Kap where
  m : Nat → Nat → Option (Nat × Nat × Nat)
  x : Nat → Option (Array Value × Array Value)
  q : Nat → Option Nat
structure Kap.le (κ κ' : Kap) : Prop where
  m : ∀ o g r, κ.m o g = some r → κ'.m o g = some r
  x : ∀ o r, κ.x o = some r → κ'.x o = some r
  q : ∀ o b, κ.q o = some b → κ'.q o = some b
theorem Kap.le.refl (κ : Kap) : κ.le κ := ⟨fun _ _ _ h => h, fun _ _ h => h, fun _ _ h => h⟩
theorem Kap.le.trans {a b c : Kap} (h : a.le b) (k : b.le c) : a.le c := ⟨fun _ _ _ e => k.m _ _ _ (h.m _ _ _ e), fun _ _ e => k.x _ _ (h.x _ _ e), fun _ _ e => k.q _ _ (h.q _ _ e)⟩
def byt (s : List Nat) : ByteArray := ⟨(s.map UInt8.ofNat).toArray⟩
def VR (κ : Kap) : V → Value → Prop
  | .b x, v => v = .bool x
  | .i k n, v => v = .int (kd k) n
  | .s s, v => v = .string (byt s) ∧ ∀ c ∈ s, c < 256
  | .p0, v => v = .pointer none
  | .p o g off, v => ∃ b d n, κ.m o g = some (b, d, n) ∧ d ≤ off ∧ v = .pointer (some ⟨b, off - d, none⟩)
  | .sl0, v => v = .slice none 0 0
  | .sl o g off len cap, v => ∃ b d n, κ.m o g = some (b, d, n) ∧ d ≤ off ∧ len ≤ cap ∧ cap ≤ 4294967296 ∧ v = .slice (some ⟨b, off - d, none⟩) len cap
  | .gl o g off len sz, v => ∃ b d n cap, κ.m o g = some (b, d, n) ∧ d ≤ off ∧ 0 < sz ∧ len ≤ cap ∧ len ≤ 4294967296 ∧ off - d + cap * sz = n ∧ off + len * sz ≤ g ∧ v = .slice (some ⟨b, off - d, none⟩) len cap
  | .ge, v => ∃ a cap, v = .slice (some a) 0 cap
  | .f0, v => v = .nilFunc
  | .f fn o, v => ∃ us cs, κ.x o = some (us, cs) ∧ v = .func (.func fn) us cs
  | .y o, v => ∃ b, κ.q o = some b ∧ v = .func (.yield b) #[] #[]
  | .m0, v => v = .map none
  | .m o, v => ∃ b, κ.q o = some b ∧ v = .map (some b)
  | .i0, v => v = .nilIface
  | .ic _ _, _ => False
theorem VR.mono {κ κ' : Kap} (hle : κ.le κ') {x : V} {v : Value} (h : VR κ x v) : VR κ' x v := by
  cases x with
  | p o g off => obtain ⟨b, d, n, h1, h2⟩ := h; exact ⟨b, d, n, hle.m _ _ _ h1, h2⟩
  | sl o g off len cap => obtain ⟨b, d, n, h1, h2⟩ := h; exact ⟨b, d, n, hle.m _ _ _ h1, h2⟩
  | gl o g off len sz => obtain ⟨b, d, n, cap, h1, h2⟩ := h; exact ⟨b, d, n, cap, hle.m _ _ _ h1, h2⟩
  | f fn o => obtain ⟨us, cs, h1, h2⟩ := h; exact ⟨us, cs, hle.x _ _ h1, h2⟩
  | y o => obtain ⟨b, h1, h2⟩ := h; exact ⟨b, hle.q _ _ h1, h2⟩
  | m o => obtain ⟨b, h1, h2⟩ := h; exact ⟨b, hle.q _ _ h1, h2⟩
  | _ => exact h
theorem VR.one {κ : Kap} {x : V} {v : Value} (h : VR κ x v) : (∀ cs, v ≠ .agg cs) ∧ ∀ vs, v ≠ .tuple vs := by
  cases x <;> simp only [VR] at h
  case b => subst h; simp
  case i => subst h; simp
  case s => rw [h.1]; simp
  case p0 => subst h; simp
  case p => obtain ⟨b, d, n, _, _, rfl⟩ := h; simp
  case sl0 => subst h; simp
  case sl => obtain ⟨b, d, n, _, _, _, _, rfl⟩ := h; simp
  case gl => obtain ⟨b, d, n, cap, _, _, _, _, _, _, _, rfl⟩ := h; simp
  case ge => obtain ⟨a, cap, rfl⟩ := h; simp
  case f0 => subst h; simp
  case f => obtain ⟨us, cs, _, rfl⟩ := h; simp
  case y => obtain ⟨b, _, rfl⟩ := h; simp
  case m0 => subst h; simp
  case m => obtain ⟨b, _, rfl⟩ := h; simp
  case i0 => subst h; simp
theorem VR.cell1 {κ : Kap} {x : V} {v : Value} (h : VR κ x v) : v.oneCell' = true := oneCell_of h.one
theorem VR.cells {κ : Kap} {x : V} {v : Value} (h : VR κ x v) : v.cells = #[v] := by
  have := h.one
  cases v with
  | agg cs => exact absurd rfl (this.1 cs)
  | _ => rfl

def LR (κ : Kap) (l : List V) (vs : List Value) : Prop := l.length = vs.length ∧ ∀ (j : Nat) (x : V) (v : Value), l[j]? = some x → vs[j]? = some v → VR κ x v
theorem LR.mono {κ κ' : Kap} (hle : κ.le κ') {l : List V} {vs : List Value} (h : LR κ l vs) : LR κ' l vs := ⟨h.1, fun j x v h1 h2 => (h.2 j x v h1 h2).mono hle⟩
theorem LR.nil (κ : Kap) : LR κ [] [] := ⟨rfl, fun j x v h => by simp at h⟩
theorem LR.cons {κ : Kap} {x : V} {v : Value} {l : List V} {vs : List Value} (h : VR κ x v) (k : LR κ l vs) : LR κ (x :: l) (v :: vs) := by
  refine ⟨by simp [k.1], fun j y u h1 h2 => ?_⟩
  cases j with
  | zero => simp at h1 h2; subst h1; subst h2; exact h
  | succ j => exact k.2 j y u (by simpa using h1) (by simpa using h2)
theorem LR.uncons {κ : Kap} {x : V} {l : List V} {vs : List Value} (h : LR κ (x :: l) vs) : ∃ v us, vs = v :: us ∧ VR κ x v ∧ LR κ l us := by
  cases vs with
  | nil => have := h.1; simp at this
  | cons v us => exact ⟨v, us, rfl, h.2 0 x v rfl rfl, by have := h.1; simpa using this, fun j y u h1 h2 => h.2 (j + 1) y u (by simpa using h1) (by simpa using h2)⟩
theorem LR.append {κ : Kap} {l m : List V} {vs us : List Value} (h : LR κ l vs) (k : LR κ m us) : LR κ (l ++ m) (vs ++ us) := by
  refine ⟨by simp [h.1, k.1], fun j x v h1 h2 => ?_⟩
  by_cases hj : j < l.length
  · rw [List.getElem?_append_left hj] at h1
    rw [List.getElem?_append_left (by rw [← h.1]; exact hj)] at h2
    exact h.2 j x v h1 h2
  · rw [List.getElem?_append_right (by omega)] at h1
    rw [List.getElem?_append_right (by rw [← h.1]; omega), ← h.1] at h2
    exact k.2 _ x v h1 h2
theorem LR.take {κ : Kap} {l : List V} {vs : List Value} (h : LR κ l vs) (n : Nat) : LR κ (l.take n) (vs.take n) := by
  refine ⟨by simp [h.1], fun j x v h1 h2 => ?_⟩
  rw [List.getElem?_take] at h1 h2
  split at h1
  · rename_i hj; rw [if_pos hj] at h2; exact h.2 j x v h1 h2
  · cases h1
theorem LR.drop {κ : Kap} {l : List V} {vs : List Value} (h : LR κ l vs) (n : Nat) : LR κ (l.drop n) (vs.drop n) := by
  refine ⟨by simp [h.1], fun j x v h1 h2 => ?_⟩
  rw [List.getElem?_drop] at h1 h2
  exact h.2 _ x v h1 h2
theorem LR.rep {κ : Kap} {l : List V} {vs : List Value} (h : LR κ l vs) : ∀ n, LR κ (List.replicate n l).flatten (List.replicate n vs).flatten
  | 0 => LR.nil κ
  | n + 1 => by simp only [List.replicate_succ, List.flatten_cons]; exact h.append (h.rep n)
theorem LR.one {κ : Kap} {l : List V} {vs : List Value} (h : LR κ l vs) : ∀ v ∈ vs, v.oneCell' = true := by
  intro v hv
  obtain ⟨j, hj⟩ := List.getElem?_of_mem hv
  have hlt : j < vs.length := (List.getElem?_eq_some_iff.1 hj).1
  have hl : j < l.length := by rw [h.1]; exact hlt
  exact (h.2 j l[j] v (List.getElem?_eq_getElem hl) hj).cell1

def both (κ : Kap) : W → (Value → Prop) × (List Value → Prop)
  | .o x => (VR κ x, fun _ => False)
  | .ag l => (fun v => ∃ vs, v = .agg vs.toArray ∧ LR κ l.list vs, fun _ => False)
  | .tn => (fun v => v = .tuple #[], fun vs => vs = [])
  | .tu a r => (fun v => ∃ u us, v = .tuple (u :: us).toArray ∧ (both κ a).1 u ∧ (both κ r).2 us, fun vs => ∃ u us, vs = u :: us ∧ (both κ a).1 u ∧ (both κ r).2 us)
  | .un => (fun _ => True, fun _ => False)
def WR (κ : Kap) (w : W) (v : Value) : Prop := (both κ w).1 v
def TR (κ : Kap) (w : W) (vs : List Value) : Prop := (both κ w).2 vs
theorem both.mono {κ κ' : Kap} (hle : κ.le κ') : ∀ (w : W), (∀ v, (both κ w).1 v → (both κ' w).1 v) ∧ ∀ vs, (both κ w).2 vs → (both κ' w).2 vs
  | .o x => ⟨fun v h => VR.mono hle h, fun _ h => h⟩
  | .ag l => ⟨fun v ⟨vs, h1, h2⟩ => ⟨vs, h1, h2.mono hle⟩, fun _ h => h⟩
  | .tn => ⟨fun _ h => h, fun _ h => h⟩
  | .tu a r => ⟨fun v ⟨u, us, h1, h2, h3⟩ => ⟨u, us, h1, (both.mono hle a).1 _ h2, (both.mono hle r).2 _ h3⟩, fun vs ⟨u, us, h1, h2, h3⟩ => ⟨u, us, h1, (both.mono hle a).1 _ h2, (both.mono hle r).2 _ h3⟩⟩
  | .un => ⟨fun _ h => h, fun _ h => h⟩
theorem WR.mono {κ κ' : Kap} (hle : κ.le κ') {w : W} {v : Value} (h : WR κ w v) : WR κ' w v := (both.mono hle w).1 v h
theorem TR.mono {κ κ' : Kap} (hle : κ.le κ') {w : W} {vs : List Value} (h : TR κ w vs) : TR κ' w vs := (both.mono hle w).2 vs h
theorem WR.o {κ : Kap} {x : V} {v : Value} : WR κ (.o x) v ↔ VR κ x v := Iff.rfl
theorem WR.ag {κ : Kap} {l : L} {v : Value} : WR κ (.ag l) v ↔ ∃ vs, v = .agg vs.toArray ∧ LR κ l.list vs := Iff.rfl
theorem WR.tn {κ : Kap} {v : Value} : WR κ .tn v ↔ v = .tuple #[] := Iff.rfl
theorem TR.tn {κ : Kap} {vs : List Value} : TR κ .tn vs ↔ vs = [] := Iff.rfl
theorem TR.tu {κ : Kap} {a r : W} {vs : List Value} : TR κ (.tu a r) vs ↔ ∃ u us, vs = u :: us ∧ WR κ a u ∧ TR κ r us := Iff.rfl
theorem WR.tu {κ : Kap} {a r : W} {v : Value} : WR κ (.tu a r) v ↔ ∃ vs, v = .tuple vs.toArray ∧ TR κ (.tu a r) vs := by
  constructor
  · rintro ⟨u, us, h1, h2⟩; exact ⟨_, h1, u, us, rfl, h2⟩
  · rintro ⟨vs, h1, u, us, rfl, h2⟩; exact ⟨u, us, h1, h2⟩
/-- a value that has cells -/
theorem WR.cells {κ : Kap} {w : W} {v : Value} (h : WR κ w v) (hp : w.plain = true) : ∃ vs, v.cells = vs.toArray ∧ LR κ w.cs vs := by
  cases w with
  | o x => exact ⟨[v], VR.cells h, LR.cons h (LR.nil κ)⟩
  | ag l => obtain ⟨vs, rfl, h⟩ := h; exact ⟨vs, rfl, h⟩
  | _ => cases hp

/-! ### 3. The heap and the world -/
def Kap.im (κ : Kap) (k : Nat) : Prop := (∃ o g d n, κ.m o g = some (k, d, n)) ∨ ∃ o, κ.q o = some k
def Obj.key (x : MapEntry) : Value := x.key
/-- the key that a list stands for: bytes, or 256, a kind, a number -/
def kval : List Nat → Value
  | [256, c, n] => .int (kd c) (.ofNat n)
  | s => .string (byt s)
def kwf (s : List Nat) : Prop := (∀ c ∈ s, c < 256) ∨ ∃ c n, s = [256, c, n]
/-- a map's entries -/
def MR (κ : Kap) : M → List MapEntry → Prop
  | .nil, es => es = []
  | .cons k w r, es => ∃ x xs, es = x :: xs ∧ x.key = kval k ∧ kwf k ∧ WR κ w x.val ∧ MR κ r xs
theorem MR.mono {κ κ' : Kap} (hle : κ.le κ') : ∀ {m : M} {es : List MapEntry}, MR κ m es → MR κ' m es
  | .nil, _, h => h
  | .cons k w r, _, ⟨x, xs, h1, h2, h3, h4, h5⟩ => ⟨x, xs, h1, h2, h3, h4.mono hle, h5.mono hle⟩
structure ER (κ : Kap) (e : E) (tmps : Array Value) : Prop where
  x0 : κ.x 0 = some (#[], #[])
  env : ∀ t, t < 510 → WR κ (getE t e) (tmps.getD t undef)
theorem ER.mono {κ κ' : Kap} (hle : κ.le κ') {e : E} {tmps : Array Value} (h : ER κ e tmps) : ER κ' e tmps := ⟨hle.x _ _ h.x0, fun t ht => (h.env t ht).mono hle⟩
/-- what lies behind a number that is no cells -/
def QR (κ : Kap) (w : World) (b : Nat) : Ob → Prop
  | .mp m => ∃ es clock, w.heap[b]? = some (.map es clock) ∧ MR κ m es.toList
  | .lp e ps x y st j => ∃ r : Loop, w.heap[b]? = some (.loop r) ∧ ER κ e r.tmps ∧ getE 510 e = .un ∧ ps = r.tmps.size :: r.params.toList ∧ r.assign = x ∧ r.body = y ∧
      ((st = 0 ∧ r.state = .ready ∧ r.pending = none ∧ j = none) ∨ (st = 1 ∧ r.state = .busy) ∨ (st = 2 ∧ r.state = .done ∧ r.pending = j))
  | .no => ∃ r : Loop, w.heap[b]? = some (.loop r)
  | _ => False
structure HR (B : Nat) (κ : Kap) (h : H) (top : Nat) (w : World) : Prop where
  cell : ∀ o g b d n, κ.m o g = some (b, d, n) → ∃ lo g' l, obj o h = .c lo g' l ∧ l.list.length = g' ∧ g ≤ g' ∧ (lo ≤ g → d ≤ g ∧ ∃ (vs : Array Value) (t : TypeId), w.heap[b]? = some (.cells vs t (0, 0)) ∧ vs.size = n ∧ g - d ≤ n ∧
      ∀ (j : Nat) (x : V), d ≤ j → j < g → l.list[j]? = some x → ∃ v, vs[j - d]? = some v ∧ VR κ x v)
  inj : ∀ o g b d n o' g' d' n', κ.m o g = some (b, d, n) → κ.m o' g' = some (b, d', n') → alive h o g = true → alive h o' g' = true → o = o' ∧ d = d'
  ge : ∀ k, κ.im k → B ≤ k ∧ k < w.heap.size
  clo : ∀ o us cs, κ.x o = some (us, cs) → ∃ nf a c, obj o h = .bx nf (.tu a c) ∧ TR κ a us.toList ∧ TR κ c cs.toList
  que : ∀ o b, κ.q o = some b → QR κ w b (obj o h)
  qinj : ∀ o o' b, κ.q o = some b → κ.q o' = some b → o = o'
  topm : ∀ o g r, κ.m o g = some r → o < top
  topx : ∀ o r, κ.x o = some r → o < top
  topq : ∀ o b, κ.q o = some b → o < top
/-- nothing but what the evaluator knows of has changed -/
structure Frm (κ : Kap) (w w' : World) : Prop where
  os : w'.os = w.os
  tape : w'.tape = w.tape
  output : w'.output = w.output
  size : w.heap.size ≤ w'.heap.size
  keep : ∀ k, k < w.heap.size → ¬ κ.im k → w'.heap[k]? = w.heap[k]?
structure Ext (κ κ' : Kap) (w : World) : Prop where
  le : κ.le κ'
  new : ∀ k, κ'.im k → κ.im k ∨ w.heap.size ≤ k
theorem Ext.refl (κ : Kap) (w : World) : Ext κ κ w := ⟨Kap.le.refl κ, fun _ h => .inl h⟩
theorem Frm.refl (κ : Kap) (w : World) : Frm κ w w := ⟨rfl, rfl, rfl, Nat.le_refl _, fun _ _ _ => rfl⟩
theorem Ext.trans {κ κ' κ'' : Kap} {w w' : World} (h : Ext κ κ' w) (hw : w.heap.size ≤ w'.heap.size) (k : Ext κ' κ'' w') : Ext κ κ'' w :=
  ⟨h.le.trans k.le, fun i hi => (k.new i hi).elim (fun hi => h.new i hi) fun hi => .inr (Nat.le_trans hw hi)⟩
theorem Frm.trans {κ κ' : Kap} {w w' w'' : World} (h : Frm κ w w') (he : Ext κ κ' w) (k : Frm κ' w' w'') : Frm κ w w'' :=
  ⟨k.os.trans h.os, k.tape.trans h.tape, k.output.trans h.output, Nat.le_trans h.size k.size, fun i hi hn => (k.keep i (Nat.lt_of_lt_of_le hi h.size) fun hm => (he.new i hm).elim hn fun hl => by omega).trans (h.keep i hi hn)⟩
end Go.Proofs.YtjkbljgolcdhhaaGreatDoor.Fw.Cm

/- The concrete evaluator and the world: the heap changes. -/
namespace Go.Proofs.YtjkbljgolcdhhaaGreatDoor.Fw.Cm
open Go Go.RowKit

theorem QR.mono {κ κ' : Kap} (hle : κ.le κ') {w : World} {b : Nat} {x : Ob} (h : QR κ w b x) : QR κ' w b x := by
  cases x with
  | mp m => obtain ⟨es, c, h1, h2⟩ := h; exact ⟨es, c, h1, h2.mono hle⟩
  | lp e ps x y st j => obtain ⟨r, h1, h2, h3⟩ := h; exact ⟨r, h1, h2.mono hle, h3⟩
  | no => exact h
  | _ => exact h
theorem QR.world {κ : Kap} {w w' : World} {b : Nat} {x : Ob} (h : QR κ w b x) (hw : w'.heap[b]? = w.heap[b]?) : QR κ w' b x := by
  cases x with
  | mp m => obtain ⟨es, c, h1, h2⟩ := h; exact ⟨es, c, hw.trans h1, h2⟩
  | lp e ps x y st j => obtain ⟨r, h1, h2, h3⟩ := h; exact ⟨r, hw.trans h1, h2, h3⟩
  | no => obtain ⟨r, h1⟩ := h; exact ⟨r, hw.trans h1⟩
  | _ => exact h.elim
theorem QR.nocells {κ : Kap} {w : World} {b : Nat} {x : Ob} (h : QR κ w b x) {vs : Array Value} {t : TypeId} {f : Nat × Nat} (hc : w.heap[b]? = some (.cells vs t f)) : False := by
  cases x with
  | mp m => obtain ⟨es, c, h1, h2⟩ := h; rw [hc] at h1; cases h1
  | lp e ps x y st j => obtain ⟨r, h1, h2, h3⟩ := h; rw [hc] at h1; cases h1
  | no => obtain ⟨r, h1⟩ := h; rw [hc] at h1; cases h1
  | _ => exact h
theorem alive_c {h : H} {o g lo g' : Nat} {l : L} (ho : obj o h = .c lo g' l) : alive h o g = true ↔ lo ≤ g := by
  unfold alive; rw [ho]
  show Nat.ble lo g = true ↔ _
  exact ⟨Nat.le_of_ble_eq_true, Nat.ble_eq_true_of_le⟩

/-- the world has changed elsewhere -/
theorem HR.world {B : Nat} {κ : Kap} {h : H} {top : Nat} {w w' : World} (hr : HR B κ h top w) (hs : w.heap.size ≤ w'.heap.size) (hk : ∀ k, κ.im k → w'.heap[k]? = w.heap[k]?) : HR B κ h top w' := by
  refine ⟨fun o g b d n hm => ?_, hr.inj, fun k hi => ⟨(hr.ge k hi).1, Nat.lt_of_lt_of_le (hr.ge k hi).2 hs⟩, hr.clo, fun o b hq => (hr.que o b hq).world (hk b (.inr ⟨o, hq⟩)), hr.qinj, hr.topm, hr.topx, hr.topq⟩
  obtain ⟨lo, g', l, h1, h2, h3, h4⟩ := hr.cell o g b d n hm
  refine ⟨lo, g', l, h1, h2, h3, fun hl => ?_⟩
  obtain ⟨k0, vs, t, k1, k2⟩ := h4 hl
  exact ⟨k0, vs, t, (hk b (.inl ⟨o, g, d, n, hm⟩)).trans k1, k2⟩
theorem HR.drawn {B : Nat} {κ : Kap} {h : H} {top : Nat} {w : World} (hr : HR B κ h top w) (n : Nat) : HR B κ h top { w with drawn := n } := hr.world (Nat.le_refl _) fun _ _ => rfl

/-- one object of cells is new or other than it was -/
theorem HR.upd {B : Nat} {κ κ' : Kap} {h : H} {top top' : Nat} {w w' : World} {o lo' g' : Nat} {l' : L} {b d n : Nat} (hr : HR B κ h top w)
    (hκ : κ.le κ') (hm : ∀ o2 g2 r, κ'.m o2 g2 = some r → κ.m o2 g2 = some r ∨ (o2 = o ∧ g2 = g' ∧ r = (b, d, n))) (hx : κ'.x = κ.x) (hq : κ'.q = κ.q)
    (hob : (∃ lo g l, obj o h = .c lo g l ∧ lo ≤ lo' ∧ g ≤ g') ∨ top ≤ o) (htop : o < top') (htop2 : top ≤ top')
    (hw : ∀ k, k ≠ b → k < w.heap.size → w'.heap[k]? = w.heap[k]?) (hs : w.heap.size ≤ w'.heap.size) (hb : B ≤ b ∧ b < w'.heap.size) (hbq : ∀ o2, κ.q o2 ≠ some b)
    (hal : ∀ o2 g2 d2 n2, o2 ≠ o → κ.m o2 g2 = some (b, d2, n2) → alive h o2 g2 = false) (hsd : ∀ g2 d2 n2, κ.m o g2 = some (b, d2, n2) → lo' ≤ g2 → d2 = d) (hlen : l'.list.length = g')
    (hcont : ∀ g b' d' n', κ'.m o g = some (b', d', n') → lo' ≤ g → g ≤ g' → d' ≤ g ∧ ∃ (vs : Array Value) (t : TypeId), w'.heap[b']? = some (.cells vs t (0, 0)) ∧ vs.size = n' ∧ g - d' ≤ n' ∧
      ∀ (j : Nat) (x : V), d' ≤ j → j < g → l'.list[j]? = some x → ∃ v, vs[j - d']? = some v ∧ VR κ' x v) : HR B κ' (seto o (.c lo' g' l') h) top' w' := by
  have hob' : ∀ o2, o2 ≠ o → obj o2 (seto o (.c lo' g' l') h) = obj o2 h := fun o2 hne => by rw [obj_seto, if_neg hne]
  have hobo : obj o (seto o (.c lo' g' l') h) = .c lo' g' l' := by rw [obj_seto, if_pos rfl]
  have halive : ∀ o2 g2, o2 ≠ o → alive (seto o (.c lo' g' l') h) o2 g2 = alive h o2 g2 := fun o2 g2 hne => by unfold alive; rw [hob' o2 hne]
  have hgm : ∀ g r, κ.m o g = some r → ∃ lo g0 l, obj o h = .c lo g0 l ∧ lo ≤ lo' ∧ g ≤ g' := by
    intro g r hmr
    obtain ⟨b0, d0, n0⟩ := r
    obtain ⟨lo, g0, l, h1, _, h3, _⟩ := hr.cell o g b0 d0 n0 hmr
    rcases hob with ⟨lo2, g2, l2, k1, k2, k3⟩ | hto
    · rw [h1] at k1; injection k1 with e1 e2 e3; subst e1; subst e2; exact ⟨lo, g0, l, h1, k2, Nat.le_trans h3 k3⟩
    · have := hr.topm o g _ hmr; omega
  have hleg : ∀ g r, κ'.m o g = some r → g ≤ g' := by
    intro g r hmr
    rcases hm o g r hmr with h1 | ⟨_, h1, _⟩
    · obtain ⟨_, _, _, _, _, h2⟩ := hgm g r h1; exact h2
    · omega
  refine ⟨fun o2 g2 b2 d2 n2 hm2 => ?_, fun o1 g1 b1 d1 n1 o2 g2 d2 n2 h1 h2 a1 a2 => ?_, fun k hi => ?_, fun o2 us cs hc => ?_, fun o2 b2 hq2 => ?_, fun o1 o2 b2 => by rw [hq]; exact hr.qinj o1 o2 b2, fun o2 g2 r hm2 => ?_, fun o2 r hc => ?_, fun o2 b2 hq2 => ?_⟩
  · by_cases he : o2 = o
    · subst he
      exact ⟨lo', g', l', hobo, hlen, hleg g2 _ hm2, fun hl => hcont g2 b2 d2 n2 hm2 hl (hleg g2 _ hm2)⟩
    · rcases hm o2 g2 _ hm2 with h1 | ⟨h1, _⟩
      · obtain ⟨lo, g0, l, k1, k2, k3, k4⟩ := hr.cell o2 g2 b2 d2 n2 h1
        refine ⟨lo, g0, l, by rw [hob' o2 he]; exact k1, k2, k3, fun hl => ?_⟩
        obtain ⟨q0, vs, t, q1, q2, q3, q4⟩ := k4 hl
        have hne : b2 ≠ b := fun e => by
          subst e
          have := hal o2 g2 d2 n2 he h1
          rw [(alive_c k1).2 hl] at this; cases this
        have hlt : b2 < w.heap.size := (hr.ge b2 (.inl ⟨o2, g2, d2, n2, h1⟩)).2
        exact ⟨q0, vs, t, (hw b2 hne hlt).trans q1, q2, q3, fun j x hj1 hj2 hx => let ⟨v, p1, p2⟩ := q4 j x hj1 hj2 hx; ⟨v, p1, p2.mono hκ⟩⟩
      · exact absurd h1 he
  · have key : ∀ o2 g2 d2 n2 b1 g1 d1 n1, o2 ≠ o → κ'.m o g1 = some (b1, d1, n1) → alive (seto o (.c lo' g' l') h) o g1 = true → κ'.m o2 g2 = some (b1, d2, n2) → alive (seto o (.c lo' g' l') h) o2 g2 = true → False := by
      intro o2 g2 d2 n2 b1 g1 d1 n1 hne m1 al1 m2 al2
      rcases hm o2 g2 _ m2 with m2' | ⟨e, _⟩
      · rw [halive o2 g2 hne] at al2
        rcases hm o g1 _ m1 with m1' | ⟨_, _, e⟩
        · obtain ⟨lo, g0, l, q1, q2, q3⟩ := hgm g1 _ m1'
          have : lo' ≤ g1 := (alive_c hobo).1 al1
          have al1' : alive h o g1 = true := (alive_c q1).2 (by omega)
          exact hne (hr.inj o2 g2 b1 d2 n2 o g1 d1 n1 m2' m1' al2 al1').1
        · injection e with e1 e2
          subst e1
          have := hal o2 g2 d2 n2 hne m2'
          rw [this] at al2; cases al2
      · exact hne e
    by_cases he1 : o1 = o
    · by_cases he2 : o2 = o
      · subst he1; subst he2
        refine ⟨rfl, ?_⟩
        have l1 := (alive_c hobo).1 a1
        have l2 := (alive_c hobo).1 a2
        rcases hm _ g1 _ h1 with h1' | ⟨_, _, e1⟩
        · rcases hm _ g2 _ h2 with h2' | ⟨_, _, e2⟩
          · obtain ⟨lo, g0, l, q1, q2, q3⟩ := hgm g1 _ h1'
            exact (hr.inj _ g1 b1 d1 n1 _ g2 d2 n2 h1' h2' ((alive_c q1).2 (by omega)) ((alive_c q1).2 (by omega))).2
          · injection e2 with e3 e4; injection e4 with e4 e5
            subst e3; subst e4
            exact hsd g1 d1 n1 h1' l1
        · injection e1 with e3 e4; injection e4 with e4 e5
          subst e3; subst e4
          rcases hm _ g2 _ h2 with h2' | ⟨_, _, e2⟩
          · exact (hsd g2 d2 n2 h2' l2).symm
          · injection e2 with e3 e4; injection e4 with e4 e5; exact e4.symm
      · subst he1; exact (key o2 g2 d2 n2 b1 g1 d1 n1 he2 h1 a1 h2 a2).elim
    · by_cases he2 : o2 = o
      · subst he2; exact (key o1 g1 d1 n1 b1 g2 d2 n2 he1 h2 a2 h1 a1).elim
      · rw [halive o1 g1 he1] at a1; rw [halive o2 g2 he2] at a2
        rcases hm o1 g1 _ h1 with h1 | ⟨e, _⟩
        · rcases hm o2 g2 _ h2 with h2 | ⟨e, _⟩
          · exact hr.inj o1 g1 b1 d1 n1 o2 g2 d2 n2 h1 h2 a1 a2
          · exact absurd e he2
        · exact absurd e he1
  · rcases hi with ⟨o2, g2, d2, n2, h1⟩ | ⟨o2, h1⟩
    · rcases hm o2 g2 _ h1 with h1 | ⟨_, _, e⟩
      · have := hr.ge k (.inl ⟨o2, g2, d2, n2, h1⟩); exact ⟨this.1, by omega⟩
      · injection e with e1 e2; subst e1; exact hb
    · rw [hq] at h1
      have := hr.ge k (.inr ⟨o2, h1⟩); exact ⟨this.1, by omega⟩
  · rw [hx] at hc
    obtain ⟨nf, a, c, k1, k2, k3⟩ := hr.clo o2 us cs hc
    have hne : o2 ≠ o := fun e => by
      subst e
      rcases hob with ⟨lo, g, l, q, _⟩ | q
      · rw [k1] at q; cases q
      · have := hr.topx o2 _ hc; omega
    exact ⟨nf, a, c, by rw [hob' o2 hne]; exact k1, k2.mono hκ, k3.mono hκ⟩
  · rw [hq] at hq2
    have hne : o2 ≠ o := fun e => by
      subst e
      rcases hob with ⟨lo, g, l, q, _⟩ | q
      · have := hr.que o2 b2 hq2; rw [q] at this; exact this
      · have := hr.topq o2 _ hq2; omega
    have hbb : b2 ≠ b := fun e => by subst e; exact hbq o2 hq2
    rw [hob' o2 hne]
    exact ((hr.que o2 b2 hq2).mono hκ).world (hw b2 hbb (hr.ge b2 (.inr ⟨o2, hq2⟩)).2)
  · rcases hm o2 g2 _ hm2 with h1 | ⟨e, _⟩
    · exact Nat.lt_of_lt_of_le (hr.topm o2 g2 _ h1) htop2
    · subst e; exact htop
  · rw [hx] at hc; exact Nat.lt_of_lt_of_le (hr.topx o2 _ hc) htop2
  · rw [hq] at hq2; exact Nat.lt_of_lt_of_le (hr.topq o2 _ hq2) htop2

/-- another object of cells (with an age of its own) -/
def Kap.put (κ : Kap) (o g : Nat) (r : Nat × Nat × Nat) : Kap := { κ with m := fun o2 g2 => if o2 = o ∧ g2 = g then some r else κ.m o2 g2 }
theorem Kap.put_m (κ : Kap) (o g : Nat) (r : Nat × Nat × Nat) (o2 g2 : Nat) (r2 : Nat × Nat × Nat) (h : (κ.put o g r).m o2 g2 = some r2) : κ.m o2 g2 = some r2 ∨ (o2 = o ∧ g2 = g ∧ r2 = r) := by
  simp only [Kap.put] at h
  split at h
  · rename_i he; injection h with h; exact .inr ⟨he.1, he.2, h.symm⟩
  · exact .inl h
theorem Kap.put_le {κ : Kap} {o g : Nat} {r : Nat × Nat × Nat} (h : κ.m o g = none ∨ κ.m o g = some r) : κ.le (κ.put o g r) := by
  refine ⟨fun o2 g2 r2 h2 => ?_, fun _ _ h => h, fun _ _ h => h⟩
  simp only [Kap.put]
  split
  · rename_i he
    obtain ⟨rfl, rfl⟩ := he
    rcases h with h | h
    · rw [h] at h2; cases h2
    · rw [h] at h2; exact h2
  · exact h2
theorem Kap.put_get (κ : Kap) (o g : Nat) (r : Nat × Nat × Nat) : (κ.put o g r).m o g = some r := by simp [Kap.put]
theorem Kap.put_im {κ : Kap} {o g b d n : Nat} {k : Nat} (h : (κ.put o g (b, d, n)).im k) : κ.im k ∨ k = b := by
  rcases h with ⟨o2, g2, d2, n2, h⟩ | ⟨o2, h⟩
  · rcases κ.put_m o g _ o2 g2 _ h with h | ⟨_, _, h⟩
    · exact .inl (.inl ⟨o2, g2, d2, n2, h⟩)
    · injection h with h1; exact .inr h1
  · exact .inl (.inr ⟨o2, h⟩)

/-- a new block -/
structure Pushed (w w' : World) (x : Obj) : Prop where
  os : w'.os = w.os
  tape : w'.tape = w.tape
  output : w'.output = w.output
  heap : w'.heap = w.heap.push x
theorem Pushed.alloc (w : World) (x : Obj) : Pushed w (w.alloc x) x := ⟨rfl, rfl, rfl, rfl⟩
theorem Pushed.drew (w : World) (x : Obj) : Pushed w (w.drew.alloc x) x := ⟨rfl, rfl, rfl, rfl⟩
theorem Pushed.size {w w' : World} {x : Obj} (h : Pushed w w' x) : w'.heap.size = w.heap.size + 1 := by rw [h.heap]; simp
theorem Pushed.old {w w' : World} {x : Obj} (h : Pushed w w' x) {k : Nat} (hk : k < w.heap.size) : w'.heap[k]? = w.heap[k]? := by
  rw [h.heap, Array.getElem?_push, if_neg (by omega)]
theorem Pushed.new {w w' : World} {x : Obj} (h : Pushed w w' x) : w'.heap[w.heap.size]? = some x := by rw [h.heap]; simp
theorem Pushed.frm {w w' : World} {x : Obj} (h : Pushed w w' x) (κ : Kap) : Frm κ w w' := ⟨h.os, h.tape, h.output, by rw [h.size]; omega, fun k hk _ => h.old hk⟩

/-- a new object in a new block: what lies before the place d is not there -/
theorem HR.newAt {B : Nat} {κ : Kap} {h : H} {top : Nat} {w w' : World} (hr : HR B κ h top w) (hB : B ≤ w.heap.size) {o g d top' lo : Nat} {l : L} {vs : Array Value} {t : TypeId} (hp : Pushed w w' (.cells vs t (0, 0)))
    (hob : (∃ lo0 g0 l0, obj o h = .c lo0 g0 l0 ∧ lo0 ≤ lo ∧ g0 ≤ g ∧ (∀ j, j < g0 → l.list[j]? = l0.list[j]?)) ∨ top ≤ o) (hno : κ.m o g = none) (htop : o < top') (htop2 : top ≤ top')
    (hlen : l.list.length = g) (hd : d ≤ g) (hn : g - d ≤ vs.size) (hv : ∀ (j : Nat) (x : V), d ≤ j → j < g → l.list[j]? = some x → ∃ v, vs[j - d]? = some v ∧ VR κ x v) :
    HR B (κ.put o g (w.heap.size, d, vs.size)) (seto o (.c lo g l) h) top' w' ∧ Ext κ (κ.put o g (w.heap.size, d, vs.size)) w ∧ Frm κ w w' := by
  have hle : κ.le (κ.put o g (w.heap.size, d, vs.size)) := Kap.put_le (.inl hno)
  refine ⟨hr.upd hle (κ.put_m o g _) rfl rfl (hob.imp (fun ⟨a, b, c, h1, h2, h3, _⟩ => ⟨a, b, c, h1, h2, h3⟩) id) htop htop2 (fun k _ hk => hp.old hk) (by rw [hp.size]; omega) ⟨hB, by rw [hp.size]; omega⟩
    (fun o2 hq => by have := (hr.ge _ (.inr ⟨o2, hq⟩)).2; omega) (fun o2 g2 d2 n2 _ hm => by have := (hr.ge _ (.inl ⟨o2, g2, d2, n2, hm⟩)).2; omega) (fun g2 d2 n2 hm _ => by have := (hr.ge _ (.inl ⟨o, g2, d2, n2, hm⟩)).2; omega) hlen ?_, ⟨hle, fun k hk => (Kap.put_im hk).imp id fun e => by omega⟩, hp.frm κ⟩
  intro g2 b2 d2 n2 hm2 hl2 hg2
  rcases κ.put_m o g _ o g2 _ hm2 with hm2 | ⟨_, rfl, e⟩
  · rcases hob with ⟨lo0, g0, l0, h1, h2, h3, h4⟩ | hto
    · obtain ⟨lo, g1, l1, k1, k2, k3, k4⟩ := hr.cell o g2 b2 d2 n2 hm2
      rw [h1] at k1; injection k1 with e1 e2 e3; subst e1; subst e2; subst e3
      obtain ⟨q0, us, u, q1, q2, q3, q4⟩ := k4 (by omega)
      refine ⟨q0, us, u, (hp.old (hr.ge _ (.inl ⟨o, g2, d2, n2, hm2⟩)).2).trans q1, q2, q3, fun j x j1 j2 hx => ?_⟩
      rw [h4 j (by omega)] at hx
      obtain ⟨v, p1, p2⟩ := q4 j x j1 j2 hx
      exact ⟨v, p1, p2.mono hle⟩
    · have := hr.topm o g2 _ hm2; omega
  · injection e with e1 e2
    injection e2 with e2 e3
    subst e1; subst e2; subst e3
    exact ⟨hd, vs, t, hp.new, rfl, hn, fun j x j1 j2 hx => let ⟨v, p1, p2⟩ := hv j x j1 j2 hx; ⟨v, p1, p2.mono hle⟩⟩
end Go.Proofs.YtjkbljgolcdhhaaGreatDoor.Fw.Cm

/- The concrete evaluator and the world: cells are written. -/
namespace Go.Proofs.YtjkbljgolcdhhaaGreatDoor.Fw.Cm
open Go Go.RowKit

theorem setRow_at {w : World} {b : Nat} {vs us : Array Value} {t : TypeId} {f : Nat × Nat} (h : w.heap[b]? = some (.cells vs t f)) : (w.setRow b us).heap[b]? = some (.cells us t f) := by
  simp only [World.setRow, Array.getElem?_modify, if_pos, h]
  rfl
theorem setRow_size (w : World) (b : Nat) (us : Array Value) : (w.setRow b us).heap.size = w.heap.size := by simp [World.setRow]
theorem setRow_frm {κ : Kap} {w : World} {b : Nat} (us : Array Value) (hb : κ.im b) : Frm κ w (w.setRow b us) := by
  refine ⟨rfl, rfl, rfl, by rw [setRow_size]; exact Nat.le_refl _, fun k _ hk => setRow_other w b k us fun e => by subst e; exact hk hb⟩

/-- a row of cells over others -/
def lay {α : Type} (vs us : List α) (k : Nat) : List α := vs.take k ++ us ++ vs.drop (k + us.length)
theorem lay_len {α : Type} {vs us : List α} {k : Nat} (h : k + us.length ≤ vs.length) : (lay vs us k).length = vs.length := by
  simp [lay, List.length_append]; omega
theorem lay_get {α : Type} {vs us : List α} {k : Nat} (h : k + us.length ≤ vs.length) (j : Nat) : (lay vs us k)[j]? = if k ≤ j ∧ j < k + us.length then us[j - k]? else vs[j]? := by
  unfold lay
  by_cases h1 : j < k
  · rw [if_neg (by omega), List.append_assoc, List.getElem?_append_left (by simp; omega), List.getElem?_take, if_pos h1]
  · by_cases h2 : j < k + us.length
    · rw [if_pos ⟨by omega, h2⟩, List.append_assoc, List.getElem?_append_right (by simp; omega), List.getElem?_append_left (by simp; omega)]
      congr 1; simp; omega
    · rw [if_neg (by omega), List.getElem?_append_right (by simp; omega), List.getElem?_drop]
      congr 1; simp; omega

section
variable {B : Nat} {κ : Kap} {h : H} {top : Nat} {w : World}

/-- what is known of cells that are alive -/
structure At (κ : Kap) (h : H) (w : World) (o g b d n lo g' : Nat) (l : L) (vs : List Value) (t : TypeId) : Prop where
  m : κ.m o g = some (b, d, n)
  ob : obj o h = .c lo g' l
  len : l.list.length = g'
  gg : g ≤ g'
  lo' : lo ≤ g
  d' : d ≤ g
  blk : w.heap[b]? = some (.cells vs.toArray t (0, 0))
  n' : vs.length = n
  room : g - d ≤ n
  rel : ∀ (j : Nat) (x : V), d ≤ j → j < g → l.list[j]? = some x → ∃ v, vs[j - d]? = some v ∧ VR κ x v
theorem HR.at (hr : HR B κ h top w) {o g b d n lo g' : Nat} {l : L} (hm : κ.m o g = some (b, d, n)) (ho : obj o h = .c lo g' l) (hl : lo ≤ g) : ∃ vs t, At κ h w o g b d n lo g' l vs t := by
  obtain ⟨lo2, g2, l2, h1, h2, h3, h4⟩ := hr.cell o g b d n hm
  rw [ho] at h1; injection h1 with e1 e2 e3; subst e1; subst e2; subst e3
  obtain ⟨q0, vs, t, q1, q2, q3, q4⟩ := h4 hl
  exact ⟨vs.toList, t, hm, ho, h2, h3, hl, q0, by simpa using q1, by simpa using q2, q3, fun j x j1 j2 hx => let ⟨v, p1, p2⟩ := q4 j x j1 j2 hx; ⟨v, by simpa using p1, p2⟩⟩

/-- what is read from a place on -/
theorem At.read {o g b d n lo g' : Nat} {l : L} {vs : List Value} {t : TypeId} (a : At κ h w o g b d n lo g' l vs t) {off k : Nat} (hd : d ≤ off) (hk : off + k ≤ g) :
    LR κ ((l.list.drop off).take k) ((vs.drop (off - d)).take k) ∧ ((vs.drop (off - d)).take k).length = k := by
  have h1 := a.len
  have h2 := a.gg
  have h3 := a.room
  have h4 := a.n'
  have hlen : ((vs.drop (off - d)).take k).length = k := by simp; omega
  refine ⟨⟨by rw [hlen]; simp; omega, fun j x v hx hv => ?_⟩, hlen⟩
  rw [List.getElem?_take] at hx hv
  split at hx
  · rename_i hj
    rw [if_pos hj, List.getElem?_drop] at hv
    rw [List.getElem?_drop] at hx
    obtain ⟨u, p1, p2⟩ := a.rel (off + j) x (by omega) (by omega) hx
    rw [show off + j - d = off - d + j by omega, hv] at p1
    injection p1 with p1; subst p1; exact p2
  · cases hx
theorem At.cell {o g b d n lo g' : Nat} {l : L} {vs : List Value} {t : TypeId} (a : At κ h w o g b d n lo g' l vs t) (j : Nat) : w.cell? ⟨b, j, none⟩ = vs[j]? := cell_of_heap a.blk j

/-- a store -/
theorem HR.store (hr : HR B κ h top w) {o g b d n lo : Nat} {l : L} {vs : List Value} {t : TypeId} (a : At κ h w o g b d n lo g l vs t) {ys : L} {us : List Value} {off : Nat} (hy : LR κ ys.list us) (hd : d ≤ off) (hk : off + us.length ≤ g) :
    HR B κ (seto o (.c g g (ys.put off l)) h) top (w.setRow b (lay vs us (off - d)).toArray) ∧ Frm κ w (w.setRow b (lay vs us (off - d)).toArray) := by
  have him : κ.im b := .inl ⟨o, g, d, n, a.m⟩
  have hlt := (hr.ge b him).2
  have h2 := a.room
  have h3 := a.n'
  have h4 := a.len
  have hput : (ys.put off l).list = lay l.list ys.list off := by rw [L.list_put _ _ _ (by omega)]; rfl
  refine ⟨hr.upd (b := b) (d := d) (n := n) (Kap.le.refl κ) (fun _ _ _ h => .inl h) rfl rfl (.inl ⟨lo, g, l, a.ob, a.lo', Nat.le_refl _⟩) (hr.topm _ _ _ a.m) (Nat.le_refl _)
    (fun k hne _ => setRow_other w b k _ hne) (by rw [setRow_size]; exact Nat.le_refl _) ⟨(hr.ge b him).1, by rw [setRow_size]; exact hlt⟩
    (fun o2 hq => ((hr.que o2 b hq).nocells a.blk).elim) (fun o2 g2 d2 n2 hne hm2 => ?_) (fun g2 d2 n2 hm2 hl => (hr.inj o g2 b d2 n2 o g d n hm2 a.m ((alive_c a.ob).2 (Nat.le_trans a.lo' hl)) ((alive_c a.ob).2 a.lo')).2) (by rw [hput, lay_len (by rw [hy.1]; omega)]; exact a.len) ?_, setRow_frm _ him⟩
  · cases hal : alive h o2 g2 with
    | false => rfl
    | true => exact absurd (hr.inj o2 g2 b d2 n2 o g d n hm2 a.m hal ((alive_c a.ob).2 a.lo')).1 hne
  · intro g2 b2 d2 n2 hm2 hl2 hg2
    have : g2 = g := by omega
    subst this
    rw [a.m] at hm2; injection hm2 with e; injection e with e1 e2; injection e2 with e2 e3
    subst e1; subst e2; subst e3
    refine ⟨a.d', _, t, setRow_at a.blk, by simp only [List.size_toArray]; rw [lay_len (by omega), a.n'], a.room, fun j x j1 j2 hx => ?_⟩
    rw [hput, lay_get (by rw [hy.1]; omega)] at hx
    simp only [List.getElem?_toArray]
    rw [lay_get (by omega)]
    split at hx
    · rename_i hj
      rw [hy.1] at hj
      rw [if_pos (by omega)]
      have hjj : j - off < us.length := by omega
      rw [show j - d - (off - d) = j - off by omega, List.getElem?_eq_getElem hjj]
      exact ⟨_, rfl, hy.2 _ _ _ hx (List.getElem?_eq_getElem hjj)⟩
    · rename_i hj
      rw [hy.1] at hj
      rw [if_neg (by omega)]
      exact a.rel j x j1 j2 hx

/-- what is written behind the end of a row, in its own block -/
theorem HR.growIn (hr : HR B κ h top w) {o g b d n lo G : Nat} {l : L} {vs : List Value} {t : TypeId} (a : At κ h w o g b d n lo g l vs t) {ys : L} {us : List Value} (hy : LR κ ys.list us) (hG : G = g + us.length) (hk : G - d ≤ n) (h0 : 0 < us.length) :
    HR B (κ.put o G (b, d, n)) (seto o (.c lo G (l.cat ys)) h) top (w.setRow b (lay vs us (g - d)).toArray) ∧ Ext κ (κ.put o G (b, d, n)) w ∧ Frm κ w (w.setRow b (lay vs us (g - d)).toArray) := by
  have him : κ.im b := .inl ⟨o, g, d, n, a.m⟩
  have hlt := (hr.ge b him).2
  have h2 := a.room
  have h3 := a.n'
  have h4 := a.len
  have h5 := a.d'
  have hnone : κ.m o G = none := by
    cases hc : κ.m o G with
    | none => rfl
    | some r =>
      obtain ⟨b3, d3, n3⟩ := r
      obtain ⟨lo2, g2, l2, q1, q2, q3, _⟩ := hr.cell o G b3 d3 n3 hc
      rw [a.ob] at q1; injection q1 with e1 e2 e3; omega
  have hle : κ.le (κ.put o G (b, d, n)) := Kap.put_le (.inl hnone)
  have hcat : (l.cat ys).list = l.list ++ ys.list := L.list_cat _ _
  refine ⟨hr.upd (b := b) (d := d) (n := n) hle (κ.put_m o G _) rfl rfl (.inl ⟨lo, g, l, a.ob, Nat.le_refl _, by omega⟩) (hr.topm _ _ _ a.m) (Nat.le_refl _)
    (fun k hne _ => setRow_other w b k _ hne) (by rw [setRow_size]; exact Nat.le_refl _) ⟨(hr.ge b him).1, by rw [setRow_size]; exact hlt⟩
    (fun o2 hq => ((hr.que o2 b hq).nocells a.blk).elim) (fun o2 g2 d2 n2 hne hm2 => ?_) (fun g2 d2 n2 hm2 hl => (hr.inj o g2 b d2 n2 o g d n hm2 a.m ((alive_c a.ob).2 hl) ((alive_c a.ob).2 a.lo')).2) (by rw [hcat, List.length_append, a.len, hy.1]; exact hG.symm) ?_, ⟨hle, fun k hk => (Kap.put_im hk).elim .inl fun e => by subst e; exact .inl him⟩, setRow_frm _ him⟩
  · cases hal : alive h o2 g2 with
    | false => rfl
    | true => exact absurd (hr.inj o2 g2 b d2 n2 o g d n hm2 a.m hal ((alive_c a.ob).2 a.lo')).1 hne
  · intro g2 b2 d2 n2 hm2 hl2 hg2
    rcases κ.put_m o G _ o g2 _ hm2 with hm2 | ⟨_, rfl, e⟩
    · obtain ⟨us2, t2, a2⟩ := hr.at hm2 a.ob hl2
      refine ⟨a2.d', ?_⟩
      have hg2' := a2.gg
      by_cases hbb : b2 = b
      · subst hbb
        have hblk := a2.blk
        rw [a.blk] at hblk
        injection hblk with e; injection e with e1 e2
        have e1 : vs = us2 := by simpa using e1
        subst e1
        have hn2 := a2.n'
        have hn := a.n'
        refine ⟨_, t, setRow_at a.blk, by simp only [List.size_toArray]; rw [lay_len (by omega), a2.n'], a2.room, fun j x j1 j2 hx => ?_⟩
        rw [hcat, List.getElem?_append_left (by omega)] at hx
        obtain ⟨v, p1, p2⟩ := a2.rel j x j1 j2 hx
        simp only [List.getElem?_toArray]
        rw [lay_get (by omega)]
        have hdd : d2 = d := (hr.inj o g2 b2 d2 n2 o g d n a2.m a.m ((alive_c a.ob).2 a2.lo') ((alive_c a.ob).2 a.lo')).2
        rw [if_neg (by omega)]; exact ⟨v, p1, p2.mono hle⟩
      · refine ⟨us2.toArray, t2, (setRow_other w b b2 _ hbb).trans a2.blk, by simpa using a2.n', a2.room, fun j x j1 j2 hx => ?_⟩
        rw [hcat, List.getElem?_append_left (by have := a2.gg; omega)] at hx
        obtain ⟨v, p1, p2⟩ := a2.rel j x j1 j2 hx
        exact ⟨v, by simpa using p1, p2.mono hle⟩
    · injection e with e1 e2; injection e2 with e2 e3
      subst e1; subst e2; subst e3
      refine ⟨by omega, _, t, setRow_at a.blk, by simp only [List.size_toArray]; rw [lay_len (by omega), a.n'], hk, fun j x j1 j2 hx => ?_⟩
      simp only [List.getElem?_toArray]
      rw [lay_get (by omega)]
      rw [hcat] at hx
      by_cases hj : j < g
      · rw [List.getElem?_append_left (by omega)] at hx
        rw [if_neg (by omega)]
        obtain ⟨v, p1, p2⟩ := a.rel j x j1 hj hx
        exact ⟨v, p1, p2.mono hle⟩
      · rw [List.getElem?_append_right (by omega), a.len] at hx
        rw [if_pos (by omega)]
        have hjj : j - g < us.length := by omega
        rw [show j - d2 - (g - d2) = j - g by omega, List.getElem?_eq_getElem hjj]
        exact ⟨_, rfl, (hy.2 _ _ _ hx (List.getElem?_eq_getElem hjj)).mono hle⟩
end
end Go.Proofs.YtjkbljgolcdhhaaGreatDoor.Fw.Cm

/- The concrete evaluator and the world: forks, closures, maps, loops. -/
namespace Go.Proofs.YtjkbljgolcdhhaaGreatDoor.Fw.Cm
open Go Go.RowKit

section
variable {B : Nat} {κ : Kap} {h : H} {top : Nat} {w : World}

/-- an object is given up -/
theorem HR.kill (hr : HR B κ h top w) {o g b d n lo g' : Nat} {l : L} {vs : List Value} {t : TypeId} (a : At κ h w o g b d n lo g' l vs t) : HR B κ (seto o (.c (g' + 1) g' l) h) top w := by
  have him : κ.im b := .inl ⟨o, g, d, n, a.m⟩
  refine hr.upd (b := b) (d := d) (n := n) (Kap.le.refl κ) (fun _ _ _ h => .inl h) rfl rfl (.inl ⟨lo, g', l, a.ob, by have := a.lo'; have := a.gg; omega, Nat.le_refl _⟩) (hr.topm _ _ _ a.m) (Nat.le_refl _)
    (fun k hne _ => rfl) (Nat.le_refl _) (hr.ge b him) (fun o2 hq => ((hr.que o2 b hq).nocells a.blk).elim) (fun o2 g2 d2 n2 hne hm2 => ?_) (fun g2 d2 n2 hm2 hl => ?_) a.len (fun g2 b2 d2 n2 hm2 hl2 hg2 => by omega)
  · cases hal : alive h o2 g2 with
    | false => rfl
    | true => exact absurd (hr.inj o2 g2 b d2 n2 o g d n hm2 a.m hal ((alive_c a.ob).2 a.lo')).1 hne
  · exact (hr.inj o g2 b d2 n2 o g d n hm2 a.m ((alive_c a.ob).2 (by have := a.lo'; have := a.gg; omega)) ((alive_c a.ob).2 a.lo')).2
theorem HR.fresh (hr : HR B κ h top w) (g : Nat) : κ.m top g = none := by
  cases hc : κ.m top g with
  | none => rfl
  | some r => have := hr.topm top g r hc; omega
theorem HR.freshx (hr : HR B κ h top w) : κ.x top = none := by
  cases hc : κ.x top with
  | none => rfl
  | some r => have := hr.topx top r hc; omega
theorem HR.freshq (hr : HR B κ h top w) : κ.q top = none := by
  cases hc : κ.q top with
  | none => rfl
  | some r => have := hr.topq top r hc; omega
/-- an append in the middle of a row, in its own block: a new object, the old one is given up -/
theorem HR.forkIn (hr : HR B κ h top w) {o g b d n lo g' e1 G : Nat} {l : L} {vs : List Value} {t : TypeId} (a : At κ h w o g b d n lo g' l vs t) {ys : L} {us : List Value} (hy : LR κ ys.list us) (he : e1 ≤ g) (hde : d ≤ e1) (hG : G = e1 + us.length) (hk : G - d ≤ n) :
    HR B (κ.put top G (b, d, n)) (seto top (.c 0 G ((l.take e1).cat ys)) (seto o (.c (g' + 1) g' l) h)) (top + 1) (w.setRow b (lay vs us (e1 - d)).toArray) ∧ Ext κ (κ.put top G (b, d, n)) w ∧ Frm κ w (w.setRow b (lay vs us (e1 - d)).toArray) := by
  have him : κ.im b := .inl ⟨o, g, d, n, a.m⟩
  have hlt := (hr.ge b him).2
  have h3 := a.n'
  have h4 := a.len
  have h5 := a.gg
  have hr1 := hr.kill a
  have hle : κ.le (κ.put top G (b, d, n)) := Kap.put_le (.inl (hr.fresh G))
  have hcat : ((l.take e1).cat ys).list = l.list.take e1 ++ ys.list := by rw [L.list_cat, L.list_take]
  have hob1 : obj o (seto o (.c (g' + 1) g' l) h) = .c (g' + 1) g' l := by rw [obj_seto, if_pos rfl]
  refine ⟨hr1.upd (b := b) (d := d) (n := n) hle (κ.put_m top G _) rfl rfl (.inr (Nat.le_refl _)) (Nat.lt_succ_self _) (Nat.le_succ _)
    (fun k hne _ => setRow_other w b k _ hne) (by rw [setRow_size]; exact Nat.le_refl _) ⟨(hr.ge b him).1, by rw [setRow_size]; exact hlt⟩
    (fun o2 hq => ((hr.que o2 b hq).nocells a.blk).elim) (fun o2 g2 d2 n2 hne hm2 => ?_) (fun g2 d2 n2 hm2 hl => by rw [hr.fresh g2] at hm2; cases hm2) (by rw [hcat, List.length_append, List.length_take, hy.1]; omega) ?_, ⟨hle, fun k hk => (Kap.put_im hk).elim .inl fun e => by subst e; exact .inl him⟩, setRow_frm _ him⟩
  · by_cases ho : o2 = o
    · subst ho
      cases hal : alive (seto o2 (.c (g' + 1) g' l) h) o2 g2 with
      | false => rfl
      | true =>
        have := (alive_c hob1).1 hal
        obtain ⟨_, _, _, q1, _, q3, _⟩ := hr.cell o2 g2 b d2 n2 hm2
        rw [a.ob] at q1; injection q1 with e1 e2 e3; omega
    · have : alive (seto o (.c (g' + 1) g' l) h) o2 g2 = alive h o2 g2 := by unfold alive; rw [obj_seto, if_neg ho]
      rw [this]
      cases hal : alive h o2 g2 with
      | false => rfl
      | true => exact absurd (hr.inj o2 g2 b d2 n2 o g d n hm2 a.m hal ((alive_c a.ob).2 a.lo')).1 ho
  · intro g2 b2 d2 n2 hm2 hl2 hg2
    rcases κ.put_m top G _ top g2 _ hm2 with hm2 | ⟨_, rfl, e⟩
    · rw [hr.fresh g2] at hm2; cases hm2
    · injection e with e1 e2; injection e2 with e2 e3
      subst e1; subst e2; subst e3
      refine ⟨by omega, _, t, setRow_at a.blk, by simp only [List.size_toArray]; rw [lay_len (by omega), a.n'], hk, fun j x j1 j2 hx => ?_⟩
      simp only [List.getElem?_toArray]
      rw [lay_get (by omega)]
      rw [hcat] at hx
      by_cases hj : j < e1
      · rw [List.getElem?_append_left (by rw [List.length_take]; omega), List.getElem?_take, if_pos hj] at hx
        rw [if_neg (by omega)]
        obtain ⟨v, p1, p2⟩ := a.rel j x j1 (by omega) hx
        exact ⟨v, p1, p2.mono hle⟩
      · rw [List.getElem?_append_right (by rw [List.length_take]; omega), List.length_take] at hx
        rw [if_pos (by omega)]
        have hjj : j - e1 < us.length := by omega
        rw [show j - d2 - (e1 - d2) = j - e1 by omega, List.getElem?_eq_getElem hjj]
        rw [show min e1 l.list.length = e1 by omega] at hx
        exact ⟨_, rfl, (hy.2 _ _ _ hx (List.getElem?_eq_getElem hjj)).mono hle⟩

/-- a new object of cells in a new block -/
theorem HR.newC (hr : HR B κ h top w) (hB : B ≤ w.heap.size) {w' : World} {n : Nat} {l : L} {vs : List Value} {t : TypeId} (hp : Pushed w w' (.cells vs.toArray t (0, 0))) (hl : LR κ l.list vs) (hn : l.list.length = n) :
    HR B (κ.put top n (w.heap.size, 0, vs.length)) (seto top (.c 0 n l) h) (top + 1) w' ∧ Ext κ (κ.put top n (w.heap.size, 0, vs.length)) w ∧ Frm κ w w' := by
  have h1 := hl.1
  have := hr.newAt hB (o := top) (g := n) (d := 0) (top' := top + 1) (lo := 0) (l := l) hp (.inr (Nat.le_refl _)) (hr.fresh n) (Nat.lt_succ_self _) (Nat.le_succ _) hn (Nat.zero_le _) (by simp; omega) (fun j x j1 j2 hx => by
    have hj : j < vs.length := by omega
    refine ⟨vs[j], by simp [hj], hl.2 j x _ hx (List.getElem?_eq_getElem hj)⟩)
  simpa using this

def Kap.putx (κ : Kap) (o : Nat) (r : Array Value × Array Value) : Kap := { κ with x := fun o2 => if o2 = o then some r else κ.x o2 }
theorem Kap.putx_le {κ : Kap} {o : Nat} {r : Array Value × Array Value} (h : κ.x o = none) : κ.le (κ.putx o r) := by
  refine ⟨fun _ _ _ h => h, fun o2 r2 h2 => ?_, fun _ _ h => h⟩
  simp only [Kap.putx]
  split
  · rename_i he; subst he; rw [h] at h2; cases h2
  · exact h2
def Kap.putq (κ : Kap) (o b : Nat) : Kap := { κ with q := fun o2 => if o2 = o then some b else κ.q o2 }
theorem Kap.putq_le {κ : Kap} {o b : Nat} (h : κ.q o = none) : κ.le (κ.putq o b) := by
  refine ⟨fun _ _ _ h => h, fun _ _ h => h, fun o2 r2 h2 => ?_⟩
  simp only [Kap.putq]
  split
  · rename_i he; subst he; rw [h] at h2; cases h2
  · exact h2
theorem Kap.putq_im {κ : Kap} {o b k : Nat} (h : (κ.putq o b).im k) : κ.im k ∨ k = b := by
  rcases h with ⟨o2, g2, d2, n2, h⟩ | ⟨o2, h⟩
  · exact .inl (.inl ⟨o2, g2, d2, n2, h⟩)
  · simp only [Kap.putq] at h
    split at h
    · injection h with h; exact .inr h.symm
    · exact .inl (.inr ⟨o2, h⟩)

/-- an object that is no cells, at the top -/
theorem HR.other (hr : HR B κ h top w) (x : Ob) : (∀ o, o < top → obj o (seto top x h) = obj o h) ∧ obj top (seto top x h) = x ∧ ∀ o g, o < top → alive (seto top x h) o g = alive h o g := by
  refine ⟨fun o ho => by rw [obj_seto, if_neg (by omega)], by rw [obj_seto, if_pos rfl], fun o g ho => by unfold alive; rw [obj_seto, if_neg (by omega)]⟩

/-- a closure -/
theorem HR.newX (hr : HR B κ h top w) {nf : Nat} {a c : W} {us cs : List Value} (ha : TR κ a us) (hc : TR κ c cs) :
    HR B (κ.putx top (us.toArray, cs.toArray)) (seto top (.bx nf (.tu a c)) h) (top + 1) w ∧ Ext κ (κ.putx top (us.toArray, cs.toArray)) w := by
  have hle : κ.le (κ.putx top (us.toArray, cs.toArray)) := Kap.putx_le hr.freshx
  obtain ⟨q1, q2, q3⟩ := hr.other (.bx nf (.tu a c))
  refine ⟨⟨fun o g b d n hm => ?_, fun o g b d n o' g' d' n' h1 h2 a1 a2 => ?_, fun k hi => hr.ge k ?_, fun o vs ds hx => ?_, fun o b hq => ?_, hr.qinj, fun o g r hm => Nat.lt_succ_of_lt (hr.topm o g r hm), fun o r hx => ?_, fun o b hq => Nat.lt_succ_of_lt (hr.topq o b hq)⟩, hle, fun k hk => .inl ?_⟩
  · obtain ⟨lo, g', l, h1, h2, h3, h4⟩ := hr.cell o g b d n hm
    refine ⟨lo, g', l, (q1 o (hr.topm _ _ _ hm)).trans h1, h2, h3, fun hl => ?_⟩
    obtain ⟨k0, vs, t, k1, k2, k3, k4⟩ := h4 hl
    exact ⟨k0, vs, t, k1, k2, k3, fun j x j1 j2 hx => let ⟨v, p1, p2⟩ := k4 j x j1 j2 hx; ⟨v, p1, p2.mono hle⟩⟩
  · rw [q3 o g (hr.topm _ _ _ h1)] at a1; rw [q3 o' g' (hr.topm _ _ _ h2)] at a2
    exact hr.inj o g b d n o' g' d' n' h1 h2 a1 a2
  · rcases hi with ⟨o2, g2, d2, n2, h⟩ | ⟨o2, h⟩
    · exact .inl ⟨o2, g2, d2, n2, h⟩
    · exact .inr ⟨o2, h⟩
  · simp only [Kap.putx] at hx
    split at hx
    · rename_i he; subst he
      injection hx with hx; injection hx with e1 e2; subst e1; subst e2
      exact ⟨nf, a, c, q2, by simpa using ha.mono hle, by simpa using hc.mono hle⟩
    · obtain ⟨nf, a, c, k1, k2, k3⟩ := hr.clo o vs ds hx
      exact ⟨nf, a, c, (q1 o (hr.topx _ _ hx)).trans k1, k2.mono hle, k3.mono hle⟩
  · rw [q1 o (hr.topq _ _ hq)]; exact (hr.que o b hq).mono hle
  · simp only [Kap.putx] at hx
    split at hx
    · omega
    · exact Nat.lt_succ_of_lt (hr.topx o r hx)
  · rcases hk with ⟨o2, g2, d2, n2, h⟩ | ⟨o2, h⟩
    · exact .inl ⟨o2, g2, d2, n2, h⟩
    · exact .inr ⟨o2, h⟩

/-- a map or a loop, in a new block -/
theorem HR.newQ (hr : HR B κ h top w) (hB : B ≤ w.heap.size) {w' : World} {x : Ob} {y : Obj} (hp : Pushed w w' y) (hx : QR (κ.putq top w.heap.size) w' w.heap.size x) :
    HR B (κ.putq top w.heap.size) (seto top x h) (top + 1) w' ∧ Ext κ (κ.putq top w.heap.size) w ∧ Frm κ w w' := by
  have hle : κ.le (κ.putq top w.heap.size) := Kap.putq_le hr.freshq
  obtain ⟨q1, q2, q3⟩ := hr.other x
  refine ⟨⟨fun o g b d n hm => ?_, fun o g b d n o' g' d' n' h1 h2 a1 a2 => ?_, fun k hi => ?_, fun o vs ds hx => ?_, fun o b hq => ?_, fun o o' b h1 h2 => ?_, fun o g r hm => Nat.lt_succ_of_lt (hr.topm o g r hm), fun o r hx => Nat.lt_succ_of_lt (hr.topx o r hx), fun o b hq => ?_⟩, ⟨hle, fun k hk => (Kap.putq_im hk).imp id fun e => by omega⟩, hp.frm κ⟩
  · obtain ⟨lo, g', l, h1, h2, h3, h4⟩ := hr.cell o g b d n hm
    refine ⟨lo, g', l, (q1 o (hr.topm _ _ _ hm)).trans h1, h2, h3, fun hl => ?_⟩
    obtain ⟨k0, vs, t, k1, k2, k3, k4⟩ := h4 hl
    exact ⟨k0, vs, t, (hp.old (hr.ge b (.inl ⟨o, g, d, n, hm⟩)).2).trans k1, k2, k3, fun j x j1 j2 hx => let ⟨v, p1, p2⟩ := k4 j x j1 j2 hx; ⟨v, p1, p2.mono hle⟩⟩
  · rw [q3 o g (hr.topm _ _ _ h1)] at a1; rw [q3 o' g' (hr.topm _ _ _ h2)] at a2
    exact hr.inj o g b d n o' g' d' n' h1 h2 a1 a2
  · rcases Kap.putq_im hi with hi | rfl
    · have := hr.ge k hi; exact ⟨this.1, by rw [hp.size]; omega⟩
    · exact ⟨hB, by rw [hp.size]; omega⟩
  · obtain ⟨nf, a, c, k1, k2, k3⟩ := hr.clo o vs ds hx
    exact ⟨nf, a, c, (q1 o (hr.topx _ _ hx)).trans k1, k2.mono hle, k3.mono hle⟩
  · simp only [Kap.putq] at hq
    split at hq
    · rename_i he; subst he; injection hq with hq; subst hq; rw [q2]; exact hx
    · rw [q1 o (hr.topq _ _ hq)]; exact ((hr.que o b hq).mono hle).world (hp.old (hr.ge b (.inr ⟨o, hq⟩)).2)
  · simp only [Kap.putq] at h1 h2
    split at h1
    · rename_i e1
      split at h2
      · rename_i e2; omega
      · injection h1 with h1
        have := (hr.ge b (.inr ⟨o', h2⟩)).2; omega
    · split at h2
      · injection h2 with h2
        have := (hr.ge b (.inr ⟨o, h1⟩)).2; omega
      · exact hr.qinj o o' b h1 h2
  · simp only [Kap.putq] at hq
    split at hq
    · omega
    · exact Nat.lt_succ_of_lt (hr.topq o b hq)

/-- a map or a loop is changed -/
theorem HR.updQ (hr : HR B κ h top w) {o b : Nat} {x : Ob} {w' : World} (hq : κ.q o = some b) (hs : w'.heap.size = w.heap.size) (hw : ∀ k, k ≠ b → w'.heap[k]? = w.heap[k]?) (hx : QR κ w' b x) : HR B κ (seto o x h) top w' := by
  have hob : ∀ o2, o2 ≠ o → obj o2 (seto o x h) = obj o2 h := fun o2 hne => by rw [obj_seto, if_neg hne]
  have hnc : ∀ o2 g d n b2, κ.m o2 g = some (b2, d, n) → o2 ≠ o := fun o2 g d n b2 hm e => by
    subst e
    obtain ⟨lo, g', l, h1, _⟩ := hr.cell o2 g b2 d n hm
    have := hr.que o2 b hq; rw [h1] at this; exact this
  have hal : ∀ o2 g d n b2, κ.m o2 g = some (b2, d, n) → alive (seto o x h) o2 g = alive h o2 g := fun o2 g d n b2 hm => by unfold alive; rw [hob o2 (hnc _ _ _ _ _ hm)]
  refine ⟨fun o2 g b2 d n hm => ?_, fun o1 g b2 d n o' g' d' n' h1 h2 a1 a2 => ?_, fun k hi => by have := hr.ge k hi; omega, fun o2 vs ds hx => ?_, fun o2 b2 hq2 => ?_, hr.qinj, hr.topm, hr.topx, hr.topq⟩
  · obtain ⟨lo, g', l, h1, h2, h3, h4⟩ := hr.cell o2 g b2 d n hm
    refine ⟨lo, g', l, (hob o2 (hnc _ _ _ _ _ hm)).trans h1, h2, h3, fun hl => ?_⟩
    obtain ⟨k0, vs, t, k1, k2⟩ := h4 hl
    exact ⟨k0, vs, t, (hw b2 fun e => by subst e; exact (hr.que o b2 hq).nocells k1).trans k1, k2⟩
  · rw [hal o1 g _ _ _ h1] at a1; rw [hal o' g' _ _ _ h2] at a2
    exact hr.inj o1 g b2 d n o' g' d' n' h1 h2 a1 a2
  · obtain ⟨nf, a, c, k1, k2, k3⟩ := hr.clo o2 vs ds hx
    have hne : o2 ≠ o := fun e => by subst e; have := hr.que o2 b hq; rw [k1] at this; exact this
    exact ⟨nf, a, c, (hob o2 hne).trans k1, k2, k3⟩
  · by_cases he : o2 = o
    · subst he
      rw [hq] at hq2; injection hq2 with e; subst e
      rw [obj_seto, if_pos rfl]; exact hx
    · rw [hob o2 he]
      exact (hr.que o2 b2 hq2).world (hw b2 fun e => he (hr.qinj o2 o b2 hq2 (by rw [e]; exact hq)))
end
end Go.Proofs.YtjkbljgolcdhhaaGreatDoor.Fw.Cm

/- The concrete evaluator and the world: operations that touch no memory, or read it. -/
namespace Go.Proofs.YtjkbljgolcdhhaaGreatDoor.Fw.Cm
open Go Go.RowKit Go.WideShapes

/-- what an operation does, told by the evaluator -/
structure OpS (P : Program) (o : Oper) (f : Op') : Prop where mk ::
  out : ∀ {rc : Rc} {e : E} {h : H} {top : Nat} {K : K} {r : R}, Good r → f rc e h top K = r → ∃ v h' top', K v h' top' = r ∧ top ≤ top' ∧
    ∀ {B : Nat} {κ : Kap} {a : Act} {w : World}, HR B κ h top w → B ≤ w.heap.size → ER κ e a.tmps → ∃ κ' u w' nx, (execOp a.eval o).run P w = .ok nx w' ∧ (nx = .value u ∨ (nx = .skip ∧ u = undef)) ∧
      HR B κ' h' top' w' ∧ Ext κ κ' w ∧ Frm κ w w' ∧ WR κ' v u
/-- an operation that only looks at values -/
structure OpP (P : Program) (o : Oper) (f : Op') : Prop where mk ::
  out : ∀ {rc : Rc} {e : E} {h : H} {top : Nat} {K : K} {r : R}, Good r → f rc e h top K = r → ∃ v, K v h top = r ∧
    ∀ {B : Nat} {κ : Kap} {a : Act} {w : World}, HR B κ h top w → ER κ e a.tmps → ∃ u, (execOp a.eval o).run P w = .ok (.value u) w ∧ WR κ v u
theorem OpP.s {P : Program} {o : Oper} {f : Op'} (hp : OpP P o f) : OpS P o f := ⟨fun {rc e h top K r} hg he => by
  obtain ⟨v, h1, h2⟩ := hp.out hg he
  refine ⟨v, h, top, h1, Nat.le_refl _, fun {B κ a w} hr hB hE => ?_⟩
  obtain ⟨u, k1, k2⟩ := h2 hr hE
  exact ⟨κ, u, w, _, k1, .inl rfl, hr, Ext.refl _ _, Frm.refl _ _, k2⟩⟩

theorem bytes_byt (b : ByteArray) : byt (bytes b) = b := by
  unfold byt bytes
  rw [List.map_map]
  have : (UInt8.ofNat ∘ UInt8.toNat) = id := by funext x; simp
  rw [this, List.map_id]
theorem bytes_lt (b : ByteArray) : ∀ c ∈ bytes b, c < 256 := by
  intro c hc
  unfold bytes at hc
  obtain ⟨x, _, rfl⟩ := List.mem_map.1 hc
  exact x.toNat_lt
theorem cV_rel {κ : Kap} {v : Value} {x : V} (h : cV v = some x) : VR κ x v := by
  unfold cV at h
  split at h <;> first | (injection h with h; subst h; first | rfl | exact ⟨by rw [bytes_byt], bytes_lt _⟩ | (simp only [VR]; rw [kd_kc])) | cases h
theorem cVs_rel {κ : Kap} : ∀ {vs : List Value} {l : List V}, cVs vs = some l → LR κ l vs
  | [], l, h => by injection h with h; subst h; exact LR.nil κ
  | v :: vs, l, h => by
    unfold cVs at h
    split at h
    · rename_i x l' h1 h2
      injection h with h; subst h
      exact LR.cons (cV_rel h1) (cVs_rel h2)
    · cases h
theorem cW_rel {κ : Kap} {v : Value} {x : W} (h : cW v = some x) : WR κ x v := by
  unfold cW at h
  split at h
  · rename_i cs
    obtain ⟨l, h1, rfl⟩ := Option.map_eq_some_iff.1 h
    exact ⟨cs.toList, by simp, by rw [ofList_list]; exact cVs_rel h1⟩
  · obtain ⟨l, h1, rfl⟩ := Option.map_eq_some_iff.1 h
    exact cV_rel h1
theorem zV_rel {κ : Kap} {v : Value} {a : AV} {x : V} (hz : zrB v a = true) (h : zV a = some x) : VR κ x v := by
  unfold zrB at hz
  split at hz
  · simp at hz; subst hz; injection h with h; subst h; rfl
  · simp at hz; obtain ⟨rfl, rfl⟩ := hz; injection h with h; subst h; simp only [VR]; rw [kd_kc]
  · rename_i s s'
    simp only [Bool.and_eq_true, beq_iff_eq] at hz
    have h' : (match s'.size with | 0 => some (V.s []) | _ => none) = some x := h
    rw [show s'.size = 0 from hz.2] at h'
    injection h' with h'; subst h'
    refine ⟨?_, by simp⟩
    have : s = byt [] := by
      cases s with
      | mk dat =>
        have he : dat = #[] := Array.eq_empty_of_size_eq_zero hz.1
        subst he; rfl
    rw [this]
  · injection h with h; subst h; rfl
  · injection h with h; subst h; rfl
  · injection h with h; subst h; rfl
  · injection h with h; subst h; rfl
  · injection h with h; subst h; rfl
  · cases hz
theorem zVs_rel {κ : Kap} : ∀ {vs : List Value} {bs : List AV} {l : List V}, zrsB vs bs = true → zVs bs = some l → LR κ l vs
  | [], [], l, _, h => by injection h with h; subst h; exact LR.nil κ
  | v :: vs, a :: bs, l, hz, h => by
    simp only [zrsB, Bool.and_eq_true] at hz
    unfold zVs at h
    split at h
    · rename_i x l' h1 h2
      injection h with h; subst h
      exact LR.cons (zV_rel hz.1 h1) (zVs_rel hz.2 h2)
    · cases h
  | [], _ :: _, _, hz, _ => by cases hz
  | _ :: _, [], _, hz, _ => by cases hz
/-- a type's zeros -/
theorem zl_rel {κ : Kap} {P : Program} {t : TypeId} {ti : TI} {i : TypeInfo} {d : TypeDesc} {z : Value} (F : TFacts P t ti i d z) {l : List V} (h : zVs ti.zero = some l) : LR κ l z.cells.toList ∧ l.length = ti.sz := by
  have h1 := zVs_rel (κ := κ) F.zcells h
  refine ⟨h1, ?_⟩
  rw [h1.1]; simp only [Array.length_toList]; rw [F.zsize, F.size]

theorem evb_rel {κ : Kap} {x : Operand} {f : E → W} (h : evb x = .mk f) {e : E} {a : Act} (hE : ER κ e a.tmps) : WR κ (f e) (a.eval x) := by
  unfold evb at h
  split at h
  · rename_i t
    split at h
    · rename_i hlt
      have hlt : t < 510 := by simpa [Nat.blt_eq] using hlt
      have hf : f = getE t := by
        unfold getE
        cases hg : getB t with
        | mk g => rw [hg] at h; injection h with h; subst h; rfl
      subst hf
      exact hE.env t hlt
    · cases h
  · rename_i v
    split at h
    · rename_i w hw; injection h with h; subst h; exact cW_rel hw
    · cases h
  · rename_i g; injection h with h; subst h; exact ⟨#[], #[], hE.x0, rfl⟩
  · cases h
theorem oB_ok {x : Operand} {k : (E → W) → OB} {f : Op'} (h : oB x k = .mk f) : ∃ g, evb x = .mk g ∧ k g = .mk f := by
  unfold oB GBo.ob at h
  cases hx : evb x with
  | mk g => rw [hx] at h; exact ⟨g, rfl, h⟩
  | no => rw [hx] at h; cases h
theorem optB_ok {x : Option Operand} {k : Option (E → W) → OB} {f : Op'} (h : optB x k = .mk f) : (x = none ∧ k none = .mk f) ∨ ∃ y g, x = some y ∧ evb y = .mk g ∧ k (some g) = .mk f := by
  cases x with
  | none => exact .inl ⟨rfl, h⟩
  | some y => obtain ⟨g, h1, h2⟩ := oB_ok h; exact .inr ⟨y, g, rfl, h1, h2⟩
theorem tB_ok {P : Program} {T : TT} (hT : T.okB P = true) {t : TypeId} {k : TI → OB} {f : Op'} (h : tB T t k = .mk f) : ∃ ti i d z, TFacts P t ti i d z ∧ k ti = .mk f := by
  unfold tB at h
  split at h
  · rename_i ti ht
    obtain ⟨i, d, z, F⟩ := TI.facts (TT.get_ok hT ht)
    exact ⟨ti, i, d, z, F, h⟩
  · cases h
theorem zl_ok {ti : TI} {k : L → OB} {f : Op'} (h : (zl ti).ob k = .mk f) : ∃ l, zVs ti.zero = some l ∧ k (ofList l) = .mk f := by
  unfold zl OL8.ob at h
  cases hz : zVs ti.zero with
  | none => rw [hz] at h; cases h
  | some l => rw [hz] at h; exact ⟨l, rfl, h⟩
theorem GL_ok {l : List Operand} {k : (E → (W → R) → R) → OB} {f : Op'} (h : (evl l).ob k = .mk f) : ∃ g, evl l = .mk g ∧ k g = .mk f := by
  unfold GL.ob at h
  cases hx : evl l with
  | mk g => rw [hx] at h; exact ⟨g, rfl, h⟩
  | no => rw [hx] at h; cases h
/-- the values of operands -/
theorem evl_rel : ∀ {l : List Operand} {g : E → (W → R) → R}, evl l = .mk g → ∃ f : E → W, (∀ e k, g e k = k (f e)) ∧ ∀ {κ : Kap} {e : E} {a : Act}, ER κ e a.tmps → TR κ (f e) (l.map a.eval)
  | [], g, h => by injection h with h; subst h; exact ⟨fun _ => .tn, fun _ _ => rfl, fun _ => rfl⟩
  | x :: l, g, h => by
    have h' : GBo.rec (motive := fun _ => GL) (fun f => GL.rec (motive := fun _ => GL) (fun g => .mk fun e k => g e fun r => k (.tu (f e) r)) .no (evl l)) .no (evb x) = GL.mk g := h
    cases hx : evb x with
    | no => rw [hx] at h'; cases h'
    | mk f0 =>
      rw [hx] at h'
      cases hl : evl l with
      | no => rw [hl] at h'; cases h'
      | mk g0 =>
        rw [hl] at h'; injection h' with h'; subst h'
        obtain ⟨f, h1, h2⟩ := evl_rel hl
        exact ⟨fun e => .tu (f0 e) (f e), fun e k => by show g0 e _ = _; rw [h1], fun hE => ⟨_, _, rfl, evb_rel hx hE, h2 hE⟩⟩

theorem val_run {P : Program} {s : Sem Value} {u : Value} {w w' : World} (h : s.run P w = .ok u w') : (do pure (.value (← s)) : Sem Next).run P w = .ok (.value u) w' := by
  simp only [Sem.run_bind, h, Result.andThen_ok, Sem.run_pure]

section
variable {P : Program} {T : TT} {dst : Option Tmp} {ty : TypeId} {pos : String} {after : Array Edge} {guard : Option (Nat × Bool)}

theorem s_move {x : Operand} {f : E → W} (hx : evb x = .mk f) : OpP P ⟨dst, .move x, ty, pos, after, guard⟩ (oMove f) :=
  ⟨fun {rc e h top K r} hg he => ⟨f e, he, fun {B κ a w} hr hE => ⟨a.eval x, rfl, evb_rel hx hE⟩⟩⟩
theorem s_assign {x : Operand} {f : E → W} (hx : evb x = .mk f) : OpP P ⟨dst, .assign x, ty, pos, after, guard⟩ (oMove f) :=
  ⟨fun {rc e h top K r} hg he => ⟨f e, he, fun {B κ a w} hr hE => ⟨a.eval x, rfl, evb_rel hx hE⟩⟩⟩
theorem s_pick {c x y : Operand} {f g k : E → W} (hc : evb c = .mk f) (hx : evb x = .mk g) (hy : evb y = .mk k) : OpP P ⟨dst, .pick c x y, ty, pos, after, guard⟩ (oPick f g k) :=
  ⟨fun {rc e h top K r} hg he => by
    obtain ⟨v, h1, he⟩ := W.v_ok he hg
    obtain ⟨b, hb, he2⟩ := V.bool_ok he hg
    subst hb
    cases b with
    | true =>
      refine ⟨g e, he2, fun {B κ a w} hr hE => ⟨a.eval x, ?_, evb_rel hx hE⟩⟩
      have := evb_rel hc hE; rw [h1] at this
      have hv : a.eval c = .bool true := this
      simp [execOp, hv, asBool]
    | false =>
      refine ⟨k e, he2, fun {B κ a w} hr hE => ⟨a.eval y, ?_, evb_rel hy hE⟩⟩
      have := evb_rel hc hE; rw [h1] at this
      have hv : a.eval c = .bool false := this
      simp [execOp, hv, asBool]⟩
theorem s_not {t : TypeId} {x : Operand} {f : E → W} (hx : evb x = .mk f) : OpP P ⟨dst, .unOp .not t x, ty, pos, after, guard⟩ (oNot f) :=
  ⟨fun {rc e h top K r} hg he => by
    obtain ⟨v, h1, he⟩ := W.v_ok he hg
    obtain ⟨b, hb, he2⟩ := V.bool_ok he hg
    subst hb
    refine ⟨.o (.b (!b)), by cases b <;> exact he2, fun {B κ a w} hr hE => ⟨.bool (!b), ?_, rfl⟩⟩
    have := evb_rel hx hE; rw [h1] at this
    have hv : a.eval x = .bool b := this
    simp only [execOp, hv]; rfl⟩
theorem s_nil {x : Operand} {f : E → W} (hx : evb x = .mk f) : OpP P ⟨dst, .nilCheck x, ty, pos, after, guard⟩ (oNil f) :=
  ⟨fun {rc e h top K r} hg he => by
    obtain ⟨v, h1, he⟩ := W.v_ok he hg
    obtain ⟨hv, he⟩ := V.some_ok he hg
    refine ⟨f e, he, fun {B κ a w} hr hE => ⟨a.eval x, ?_, evb_rel hx hE⟩⟩
    have := evb_rel hx hE; rw [h1] at this
    rcases hv with ⟨o, g, off, rfl⟩ | ⟨fn, o, rfl⟩
    · obtain ⟨b, d, n, _, _, hu⟩ := this; simp only [execOp, hu]; rfl
    · obtain ⟨us, cs, _, hu⟩ := this; simp only [execOp, hu]; rfl⟩
theorem TR_get {κ : Kap} : ∀ {i : Nat} {w : W} {vs : List Value} {k : W → R} {r : R}, TR κ w vs → W.nth w i k = r → Good r → ∃ x v, k x = r ∧ vs[i]? = some v ∧ WR κ x v
  | 0, w, vs, k, r, ht, he, hg => by
    cases w with
    | tu a q => obtain ⟨u, us, rfl, h1, h2⟩ := ht; exact ⟨a, u, he, rfl, h1⟩
    | _ => have he : R.bad 32 = r := he; subst he; exact hg.bad
  | i + 1, w, vs, k, r, ht, he, hg => by
    cases w with
    | tu a q =>
      obtain ⟨u, us, rfl, h1, h2⟩ := ht
      obtain ⟨x, v, h3, h4, h5⟩ := TR_get (i := i) h2 he hg
      exact ⟨x, v, h3, h4, h5⟩
    | _ => have he : R.bad 32 = r := he; subst he; exact hg.bad
/-- the i-th part of a tuple -/
def W.at : W → Nat → Option W
  | .tu a _, 0 => some a
  | .tu _ r, i + 1 => r.at i
  | _, _ => none
theorem nth_at : ∀ {i : Nat} {w : W} {k : W → R} {r : R}, W.nth w i k = r → Good r → ∃ x, w.at i = some x ∧ k x = r
  | 0, w, k, r, he, hg => by
    cases w with
    | tu a q => exact ⟨a, rfl, he⟩
    | _ => have he : R.bad 32 = r := he; subst he; exact hg.bad
  | i + 1, w, k, r, he, hg => by
    cases w with
    | tu a q =>
      obtain ⟨x, h1, h2⟩ := nth_at (i := i) (w := q) he hg
      exact ⟨x, h1, h2⟩
    | _ => have he : R.bad 32 = r := he; subst he; exact hg.bad
theorem at_rel {κ : Kap} : ∀ {i : Nat} {w x : W} {vs : List Value}, TR κ w vs → w.at i = some x → ∃ v, vs[i]? = some v ∧ WR κ x v
  | 0, .tu a q, x, vs, ⟨u, us, h0, h1, h2⟩, he => by injection he with he; subst he; subst h0; exact ⟨u, rfl, h1⟩
  | i + 1, .tu a q, x, vs, ⟨u, us, h0, h1, h2⟩, he => by
    subst h0
    obtain ⟨v, h3, h4⟩ := at_rel (i := i) h2 he
    exact ⟨v, h3, h4⟩
  | 0, .o _, _, _, h, _ => h.elim
  | 0, .ag _, _, _, h, _ => h.elim
  | 0, .tn, _, _, _, he => by cases he
  | 0, .un, _, _, h, _ => h.elim
  | i + 1, .o _, _, _, h, _ => h.elim
  | i + 1, .ag _, _, _, h, _ => h.elim
  | i + 1, .tn, _, _, _, he => by cases he
  | i + 1, .un, _, _, h, _ => h.elim
theorem s_extract {x : Operand} {i : Nat} {f : E → W} (hx : evb x = .mk f) : OpP P ⟨dst, .extract x i, ty, pos, after, guard⟩ (oExtract f i) :=
  ⟨fun {rc e h top K r} hg he => by
    obtain ⟨v, h1, he⟩ := nth_at he hg
    refine ⟨v, he, fun {B κ a w} hr hE => ?_⟩
    have h2 := evb_rel hx hE
    have : ∃ vs, a.eval x = .tuple vs.toArray ∧ TR κ (f e) vs := by
      cases hf : f e with
      | tu p q => rw [hf] at h2; exact WR.tu.1 h2
      | _ => rw [hf] at h1; cases i <;> cases h1
    obtain ⟨vs, h3, h4⟩ := this
    obtain ⟨u, h5, h6⟩ := at_rel h4 h1
    exact ⟨u, by simp only [execOp]; exact val_run (by simp [Instr.extract, h3, h5]), h6⟩⟩
theorem s_load (hT : T.okB P = true) {t : TypeId} {x : Operand} {ti : TI} {i : TypeInfo} {d : TypeDesc} {z : Value} (F : TFacts P t ti i d z) {f : E → W} (hx : evb x = .mk f) : OpP P ⟨dst, .load t x, ty, pos, after, guard⟩ (oLoad ti.agg ti.sz f) :=
  ⟨fun {rc e h top K r} hg he => by
    obtain ⟨v, h1, he⟩ := W.v_ok he hg
    replace he := V.ptr_ok he hg; obtain ⟨o, g, off, rfl, he⟩ := he
    obtain ⟨lo, g', l, hob, hlo, hhi, he⟩ := Ob.cell_ok he hg
    have hrun : ∀ {κ : Kap} {a : Act} {w : World} {B : Nat}, HR B κ h top w → ER κ e a.tmps → ∃ vs : List Value, vs.length = ti.sz ∧ LR κ ((l.list.drop off).take ti.sz) vs ∧ ∃ b p, a.eval x = .pointer (some ⟨b, p, none⟩) ∧ ∀ j v, vs[j]? = some v → w.cell? ⟨b, p + j, none⟩ = some v := by
      intro κ a w B hr hE
      have h2 := evb_rel hx hE; rw [h1] at h2
      obtain ⟨b, dd, n, hm, hd, hu⟩ := h2
      obtain ⟨vs, u, A⟩ := hr.at hm hob hlo
      obtain ⟨k1, k2⟩ := A.read hd hhi
      refine ⟨_, k2, k1, b, off - dd, hu, fun j v hj => ?_⟩
      rw [A.cell]
      rw [List.getElem?_take] at hj
      split at hj
      · rw [List.getElem?_drop] at hj; exact hj
      · cases hj
    cases ha : ti.agg with
    | true =>
      rw [ha] at he
      refine ⟨.ag ((l.drop off).take ti.sz), he, fun {B κ a w} hr hE => ?_⟩
      obtain ⟨vs, k1, k2, b, p, k3, k4⟩ := hrun hr hE
      refine ⟨.agg vs.toArray, ?_, vs, rfl, by rw [L.list_take, L.list_drop]; exact k2⟩
      simp only [execOp, k3]
      refine val_run ?_
      have := run_loadVar_agg (w := w) F ha ⟨b, p, none⟩ vs k1 (fun j v hj => by rw [addr_add]; exact k4 j v hj)
      simpa [Instr.loadAt, Instr.sureAddr] using this
    | false =>
      rw [ha] at he
      obtain ⟨y, q, hl, he⟩ := L.hdK_ok he hg
      refine ⟨.o y, he, fun {B κ a w} hr hE => ?_⟩
      obtain ⟨vs, k1, k2, b, p, k3, k4⟩ := hrun hr hE
      have hl' : (l.list.drop off).take ti.sz = y :: q.list := by rw [← L.list_drop, ← L.list_take, hl]; rfl
      rw [hl'] at k2
      obtain ⟨u, us, rfl, k5, k6⟩ := k2.uncons
      refine ⟨u, ?_, k5⟩
      simp only [execOp, k3]
      refine val_run ?_
      have := run_loadVar_leaf (w := w) F ha ⟨b, p, none⟩ u (by have := k4 0 u rfl; simpa using this)
      simpa [Instr.loadAt, Instr.sureAddr] using this⟩
theorem s_fieldAddr {t : TypeId} {x : Operand} {ti : TI} {i : TypeInfo} {d : TypeDesc} {z : Value} (F : TFacts P t ti i d z) {f : E → W} (hx : evb x = .mk f) {k : Nat} {q : Nat × Nat × Bool} (hf : ti.fields[k]? = some q) (hq : q.2.1 ≠ 0) :
    OpP P ⟨dst, .fieldAddr t x k, ty, pos, after, guard⟩ (oFieldAddr q.1 f) :=
  ⟨fun {rc e h top K r} hg he => by
    obtain ⟨v, h1, he⟩ := W.v_ok he hg
    replace he := V.ptr_ok he hg; obtain ⟨o, g, off, rfl, he⟩ := he
    rw [sNat_eq] at he
    refine ⟨_, he, fun {B κ a w} hr hE => ?_⟩
    have h2 := evb_rel hx hE; rw [h1] at h2
    obtain ⟨b, dd, n, hm, hd, hu⟩ := h2
    refine ⟨.pointer (some ⟨b, off - dd + q.1, none⟩), ?_, b, dd, n, hm, by omega, by rw [show off + q.1 - dd = off - dd + q.1 by omega]⟩
    simp only [execOp, hu]
    exact val_run (run_fieldAt F hf hq _ _)⟩
theorem s_indexAddr {t : TypeId} {x y : Operand} {ti : TI} {i : TypeInfo} {d : TypeDesc} {z : Value} (F : TFacts P t ti i d z) {f g : E → W} (hx : evb x = .mk f) (hy : evb y = .mk g) {el : TypeId} (hk : ti.kind = .slice el) :
    OpP P ⟨dst, .indexAddr t x y, ty, pos, after, guard⟩ (oIndexAddr ti.esz f g) :=
  ⟨fun {rc e h top K r} hg he => by
    obtain ⟨v1, v2, h1, h2, he⟩ := two_ok he hg
    replace he := V.nat_ok he hg; obtain ⟨c, k, rfl, he⟩ := he
    have hi : ∀ {κ : Kap} {a : Act}, ER κ e a.tmps → a.eval y = .int (kd c) k := fun hE => by have := evb_rel hy hE; rw [h2] at this; exact this
    replace he := V.slice_ok he hg; rcases he with ⟨rfl, he⟩ | ⟨o, q, off, n, cap, rfl, he⟩ | ⟨o, q, off, n, sz, rfl, he⟩ | ⟨rfl, he⟩
    · subst he; exact hg.bad
    · obtain ⟨hlt, he⟩ := gd_ok he hg
      rw [sNat_eq] at he
      have hlt : k < n := by simpa [Nat.blt_eq] using hlt
      refine ⟨_, he, fun {B κ a w} hr hE => ?_⟩
      have h3 := evb_rel hx hE; rw [h1] at h3
      obtain ⟨b, dd, nn, hm, hd, hnc, hn32, hu⟩ := h3
      refine ⟨.pointer (some ⟨b, off - dd + k * ti.esz, none⟩), ?_, b, dd, nn, hm, by omega, by rw [show off + k * ti.esz - dd = off - dd + k * ti.esz by omega]⟩
      simp only [execOp, hu, hi hE]
      exact val_run (run_indexAt F hk _ _ _ _ _ _ hlt)
    · obtain ⟨hlt, he⟩ := gd_ok he hg
      rw [sNat_eq] at he
      have hlt : k < n := by simpa [Nat.blt_eq] using hlt
      refine ⟨_, he, fun {B κ a w} hr hE => ?_⟩
      have h3 := evb_rel hx hE; rw [h1] at h3
      obtain ⟨b, dd, nn, cap, hm, hd, hsz, hnc, hn32, _, _, hu⟩ := h3
      refine ⟨.pointer (some ⟨b, off - dd + k * ti.esz, none⟩), ?_, b, dd, nn, hm, by omega, by rw [show off + k * ti.esz - dd = off - dd + k * ti.esz by omega]⟩
      simp only [execOp, hu, hi hE]
      exact val_run (run_indexAt F hk _ _ _ _ _ _ hlt)
    · subst he; exact hg.bad⟩
end
end Go.Proofs.YtjkbljgolcdhhaaGreatDoor.Fw.Cm
