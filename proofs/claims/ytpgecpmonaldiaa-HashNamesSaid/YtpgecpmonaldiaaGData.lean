/- Data. -/
import Derived.Test.YtpgecpmonaldiaaFwX
set_option autoImplicit false
set_option linter.unusedVariables false
set_option linter.unusedSimpArgs false
namespace Go.Proofs.Ytpgecpmonaldiaa.Fw
open Go Go.Proofs
def boolDs (l : List Bool) : List D := l.map D.bool
theorem boolDs_map (l : List Bool) : boolDs l = l.map D.bool := rfl
theorem boolDs_nil : boolDs [] = [] := rfl
theorem boolDs_cons (a : Bool) (l : List Bool) : boolDs (a :: l) = D.bool a :: boolDs l := by simp [boolDs_map]
theorem boolDs_append (a l : List Bool) : boolDs (a ++ l) = boolDs a ++ boolDs l := by simp [boolDs_map]
theorem boolDs_len (l : List Bool) : (boolDs l).length = l.length := by simp [boolDs_map]
theorem boolDs_get {l : List Bool} {k : Nat} {x : Bool} (h : l[k]? = some x) : (boolDs l)[k]? = some (D.bool x) := by simp [boolDs_map, h]
theorem boolDs_cut (l : List Bool) (a b : Nat) : ((boolDs l).take b).drop a = boolDs ((l.take b).drop a) := by simp [boolDs_map, List.map_take, List.map_drop]
theorem boolDs_set (l : List Bool) (k : Nat) (x : Bool) : boolDs (l.set k x) = (boolDs l).set k (D.bool x) := by simp [boolDs_map, List.map_set]
theorem boolDs_rep (k : Nat) (x : Bool) : boolDs (List.replicate k x) = List.replicate k (D.bool x) := by simp [boolDs_map]
theorem boolDs_fit (x : Bool) {ti : TI} (h1 : ti.agg = false) (h2 : ti.sz = 1) : Fit ti (D.bool x) := ⟨h1.symm, h2.symm, by simp [D.cells, D.leaf]⟩
theorem boolDs_all : (boolDs [] = []) ∧ (∀ (a : Bool) (l : List Bool), boolDs (a :: l) = D.bool a :: boolDs l) ∧ (∀ a l : List Bool, boolDs (a ++ l) = boolDs a ++ boolDs l) ∧ (∀ l : List Bool, (boolDs l).length = l.length) ∧ (∀ (l : List Bool) (a b : Nat), ((boolDs l).take b).drop a = boolDs ((l.take b).drop a)) ∧ (∀ (l : List Bool) (k : Nat) (x : Bool), boolDs (l.set k x) = (boolDs l).set k (D.bool x)) ∧ (∀ (k : Nat) (x : Bool), boolDs (List.replicate k x) = List.replicate k (D.bool x)) := ⟨boolDs_nil, boolDs_cons, boolDs_append, boolDs_len, boolDs_cut, boolDs_set, boolDs_rep⟩
theorem boolDs_lit (x : Bool) : LitOk 1 (D.bool x) := ⟨rfl, rfl⟩
def strDs (l : List ByteArray) : List D := l.map D.str
theorem strDs_map (l : List ByteArray) : strDs l = l.map D.str := rfl
theorem strDs_nil : strDs [] = [] := rfl
theorem strDs_cons (a : ByteArray) (l : List ByteArray) : strDs (a :: l) = D.str a :: strDs l := by simp [strDs_map]
theorem strDs_append (a l : List ByteArray) : strDs (a ++ l) = strDs a ++ strDs l := by simp [strDs_map]
theorem strDs_len (l : List ByteArray) : (strDs l).length = l.length := by simp [strDs_map]
theorem strDs_get {l : List ByteArray} {k : Nat} {x : ByteArray} (h : l[k]? = some x) : (strDs l)[k]? = some (D.str x) := by simp [strDs_map, h]
theorem strDs_cut (l : List ByteArray) (a b : Nat) : ((strDs l).take b).drop a = strDs ((l.take b).drop a) := by simp [strDs_map, List.map_take, List.map_drop]
theorem strDs_set (l : List ByteArray) (k : Nat) (x : ByteArray) : strDs (l.set k x) = (strDs l).set k (D.str x) := by simp [strDs_map, List.map_set]
theorem strDs_rep (k : Nat) (x : ByteArray) : strDs (List.replicate k x) = List.replicate k (D.str x) := by simp [strDs_map]
theorem strDs_fit (x : ByteArray) {ti : TI} (h1 : ti.agg = false) (h2 : ti.sz = 1) : Fit ti (D.str x) := ⟨h1.symm, h2.symm, by simp [D.cells, D.leaf]⟩
theorem strDs_all : (strDs [] = []) ∧ (∀ (a : ByteArray) (l : List ByteArray), strDs (a :: l) = D.str a :: strDs l) ∧ (∀ a l : List ByteArray, strDs (a ++ l) = strDs a ++ strDs l) ∧ (∀ l : List ByteArray, (strDs l).length = l.length) ∧ (∀ (l : List ByteArray) (a b : Nat), ((strDs l).take b).drop a = strDs ((l.take b).drop a)) ∧ (∀ (l : List ByteArray) (k : Nat) (x : ByteArray), strDs (l.set k x) = (strDs l).set k (D.str x)) ∧ (∀ (k : Nat) (x : ByteArray), strDs (List.replicate k x) = List.replicate k (D.str x)) := ⟨strDs_nil, strDs_cons, strDs_append, strDs_len, strDs_cut, strDs_set, strDs_rep⟩
theorem strDs_lit (x : ByteArray) : LitOk 1 (D.str x) := ⟨rfl, rfl⟩
def intDs_i8 (l : List Int) : List D := l.map (D.int .i8)
theorem intDs_i8_map (l : List Int) : intDs_i8 l = l.map (D.int .i8) := rfl
theorem intDs_i8_nil : intDs_i8 [] = [] := rfl
theorem intDs_i8_cons (a : Int) (l : List Int) : intDs_i8 (a :: l) = (D.int .i8) a :: intDs_i8 l := by simp [intDs_i8_map]
theorem intDs_i8_append (a l : List Int) : intDs_i8 (a ++ l) = intDs_i8 a ++ intDs_i8 l := by simp [intDs_i8_map]
theorem intDs_i8_len (l : List Int) : (intDs_i8 l).length = l.length := by simp [intDs_i8_map]
theorem intDs_i8_get {l : List Int} {k : Nat} {x : Int} (h : l[k]? = some x) : (intDs_i8 l)[k]? = some ((D.int .i8) x) := by simp [intDs_i8_map, h]
theorem intDs_i8_cut (l : List Int) (a b : Nat) : ((intDs_i8 l).take b).drop a = intDs_i8 ((l.take b).drop a) := by simp [intDs_i8_map, List.map_take, List.map_drop]
theorem intDs_i8_set (l : List Int) (k : Nat) (x : Int) : intDs_i8 (l.set k x) = (intDs_i8 l).set k ((D.int .i8) x) := by simp [intDs_i8_map, List.map_set]
theorem intDs_i8_rep (k : Nat) (x : Int) : intDs_i8 (List.replicate k x) = List.replicate k ((D.int .i8) x) := by simp [intDs_i8_map]
theorem intDs_i8_fit (x : Int) {ti : TI} (h1 : ti.agg = false) (h2 : ti.sz = 1) : Fit ti ((D.int .i8) x) := ⟨h1.symm, h2.symm, by simp [D.cells, D.leaf]⟩
theorem intDs_i8_all : (intDs_i8 [] = []) ∧ (∀ (a : Int) (l : List Int), intDs_i8 (a :: l) = (D.int .i8) a :: intDs_i8 l) ∧ (∀ a l : List Int, intDs_i8 (a ++ l) = intDs_i8 a ++ intDs_i8 l) ∧ (∀ l : List Int, (intDs_i8 l).length = l.length) ∧ (∀ (l : List Int) (a b : Nat), ((intDs_i8 l).take b).drop a = intDs_i8 ((l.take b).drop a)) ∧ (∀ (l : List Int) (k : Nat) (x : Int), intDs_i8 (l.set k x) = (intDs_i8 l).set k ((D.int .i8) x)) ∧ (∀ (k : Nat) (x : Int), intDs_i8 (List.replicate k x) = List.replicate k ((D.int .i8) x)) := ⟨intDs_i8_nil, intDs_i8_cons, intDs_i8_append, intDs_i8_len, intDs_i8_cut, intDs_i8_set, intDs_i8_rep⟩
theorem intDs_i8_lit (x : Int) : LitOk 1 ((D.int .i8) x) := ⟨rfl, rfl⟩
theorem intDs_i8_agg (l : List Int) : ∀ q ∈ intDs_i8 l, q.isAgg = false := fun q h => by obtain ⟨x, _, rfl⟩ := List.mem_map.1 h; rfl
theorem intDs_i8_getD (l : List Int) (n : Nat) (o : Int) : (intDs_i8 l).getD n (.int .i8 o) = .int .i8 (l.getD n o) := by simp [intDs_i8, List.getD_eq_getElem?_getD, List.getElem?_map]
def intDs_i16 (l : List Int) : List D := l.map (D.int .i16)
theorem intDs_i16_map (l : List Int) : intDs_i16 l = l.map (D.int .i16) := rfl
theorem intDs_i16_nil : intDs_i16 [] = [] := rfl
theorem intDs_i16_cons (a : Int) (l : List Int) : intDs_i16 (a :: l) = (D.int .i16) a :: intDs_i16 l := by simp [intDs_i16_map]
theorem intDs_i16_append (a l : List Int) : intDs_i16 (a ++ l) = intDs_i16 a ++ intDs_i16 l := by simp [intDs_i16_map]
theorem intDs_i16_len (l : List Int) : (intDs_i16 l).length = l.length := by simp [intDs_i16_map]
theorem intDs_i16_get {l : List Int} {k : Nat} {x : Int} (h : l[k]? = some x) : (intDs_i16 l)[k]? = some ((D.int .i16) x) := by simp [intDs_i16_map, h]
theorem intDs_i16_cut (l : List Int) (a b : Nat) : ((intDs_i16 l).take b).drop a = intDs_i16 ((l.take b).drop a) := by simp [intDs_i16_map, List.map_take, List.map_drop]
theorem intDs_i16_set (l : List Int) (k : Nat) (x : Int) : intDs_i16 (l.set k x) = (intDs_i16 l).set k ((D.int .i16) x) := by simp [intDs_i16_map, List.map_set]
theorem intDs_i16_rep (k : Nat) (x : Int) : intDs_i16 (List.replicate k x) = List.replicate k ((D.int .i16) x) := by simp [intDs_i16_map]
theorem intDs_i16_fit (x : Int) {ti : TI} (h1 : ti.agg = false) (h2 : ti.sz = 1) : Fit ti ((D.int .i16) x) := ⟨h1.symm, h2.symm, by simp [D.cells, D.leaf]⟩
theorem intDs_i16_all : (intDs_i16 [] = []) ∧ (∀ (a : Int) (l : List Int), intDs_i16 (a :: l) = (D.int .i16) a :: intDs_i16 l) ∧ (∀ a l : List Int, intDs_i16 (a ++ l) = intDs_i16 a ++ intDs_i16 l) ∧ (∀ l : List Int, (intDs_i16 l).length = l.length) ∧ (∀ (l : List Int) (a b : Nat), ((intDs_i16 l).take b).drop a = intDs_i16 ((l.take b).drop a)) ∧ (∀ (l : List Int) (k : Nat) (x : Int), intDs_i16 (l.set k x) = (intDs_i16 l).set k ((D.int .i16) x)) ∧ (∀ (k : Nat) (x : Int), intDs_i16 (List.replicate k x) = List.replicate k ((D.int .i16) x)) := ⟨intDs_i16_nil, intDs_i16_cons, intDs_i16_append, intDs_i16_len, intDs_i16_cut, intDs_i16_set, intDs_i16_rep⟩
theorem intDs_i16_lit (x : Int) : LitOk 1 ((D.int .i16) x) := ⟨rfl, rfl⟩
theorem intDs_i16_agg (l : List Int) : ∀ q ∈ intDs_i16 l, q.isAgg = false := fun q h => by obtain ⟨x, _, rfl⟩ := List.mem_map.1 h; rfl
theorem intDs_i16_getD (l : List Int) (n : Nat) (o : Int) : (intDs_i16 l).getD n (.int .i16 o) = .int .i16 (l.getD n o) := by simp [intDs_i16, List.getD_eq_getElem?_getD, List.getElem?_map]
def intDs_i32 (l : List Int) : List D := l.map (D.int .i32)
theorem intDs_i32_map (l : List Int) : intDs_i32 l = l.map (D.int .i32) := rfl
theorem intDs_i32_nil : intDs_i32 [] = [] := rfl
theorem intDs_i32_cons (a : Int) (l : List Int) : intDs_i32 (a :: l) = (D.int .i32) a :: intDs_i32 l := by simp [intDs_i32_map]
theorem intDs_i32_append (a l : List Int) : intDs_i32 (a ++ l) = intDs_i32 a ++ intDs_i32 l := by simp [intDs_i32_map]
theorem intDs_i32_len (l : List Int) : (intDs_i32 l).length = l.length := by simp [intDs_i32_map]
theorem intDs_i32_get {l : List Int} {k : Nat} {x : Int} (h : l[k]? = some x) : (intDs_i32 l)[k]? = some ((D.int .i32) x) := by simp [intDs_i32_map, h]
theorem intDs_i32_cut (l : List Int) (a b : Nat) : ((intDs_i32 l).take b).drop a = intDs_i32 ((l.take b).drop a) := by simp [intDs_i32_map, List.map_take, List.map_drop]
theorem intDs_i32_set (l : List Int) (k : Nat) (x : Int) : intDs_i32 (l.set k x) = (intDs_i32 l).set k ((D.int .i32) x) := by simp [intDs_i32_map, List.map_set]
theorem intDs_i32_rep (k : Nat) (x : Int) : intDs_i32 (List.replicate k x) = List.replicate k ((D.int .i32) x) := by simp [intDs_i32_map]
theorem intDs_i32_fit (x : Int) {ti : TI} (h1 : ti.agg = false) (h2 : ti.sz = 1) : Fit ti ((D.int .i32) x) := ⟨h1.symm, h2.symm, by simp [D.cells, D.leaf]⟩
theorem intDs_i32_all : (intDs_i32 [] = []) ∧ (∀ (a : Int) (l : List Int), intDs_i32 (a :: l) = (D.int .i32) a :: intDs_i32 l) ∧ (∀ a l : List Int, intDs_i32 (a ++ l) = intDs_i32 a ++ intDs_i32 l) ∧ (∀ l : List Int, (intDs_i32 l).length = l.length) ∧ (∀ (l : List Int) (a b : Nat), ((intDs_i32 l).take b).drop a = intDs_i32 ((l.take b).drop a)) ∧ (∀ (l : List Int) (k : Nat) (x : Int), intDs_i32 (l.set k x) = (intDs_i32 l).set k ((D.int .i32) x)) ∧ (∀ (k : Nat) (x : Int), intDs_i32 (List.replicate k x) = List.replicate k ((D.int .i32) x)) := ⟨intDs_i32_nil, intDs_i32_cons, intDs_i32_append, intDs_i32_len, intDs_i32_cut, intDs_i32_set, intDs_i32_rep⟩
theorem intDs_i32_lit (x : Int) : LitOk 1 ((D.int .i32) x) := ⟨rfl, rfl⟩
theorem intDs_i32_agg (l : List Int) : ∀ q ∈ intDs_i32 l, q.isAgg = false := fun q h => by obtain ⟨x, _, rfl⟩ := List.mem_map.1 h; rfl
theorem intDs_i32_getD (l : List Int) (n : Nat) (o : Int) : (intDs_i32 l).getD n (.int .i32 o) = .int .i32 (l.getD n o) := by simp [intDs_i32, List.getD_eq_getElem?_getD, List.getElem?_map]
def intDs_i64 (l : List Int) : List D := l.map (D.int .i64)
theorem intDs_i64_map (l : List Int) : intDs_i64 l = l.map (D.int .i64) := rfl
theorem intDs_i64_nil : intDs_i64 [] = [] := rfl
theorem intDs_i64_cons (a : Int) (l : List Int) : intDs_i64 (a :: l) = (D.int .i64) a :: intDs_i64 l := by simp [intDs_i64_map]
theorem intDs_i64_append (a l : List Int) : intDs_i64 (a ++ l) = intDs_i64 a ++ intDs_i64 l := by simp [intDs_i64_map]
theorem intDs_i64_len (l : List Int) : (intDs_i64 l).length = l.length := by simp [intDs_i64_map]
theorem intDs_i64_get {l : List Int} {k : Nat} {x : Int} (h : l[k]? = some x) : (intDs_i64 l)[k]? = some ((D.int .i64) x) := by simp [intDs_i64_map, h]
theorem intDs_i64_cut (l : List Int) (a b : Nat) : ((intDs_i64 l).take b).drop a = intDs_i64 ((l.take b).drop a) := by simp [intDs_i64_map, List.map_take, List.map_drop]
theorem intDs_i64_set (l : List Int) (k : Nat) (x : Int) : intDs_i64 (l.set k x) = (intDs_i64 l).set k ((D.int .i64) x) := by simp [intDs_i64_map, List.map_set]
theorem intDs_i64_rep (k : Nat) (x : Int) : intDs_i64 (List.replicate k x) = List.replicate k ((D.int .i64) x) := by simp [intDs_i64_map]
theorem intDs_i64_fit (x : Int) {ti : TI} (h1 : ti.agg = false) (h2 : ti.sz = 1) : Fit ti ((D.int .i64) x) := ⟨h1.symm, h2.symm, by simp [D.cells, D.leaf]⟩
theorem intDs_i64_all : (intDs_i64 [] = []) ∧ (∀ (a : Int) (l : List Int), intDs_i64 (a :: l) = (D.int .i64) a :: intDs_i64 l) ∧ (∀ a l : List Int, intDs_i64 (a ++ l) = intDs_i64 a ++ intDs_i64 l) ∧ (∀ l : List Int, (intDs_i64 l).length = l.length) ∧ (∀ (l : List Int) (a b : Nat), ((intDs_i64 l).take b).drop a = intDs_i64 ((l.take b).drop a)) ∧ (∀ (l : List Int) (k : Nat) (x : Int), intDs_i64 (l.set k x) = (intDs_i64 l).set k ((D.int .i64) x)) ∧ (∀ (k : Nat) (x : Int), intDs_i64 (List.replicate k x) = List.replicate k ((D.int .i64) x)) := ⟨intDs_i64_nil, intDs_i64_cons, intDs_i64_append, intDs_i64_len, intDs_i64_cut, intDs_i64_set, intDs_i64_rep⟩
theorem intDs_i64_lit (x : Int) : LitOk 1 ((D.int .i64) x) := ⟨rfl, rfl⟩
theorem intDs_i64_agg (l : List Int) : ∀ q ∈ intDs_i64 l, q.isAgg = false := fun q h => by obtain ⟨x, _, rfl⟩ := List.mem_map.1 h; rfl
theorem intDs_i64_getD (l : List Int) (n : Nat) (o : Int) : (intDs_i64 l).getD n (.int .i64 o) = .int .i64 (l.getD n o) := by simp [intDs_i64, List.getD_eq_getElem?_getD, List.getElem?_map]
def intDs_u8 (l : List Int) : List D := l.map (D.int .u8)
theorem intDs_u8_map (l : List Int) : intDs_u8 l = l.map (D.int .u8) := rfl
theorem intDs_u8_nil : intDs_u8 [] = [] := rfl
theorem intDs_u8_cons (a : Int) (l : List Int) : intDs_u8 (a :: l) = (D.int .u8) a :: intDs_u8 l := by simp [intDs_u8_map]
theorem intDs_u8_append (a l : List Int) : intDs_u8 (a ++ l) = intDs_u8 a ++ intDs_u8 l := by simp [intDs_u8_map]
theorem intDs_u8_len (l : List Int) : (intDs_u8 l).length = l.length := by simp [intDs_u8_map]
theorem intDs_u8_get {l : List Int} {k : Nat} {x : Int} (h : l[k]? = some x) : (intDs_u8 l)[k]? = some ((D.int .u8) x) := by simp [intDs_u8_map, h]
theorem intDs_u8_cut (l : List Int) (a b : Nat) : ((intDs_u8 l).take b).drop a = intDs_u8 ((l.take b).drop a) := by simp [intDs_u8_map, List.map_take, List.map_drop]
theorem intDs_u8_set (l : List Int) (k : Nat) (x : Int) : intDs_u8 (l.set k x) = (intDs_u8 l).set k ((D.int .u8) x) := by simp [intDs_u8_map, List.map_set]
theorem intDs_u8_rep (k : Nat) (x : Int) : intDs_u8 (List.replicate k x) = List.replicate k ((D.int .u8) x) := by simp [intDs_u8_map]
theorem intDs_u8_fit (x : Int) {ti : TI} (h1 : ti.agg = false) (h2 : ti.sz = 1) : Fit ti ((D.int .u8) x) := ⟨h1.symm, h2.symm, by simp [D.cells, D.leaf]⟩
theorem intDs_u8_all : (intDs_u8 [] = []) ∧ (∀ (a : Int) (l : List Int), intDs_u8 (a :: l) = (D.int .u8) a :: intDs_u8 l) ∧ (∀ a l : List Int, intDs_u8 (a ++ l) = intDs_u8 a ++ intDs_u8 l) ∧ (∀ l : List Int, (intDs_u8 l).length = l.length) ∧ (∀ (l : List Int) (a b : Nat), ((intDs_u8 l).take b).drop a = intDs_u8 ((l.take b).drop a)) ∧ (∀ (l : List Int) (k : Nat) (x : Int), intDs_u8 (l.set k x) = (intDs_u8 l).set k ((D.int .u8) x)) ∧ (∀ (k : Nat) (x : Int), intDs_u8 (List.replicate k x) = List.replicate k ((D.int .u8) x)) := ⟨intDs_u8_nil, intDs_u8_cons, intDs_u8_append, intDs_u8_len, intDs_u8_cut, intDs_u8_set, intDs_u8_rep⟩
theorem intDs_u8_lit (x : Int) : LitOk 1 ((D.int .u8) x) := ⟨rfl, rfl⟩
theorem intDs_u8_agg (l : List Int) : ∀ q ∈ intDs_u8 l, q.isAgg = false := fun q h => by obtain ⟨x, _, rfl⟩ := List.mem_map.1 h; rfl
theorem intDs_u8_getD (l : List Int) (n : Nat) (o : Int) : (intDs_u8 l).getD n (.int .u8 o) = .int .u8 (l.getD n o) := by simp [intDs_u8, List.getD_eq_getElem?_getD, List.getElem?_map]
def intDs_u16 (l : List Int) : List D := l.map (D.int .u16)
theorem intDs_u16_map (l : List Int) : intDs_u16 l = l.map (D.int .u16) := rfl
theorem intDs_u16_nil : intDs_u16 [] = [] := rfl
theorem intDs_u16_cons (a : Int) (l : List Int) : intDs_u16 (a :: l) = (D.int .u16) a :: intDs_u16 l := by simp [intDs_u16_map]
theorem intDs_u16_append (a l : List Int) : intDs_u16 (a ++ l) = intDs_u16 a ++ intDs_u16 l := by simp [intDs_u16_map]
theorem intDs_u16_len (l : List Int) : (intDs_u16 l).length = l.length := by simp [intDs_u16_map]
theorem intDs_u16_get {l : List Int} {k : Nat} {x : Int} (h : l[k]? = some x) : (intDs_u16 l)[k]? = some ((D.int .u16) x) := by simp [intDs_u16_map, h]
theorem intDs_u16_cut (l : List Int) (a b : Nat) : ((intDs_u16 l).take b).drop a = intDs_u16 ((l.take b).drop a) := by simp [intDs_u16_map, List.map_take, List.map_drop]
theorem intDs_u16_set (l : List Int) (k : Nat) (x : Int) : intDs_u16 (l.set k x) = (intDs_u16 l).set k ((D.int .u16) x) := by simp [intDs_u16_map, List.map_set]
theorem intDs_u16_rep (k : Nat) (x : Int) : intDs_u16 (List.replicate k x) = List.replicate k ((D.int .u16) x) := by simp [intDs_u16_map]
theorem intDs_u16_fit (x : Int) {ti : TI} (h1 : ti.agg = false) (h2 : ti.sz = 1) : Fit ti ((D.int .u16) x) := ⟨h1.symm, h2.symm, by simp [D.cells, D.leaf]⟩
theorem intDs_u16_all : (intDs_u16 [] = []) ∧ (∀ (a : Int) (l : List Int), intDs_u16 (a :: l) = (D.int .u16) a :: intDs_u16 l) ∧ (∀ a l : List Int, intDs_u16 (a ++ l) = intDs_u16 a ++ intDs_u16 l) ∧ (∀ l : List Int, (intDs_u16 l).length = l.length) ∧ (∀ (l : List Int) (a b : Nat), ((intDs_u16 l).take b).drop a = intDs_u16 ((l.take b).drop a)) ∧ (∀ (l : List Int) (k : Nat) (x : Int), intDs_u16 (l.set k x) = (intDs_u16 l).set k ((D.int .u16) x)) ∧ (∀ (k : Nat) (x : Int), intDs_u16 (List.replicate k x) = List.replicate k ((D.int .u16) x)) := ⟨intDs_u16_nil, intDs_u16_cons, intDs_u16_append, intDs_u16_len, intDs_u16_cut, intDs_u16_set, intDs_u16_rep⟩
theorem intDs_u16_lit (x : Int) : LitOk 1 ((D.int .u16) x) := ⟨rfl, rfl⟩
theorem intDs_u16_agg (l : List Int) : ∀ q ∈ intDs_u16 l, q.isAgg = false := fun q h => by obtain ⟨x, _, rfl⟩ := List.mem_map.1 h; rfl
theorem intDs_u16_getD (l : List Int) (n : Nat) (o : Int) : (intDs_u16 l).getD n (.int .u16 o) = .int .u16 (l.getD n o) := by simp [intDs_u16, List.getD_eq_getElem?_getD, List.getElem?_map]
def intDs_u32 (l : List Int) : List D := l.map (D.int .u32)
theorem intDs_u32_map (l : List Int) : intDs_u32 l = l.map (D.int .u32) := rfl
theorem intDs_u32_nil : intDs_u32 [] = [] := rfl
theorem intDs_u32_cons (a : Int) (l : List Int) : intDs_u32 (a :: l) = (D.int .u32) a :: intDs_u32 l := by simp [intDs_u32_map]
theorem intDs_u32_append (a l : List Int) : intDs_u32 (a ++ l) = intDs_u32 a ++ intDs_u32 l := by simp [intDs_u32_map]
theorem intDs_u32_len (l : List Int) : (intDs_u32 l).length = l.length := by simp [intDs_u32_map]
theorem intDs_u32_get {l : List Int} {k : Nat} {x : Int} (h : l[k]? = some x) : (intDs_u32 l)[k]? = some ((D.int .u32) x) := by simp [intDs_u32_map, h]
theorem intDs_u32_cut (l : List Int) (a b : Nat) : ((intDs_u32 l).take b).drop a = intDs_u32 ((l.take b).drop a) := by simp [intDs_u32_map, List.map_take, List.map_drop]
theorem intDs_u32_set (l : List Int) (k : Nat) (x : Int) : intDs_u32 (l.set k x) = (intDs_u32 l).set k ((D.int .u32) x) := by simp [intDs_u32_map, List.map_set]
theorem intDs_u32_rep (k : Nat) (x : Int) : intDs_u32 (List.replicate k x) = List.replicate k ((D.int .u32) x) := by simp [intDs_u32_map]
theorem intDs_u32_fit (x : Int) {ti : TI} (h1 : ti.agg = false) (h2 : ti.sz = 1) : Fit ti ((D.int .u32) x) := ⟨h1.symm, h2.symm, by simp [D.cells, D.leaf]⟩
theorem intDs_u32_all : (intDs_u32 [] = []) ∧ (∀ (a : Int) (l : List Int), intDs_u32 (a :: l) = (D.int .u32) a :: intDs_u32 l) ∧ (∀ a l : List Int, intDs_u32 (a ++ l) = intDs_u32 a ++ intDs_u32 l) ∧ (∀ l : List Int, (intDs_u32 l).length = l.length) ∧ (∀ (l : List Int) (a b : Nat), ((intDs_u32 l).take b).drop a = intDs_u32 ((l.take b).drop a)) ∧ (∀ (l : List Int) (k : Nat) (x : Int), intDs_u32 (l.set k x) = (intDs_u32 l).set k ((D.int .u32) x)) ∧ (∀ (k : Nat) (x : Int), intDs_u32 (List.replicate k x) = List.replicate k ((D.int .u32) x)) := ⟨intDs_u32_nil, intDs_u32_cons, intDs_u32_append, intDs_u32_len, intDs_u32_cut, intDs_u32_set, intDs_u32_rep⟩
theorem intDs_u32_lit (x : Int) : LitOk 1 ((D.int .u32) x) := ⟨rfl, rfl⟩
theorem intDs_u32_agg (l : List Int) : ∀ q ∈ intDs_u32 l, q.isAgg = false := fun q h => by obtain ⟨x, _, rfl⟩ := List.mem_map.1 h; rfl
theorem intDs_u32_getD (l : List Int) (n : Nat) (o : Int) : (intDs_u32 l).getD n (.int .u32 o) = .int .u32 (l.getD n o) := by simp [intDs_u32, List.getD_eq_getElem?_getD, List.getElem?_map]
def intDs_u64 (l : List Int) : List D := l.map (D.int .u64)
theorem intDs_u64_map (l : List Int) : intDs_u64 l = l.map (D.int .u64) := rfl
theorem intDs_u64_nil : intDs_u64 [] = [] := rfl
theorem intDs_u64_cons (a : Int) (l : List Int) : intDs_u64 (a :: l) = (D.int .u64) a :: intDs_u64 l := by simp [intDs_u64_map]
theorem intDs_u64_append (a l : List Int) : intDs_u64 (a ++ l) = intDs_u64 a ++ intDs_u64 l := by simp [intDs_u64_map]
theorem intDs_u64_len (l : List Int) : (intDs_u64 l).length = l.length := by simp [intDs_u64_map]
theorem intDs_u64_get {l : List Int} {k : Nat} {x : Int} (h : l[k]? = some x) : (intDs_u64 l)[k]? = some ((D.int .u64) x) := by simp [intDs_u64_map, h]
theorem intDs_u64_cut (l : List Int) (a b : Nat) : ((intDs_u64 l).take b).drop a = intDs_u64 ((l.take b).drop a) := by simp [intDs_u64_map, List.map_take, List.map_drop]
theorem intDs_u64_set (l : List Int) (k : Nat) (x : Int) : intDs_u64 (l.set k x) = (intDs_u64 l).set k ((D.int .u64) x) := by simp [intDs_u64_map, List.map_set]
theorem intDs_u64_rep (k : Nat) (x : Int) : intDs_u64 (List.replicate k x) = List.replicate k ((D.int .u64) x) := by simp [intDs_u64_map]
theorem intDs_u64_fit (x : Int) {ti : TI} (h1 : ti.agg = false) (h2 : ti.sz = 1) : Fit ti ((D.int .u64) x) := ⟨h1.symm, h2.symm, by simp [D.cells, D.leaf]⟩
theorem intDs_u64_all : (intDs_u64 [] = []) ∧ (∀ (a : Int) (l : List Int), intDs_u64 (a :: l) = (D.int .u64) a :: intDs_u64 l) ∧ (∀ a l : List Int, intDs_u64 (a ++ l) = intDs_u64 a ++ intDs_u64 l) ∧ (∀ l : List Int, (intDs_u64 l).length = l.length) ∧ (∀ (l : List Int) (a b : Nat), ((intDs_u64 l).take b).drop a = intDs_u64 ((l.take b).drop a)) ∧ (∀ (l : List Int) (k : Nat) (x : Int), intDs_u64 (l.set k x) = (intDs_u64 l).set k ((D.int .u64) x)) ∧ (∀ (k : Nat) (x : Int), intDs_u64 (List.replicate k x) = List.replicate k ((D.int .u64) x)) := ⟨intDs_u64_nil, intDs_u64_cons, intDs_u64_append, intDs_u64_len, intDs_u64_cut, intDs_u64_set, intDs_u64_rep⟩
theorem intDs_u64_lit (x : Int) : LitOk 1 ((D.int .u64) x) := ⟨rfl, rfl⟩
theorem intDs_u64_agg (l : List Int) : ∀ q ∈ intDs_u64 l, q.isAgg = false := fun q h => by obtain ⟨x, _, rfl⟩ := List.mem_map.1 h; rfl
theorem intDs_u64_getD (l : List Int) (n : Nat) (o : Int) : (intDs_u64 l).getD n (.int .u64 o) = .int .u64 (l.getD n o) := by simp [intDs_u64, List.getD_eq_getElem?_getD, List.getElem?_map]
structure Ty where
  mk ::
  v : Bool
  name : ByteArray
  args : (List Ty)
instance : Inhabited Ty := ⟨(Ty.mk false ByteArray.empty [])⟩
mutual
def Ty.D0 : Ty → Fw.D
  | .mk yv yname yargs => .agg [.bool yv, .str yname, .slice 3 (Ty.Ds yargs)]
def Ty.Ds : List Ty → List Fw.D
  | [] => []
  | a :: l => Ty.D0 a :: Ty.Ds l
end
def Ty.D (x : Ty) : Fw.D := .agg [.bool x.v, .str x.name, .slice 3 (Ty.Ds x.args)]
theorem Ty.D0_eq (x : Ty) : x.D0 = x.D := by cases x; rfl
theorem Ty.Ds_map : ∀ l : List Ty, Ty.Ds l = l.map Ty.D
  | [] => rfl
  | a :: l => by simp [Ty.Ds, Ty.Ds_map l, Ty.D0_eq]
theorem Ty.Ds_nil : Ty.Ds [] = [] := rfl
theorem Ty.Ds_cons (a : Ty) (l : List Ty) : Ty.Ds (a :: l) = Ty.D a :: Ty.Ds l := by simp [Ty.Ds_map]
theorem Ty.Ds_append (a l : List Ty) : Ty.Ds (a ++ l) = Ty.Ds a ++ Ty.Ds l := by simp [Ty.Ds_map]
theorem Ty.Ds_len (l : List Ty) : (Ty.Ds l).length = l.length := by simp [Ty.Ds_map]
theorem Ty.Ds_get {l : List Ty} {k : Nat} {x : Ty} (h : l[k]? = some x) : (Ty.Ds l)[k]? = some (Ty.D x) := by simp [Ty.Ds_map, h]
theorem Ty.Ds_cut (l : List Ty) (a b : Nat) : ((Ty.Ds l).take b).drop a = Ty.Ds ((l.take b).drop a) := by simp [Ty.Ds_map, List.map_take, List.map_drop]
theorem Ty.Ds_set (l : List Ty) (k : Nat) (x : Ty) : Ty.Ds (l.set k x) = (Ty.Ds l).set k (Ty.D x) := by simp [Ty.Ds_map, List.map_set]
theorem Ty.Ds_rep (k : Nat) (x : Ty) : Ty.Ds (List.replicate k x) = List.replicate k (Ty.D x) := by simp [Ty.Ds_map]
theorem Ty.Ds_fit (x : Ty) {ti : TI} (h1 : ti.agg = true) (h2 : ti.sz = 3) : Fit ti (Ty.D x) := ⟨h1.symm, h2.symm, by simp [Ty.D, D.cells, D.leaf]⟩
theorem Ty.Ds_all : (Ty.Ds [] = []) ∧ (∀ (a : Ty) (l : List Ty), Ty.Ds (a :: l) = Ty.D a :: Ty.Ds l) ∧ (∀ a l : List Ty, Ty.Ds (a ++ l) = Ty.Ds a ++ Ty.Ds l) ∧ (∀ l : List Ty, (Ty.Ds l).length = l.length) ∧ (∀ (l : List Ty) (a b : Nat), ((Ty.Ds l).take b).drop a = Ty.Ds ((l.take b).drop a)) ∧ (∀ (l : List Ty) (k : Nat) (x : Ty), Ty.Ds (l.set k x) = (Ty.Ds l).set k (Ty.D x)) ∧ (∀ (k : Nat) (x : Ty), Ty.Ds (List.replicate k x) = List.replicate k (Ty.D x)) := ⟨Ty.Ds_nil, Ty.Ds_cons, Ty.Ds_append, Ty.Ds_len, Ty.Ds_cut, Ty.Ds_set, Ty.Ds_rep⟩
theorem Ty.Ds_lit (x : Ty) : LitOk 3 (Ty.D x) := ⟨rfl, rfl⟩
structure Tm where
  mk ::
  kind : Int
  name : ByteArray
  ty : Ty
  index : Int
  sub : (List Tm)
instance : Inhabited Tm := ⟨(Tm.mk 0 ByteArray.empty (Ty.mk false ByteArray.empty []) 0 [])⟩
mutual
def Tm.D0 : Tm → Fw.D
  | .mk ykind yname yty yindex ysub => .agg [.int .u8 ykind, .str yname, .bool yty.v, .str yty.name, .slice 3 (Ty.Ds yty.args), .int .i64 yindex, .slice 7 (Tm.Ds ysub)]
def Tm.Ds : List Tm → List Fw.D
  | [] => []
  | a :: l => Tm.D0 a :: Tm.Ds l
end
def Tm.D (x : Tm) : Fw.D := .agg [.int .u8 x.kind, .str x.name, .bool x.ty.v, .str x.ty.name, .slice 3 (Ty.Ds x.ty.args), .int .i64 x.index, .slice 7 (Tm.Ds x.sub)]
theorem Tm.D0_eq (x : Tm) : x.D0 = x.D := by cases x; rfl
theorem Tm.Ds_map : ∀ l : List Tm, Tm.Ds l = l.map Tm.D
  | [] => rfl
  | a :: l => by simp [Tm.Ds, Tm.Ds_map l, Tm.D0_eq]
theorem Tm.Ds_nil : Tm.Ds [] = [] := rfl
theorem Tm.Ds_cons (a : Tm) (l : List Tm) : Tm.Ds (a :: l) = Tm.D a :: Tm.Ds l := by simp [Tm.Ds_map]
theorem Tm.Ds_append (a l : List Tm) : Tm.Ds (a ++ l) = Tm.Ds a ++ Tm.Ds l := by simp [Tm.Ds_map]
theorem Tm.Ds_len (l : List Tm) : (Tm.Ds l).length = l.length := by simp [Tm.Ds_map]
theorem Tm.Ds_get {l : List Tm} {k : Nat} {x : Tm} (h : l[k]? = some x) : (Tm.Ds l)[k]? = some (Tm.D x) := by simp [Tm.Ds_map, h]
theorem Tm.Ds_cut (l : List Tm) (a b : Nat) : ((Tm.Ds l).take b).drop a = Tm.Ds ((l.take b).drop a) := by simp [Tm.Ds_map, List.map_take, List.map_drop]
theorem Tm.Ds_set (l : List Tm) (k : Nat) (x : Tm) : Tm.Ds (l.set k x) = (Tm.Ds l).set k (Tm.D x) := by simp [Tm.Ds_map, List.map_set]
theorem Tm.Ds_rep (k : Nat) (x : Tm) : Tm.Ds (List.replicate k x) = List.replicate k (Tm.D x) := by simp [Tm.Ds_map]
theorem Tm.Ds_fit (x : Tm) {ti : TI} (h1 : ti.agg = true) (h2 : ti.sz = 7) : Fit ti (Tm.D x) := ⟨h1.symm, h2.symm, by simp [Tm.D, D.cells, D.leaf]⟩
theorem Tm.Ds_all : (Tm.Ds [] = []) ∧ (∀ (a : Tm) (l : List Tm), Tm.Ds (a :: l) = Tm.D a :: Tm.Ds l) ∧ (∀ a l : List Tm, Tm.Ds (a ++ l) = Tm.Ds a ++ Tm.Ds l) ∧ (∀ l : List Tm, (Tm.Ds l).length = l.length) ∧ (∀ (l : List Tm) (a b : Nat), ((Tm.Ds l).take b).drop a = Tm.Ds ((l.take b).drop a)) ∧ (∀ (l : List Tm) (k : Nat) (x : Tm), Tm.Ds (l.set k x) = (Tm.Ds l).set k (Tm.D x)) ∧ (∀ (k : Nat) (x : Tm), Tm.Ds (List.replicate k x) = List.replicate k (Tm.D x)) := ⟨Tm.Ds_nil, Tm.Ds_cons, Tm.Ds_append, Tm.Ds_len, Tm.Ds_cut, Tm.Ds_set, Tm.Ds_rep⟩
theorem Tm.Ds_lit (x : Tm) : LitOk 7 (Tm.D x) := ⟨rfl, rfl⟩
structure ATypeNode where
  mk ::
  var : Bool
  name : ByteArray
  args : (List Int)
  deriving Inhabited
def ATypeNode.D (x : ATypeNode) : Fw.D := .agg [.bool x.var, .str x.name, .slice 1 (intDs_i64 x.args)]
def ATypeNode.Ds (l : List ATypeNode) : List Fw.D := l.map ATypeNode.D
theorem ATypeNode.Ds_map (l : List ATypeNode) : ATypeNode.Ds l = l.map ATypeNode.D := rfl
theorem ATypeNode.Ds_nil : ATypeNode.Ds [] = [] := rfl
theorem ATypeNode.Ds_cons (a : ATypeNode) (l : List ATypeNode) : ATypeNode.Ds (a :: l) = ATypeNode.D a :: ATypeNode.Ds l := by simp [ATypeNode.Ds_map]
theorem ATypeNode.Ds_append (a l : List ATypeNode) : ATypeNode.Ds (a ++ l) = ATypeNode.Ds a ++ ATypeNode.Ds l := by simp [ATypeNode.Ds_map]
theorem ATypeNode.Ds_len (l : List ATypeNode) : (ATypeNode.Ds l).length = l.length := by simp [ATypeNode.Ds_map]
theorem ATypeNode.Ds_get {l : List ATypeNode} {k : Nat} {x : ATypeNode} (h : l[k]? = some x) : (ATypeNode.Ds l)[k]? = some (ATypeNode.D x) := by simp [ATypeNode.Ds_map, h]
theorem ATypeNode.Ds_cut (l : List ATypeNode) (a b : Nat) : ((ATypeNode.Ds l).take b).drop a = ATypeNode.Ds ((l.take b).drop a) := by simp [ATypeNode.Ds_map, List.map_take, List.map_drop]
theorem ATypeNode.Ds_set (l : List ATypeNode) (k : Nat) (x : ATypeNode) : ATypeNode.Ds (l.set k x) = (ATypeNode.Ds l).set k (ATypeNode.D x) := by simp [ATypeNode.Ds_map, List.map_set]
theorem ATypeNode.Ds_rep (k : Nat) (x : ATypeNode) : ATypeNode.Ds (List.replicate k x) = List.replicate k (ATypeNode.D x) := by simp [ATypeNode.Ds_map]
theorem ATypeNode.Ds_fit (x : ATypeNode) {ti : TI} (h1 : ti.agg = true) (h2 : ti.sz = 3) : Fit ti (ATypeNode.D x) := ⟨h1.symm, h2.symm, by simp [ATypeNode.D, D.cells, D.leaf]⟩
theorem ATypeNode.Ds_all : (ATypeNode.Ds [] = []) ∧ (∀ (a : ATypeNode) (l : List ATypeNode), ATypeNode.Ds (a :: l) = ATypeNode.D a :: ATypeNode.Ds l) ∧ (∀ a l : List ATypeNode, ATypeNode.Ds (a ++ l) = ATypeNode.Ds a ++ ATypeNode.Ds l) ∧ (∀ l : List ATypeNode, (ATypeNode.Ds l).length = l.length) ∧ (∀ (l : List ATypeNode) (a b : Nat), ((ATypeNode.Ds l).take b).drop a = ATypeNode.Ds ((l.take b).drop a)) ∧ (∀ (l : List ATypeNode) (k : Nat) (x : ATypeNode), ATypeNode.Ds (l.set k x) = (ATypeNode.Ds l).set k (ATypeNode.D x)) ∧ (∀ (k : Nat) (x : ATypeNode), ATypeNode.Ds (List.replicate k x) = List.replicate k (ATypeNode.D x)) := ⟨ATypeNode.Ds_nil, ATypeNode.Ds_cons, ATypeNode.Ds_append, ATypeNode.Ds_len, ATypeNode.Ds_cut, ATypeNode.Ds_set, ATypeNode.Ds_rep⟩
theorem ATypeNode.Ds_lit (x : ATypeNode) : LitOk 3 (ATypeNode.D x) := ⟨rfl, rfl⟩
structure ATermNode where
  mk ::
  kind : Int
  name : ByteArray
  type_ : Int
  index : Int
  sub : (List Int)
  deriving Inhabited
def ATermNode.D (x : ATermNode) : Fw.D := .agg [.int .u8 x.kind, .str x.name, .int .i64 x.type_, .int .i64 x.index, .slice 1 (intDs_i64 x.sub)]
def ATermNode.Ds (l : List ATermNode) : List Fw.D := l.map ATermNode.D
theorem ATermNode.Ds_map (l : List ATermNode) : ATermNode.Ds l = l.map ATermNode.D := rfl
theorem ATermNode.Ds_nil : ATermNode.Ds [] = [] := rfl
theorem ATermNode.Ds_cons (a : ATermNode) (l : List ATermNode) : ATermNode.Ds (a :: l) = ATermNode.D a :: ATermNode.Ds l := by simp [ATermNode.Ds_map]
theorem ATermNode.Ds_append (a l : List ATermNode) : ATermNode.Ds (a ++ l) = ATermNode.Ds a ++ ATermNode.Ds l := by simp [ATermNode.Ds_map]
theorem ATermNode.Ds_len (l : List ATermNode) : (ATermNode.Ds l).length = l.length := by simp [ATermNode.Ds_map]
theorem ATermNode.Ds_get {l : List ATermNode} {k : Nat} {x : ATermNode} (h : l[k]? = some x) : (ATermNode.Ds l)[k]? = some (ATermNode.D x) := by simp [ATermNode.Ds_map, h]
theorem ATermNode.Ds_cut (l : List ATermNode) (a b : Nat) : ((ATermNode.Ds l).take b).drop a = ATermNode.Ds ((l.take b).drop a) := by simp [ATermNode.Ds_map, List.map_take, List.map_drop]
theorem ATermNode.Ds_set (l : List ATermNode) (k : Nat) (x : ATermNode) : ATermNode.Ds (l.set k x) = (ATermNode.Ds l).set k (ATermNode.D x) := by simp [ATermNode.Ds_map, List.map_set]
theorem ATermNode.Ds_rep (k : Nat) (x : ATermNode) : ATermNode.Ds (List.replicate k x) = List.replicate k (ATermNode.D x) := by simp [ATermNode.Ds_map]
theorem ATermNode.Ds_fit (x : ATermNode) {ti : TI} (h1 : ti.agg = true) (h2 : ti.sz = 5) : Fit ti (ATermNode.D x) := ⟨h1.symm, h2.symm, by simp [ATermNode.D, D.cells, D.leaf]⟩
theorem ATermNode.Ds_all : (ATermNode.Ds [] = []) ∧ (∀ (a : ATermNode) (l : List ATermNode), ATermNode.Ds (a :: l) = ATermNode.D a :: ATermNode.Ds l) ∧ (∀ a l : List ATermNode, ATermNode.Ds (a ++ l) = ATermNode.Ds a ++ ATermNode.Ds l) ∧ (∀ l : List ATermNode, (ATermNode.Ds l).length = l.length) ∧ (∀ (l : List ATermNode) (a b : Nat), ((ATermNode.Ds l).take b).drop a = ATermNode.Ds ((l.take b).drop a)) ∧ (∀ (l : List ATermNode) (k : Nat) (x : ATermNode), ATermNode.Ds (l.set k x) = (ATermNode.Ds l).set k (ATermNode.D x)) ∧ (∀ (k : Nat) (x : ATermNode), ATermNode.Ds (List.replicate k x) = List.replicate k (ATermNode.D x)) := ⟨ATermNode.Ds_nil, ATermNode.Ds_cons, ATermNode.Ds_append, ATermNode.Ds_len, ATermNode.Ds_cut, ATermNode.Ds_set, ATermNode.Ds_rep⟩
theorem ATermNode.Ds_lit (x : ATermNode) : LitOk 5 (ATermNode.D x) := ⟨rfl, rfl⟩
structure AStore where
  mk ::
  types : (List ATypeNode)
  terms : (List ATermNode)
  deriving Inhabited
def AStore.D (x : AStore) : Fw.D := .agg [.slice 3 (ATypeNode.Ds x.types), .slice 5 (ATermNode.Ds x.terms)]
def AStore.Ds (l : List AStore) : List Fw.D := l.map AStore.D
theorem AStore.Ds_map (l : List AStore) : AStore.Ds l = l.map AStore.D := rfl
theorem AStore.Ds_nil : AStore.Ds [] = [] := rfl
theorem AStore.Ds_cons (a : AStore) (l : List AStore) : AStore.Ds (a :: l) = AStore.D a :: AStore.Ds l := by simp [AStore.Ds_map]
theorem AStore.Ds_append (a l : List AStore) : AStore.Ds (a ++ l) = AStore.Ds a ++ AStore.Ds l := by simp [AStore.Ds_map]
theorem AStore.Ds_len (l : List AStore) : (AStore.Ds l).length = l.length := by simp [AStore.Ds_map]
theorem AStore.Ds_get {l : List AStore} {k : Nat} {x : AStore} (h : l[k]? = some x) : (AStore.Ds l)[k]? = some (AStore.D x) := by simp [AStore.Ds_map, h]
theorem AStore.Ds_cut (l : List AStore) (a b : Nat) : ((AStore.Ds l).take b).drop a = AStore.Ds ((l.take b).drop a) := by simp [AStore.Ds_map, List.map_take, List.map_drop]
theorem AStore.Ds_set (l : List AStore) (k : Nat) (x : AStore) : AStore.Ds (l.set k x) = (AStore.Ds l).set k (AStore.D x) := by simp [AStore.Ds_map, List.map_set]
theorem AStore.Ds_rep (k : Nat) (x : AStore) : AStore.Ds (List.replicate k x) = List.replicate k (AStore.D x) := by simp [AStore.Ds_map]
theorem AStore.Ds_fit (x : AStore) {ti : TI} (h1 : ti.agg = true) (h2 : ti.sz = 2) : Fit ti (AStore.D x) := ⟨h1.symm, h2.symm, by simp [AStore.D, D.cells, D.leaf]⟩
theorem AStore.Ds_all : (AStore.Ds [] = []) ∧ (∀ (a : AStore) (l : List AStore), AStore.Ds (a :: l) = AStore.D a :: AStore.Ds l) ∧ (∀ a l : List AStore, AStore.Ds (a ++ l) = AStore.Ds a ++ AStore.Ds l) ∧ (∀ l : List AStore, (AStore.Ds l).length = l.length) ∧ (∀ (l : List AStore) (a b : Nat), ((AStore.Ds l).take b).drop a = AStore.Ds ((l.take b).drop a)) ∧ (∀ (l : List AStore) (k : Nat) (x : AStore), AStore.Ds (l.set k x) = (AStore.Ds l).set k (AStore.D x)) ∧ (∀ (k : Nat) (x : AStore), AStore.Ds (List.replicate k x) = List.replicate k (AStore.D x)) := ⟨AStore.Ds_nil, AStore.Ds_cons, AStore.Ds_append, AStore.Ds_len, AStore.Ds_cut, AStore.Ds_set, AStore.Ds_rep⟩
theorem AStore.Ds_lit (x : AStore) : LitOk 2 (AStore.D x) := ⟨rfl, rfl⟩
structure Arr8_i64 where
  mk ::
  e0 : Int
  e1 : Int
  e2 : Int
  e3 : Int
  e4 : Int
  e5 : Int
  e6 : Int
  e7 : Int
  deriving Inhabited, DecidableEq
def Arr8_i64.D (x : Arr8_i64) : Fw.D := .agg [.int .i64 x.e0, .int .i64 x.e1, .int .i64 x.e2, .int .i64 x.e3, .int .i64 x.e4, .int .i64 x.e5, .int .i64 x.e6, .int .i64 x.e7]
def Arr8_i64.Ds (l : List Arr8_i64) : List Fw.D := l.map Arr8_i64.D
theorem Arr8_i64.Ds_map (l : List Arr8_i64) : Arr8_i64.Ds l = l.map Arr8_i64.D := rfl
theorem Arr8_i64.Ds_nil : Arr8_i64.Ds [] = [] := rfl
theorem Arr8_i64.Ds_cons (a : Arr8_i64) (l : List Arr8_i64) : Arr8_i64.Ds (a :: l) = Arr8_i64.D a :: Arr8_i64.Ds l := by simp [Arr8_i64.Ds_map]
theorem Arr8_i64.Ds_append (a l : List Arr8_i64) : Arr8_i64.Ds (a ++ l) = Arr8_i64.Ds a ++ Arr8_i64.Ds l := by simp [Arr8_i64.Ds_map]
theorem Arr8_i64.Ds_len (l : List Arr8_i64) : (Arr8_i64.Ds l).length = l.length := by simp [Arr8_i64.Ds_map]
theorem Arr8_i64.Ds_get {l : List Arr8_i64} {k : Nat} {x : Arr8_i64} (h : l[k]? = some x) : (Arr8_i64.Ds l)[k]? = some (Arr8_i64.D x) := by simp [Arr8_i64.Ds_map, h]
theorem Arr8_i64.Ds_cut (l : List Arr8_i64) (a b : Nat) : ((Arr8_i64.Ds l).take b).drop a = Arr8_i64.Ds ((l.take b).drop a) := by simp [Arr8_i64.Ds_map, List.map_take, List.map_drop]
theorem Arr8_i64.Ds_set (l : List Arr8_i64) (k : Nat) (x : Arr8_i64) : Arr8_i64.Ds (l.set k x) = (Arr8_i64.Ds l).set k (Arr8_i64.D x) := by simp [Arr8_i64.Ds_map, List.map_set]
theorem Arr8_i64.Ds_rep (k : Nat) (x : Arr8_i64) : Arr8_i64.Ds (List.replicate k x) = List.replicate k (Arr8_i64.D x) := by simp [Arr8_i64.Ds_map]
theorem Arr8_i64.Ds_fit (x : Arr8_i64) {ti : TI} (h1 : ti.agg = true) (h2 : ti.sz = 8) : Fit ti (Arr8_i64.D x) := ⟨h1.symm, h2.symm, by simp [Arr8_i64.D, D.cells, D.leaf]⟩
theorem Arr8_i64.Ds_all : (Arr8_i64.Ds [] = []) ∧ (∀ (a : Arr8_i64) (l : List Arr8_i64), Arr8_i64.Ds (a :: l) = Arr8_i64.D a :: Arr8_i64.Ds l) ∧ (∀ a l : List Arr8_i64, Arr8_i64.Ds (a ++ l) = Arr8_i64.Ds a ++ Arr8_i64.Ds l) ∧ (∀ l : List Arr8_i64, (Arr8_i64.Ds l).length = l.length) ∧ (∀ (l : List Arr8_i64) (a b : Nat), ((Arr8_i64.Ds l).take b).drop a = Arr8_i64.Ds ((l.take b).drop a)) ∧ (∀ (l : List Arr8_i64) (k : Nat) (x : Arr8_i64), Arr8_i64.Ds (l.set k x) = (Arr8_i64.Ds l).set k (Arr8_i64.D x)) ∧ (∀ (k : Nat) (x : Arr8_i64), Arr8_i64.Ds (List.replicate k x) = List.replicate k (Arr8_i64.D x)) := ⟨Arr8_i64.Ds_nil, Arr8_i64.Ds_cons, Arr8_i64.Ds_append, Arr8_i64.Ds_len, Arr8_i64.Ds_cut, Arr8_i64.Ds_set, Arr8_i64.Ds_rep⟩
theorem Arr8_i64.Ds_lit (x : Arr8_i64) : LitOk 8 (Arr8_i64.D x) := ⟨rfl, rfl⟩
structure HashTypeKey where
  mk ::
  v : Bool
  name : ByteArray
  many : Int
  args : Arr8_i64
  deriving Inhabited, DecidableEq
def HashTypeKey.D (x : HashTypeKey) : Fw.D := .agg [.bool x.v, .str x.name, .int .i64 x.many, .int .i64 x.args.e0, .int .i64 x.args.e1, .int .i64 x.args.e2, .int .i64 x.args.e3, .int .i64 x.args.e4, .int .i64 x.args.e5, .int .i64 x.args.e6, .int .i64 x.args.e7]
def HashTypeKey.Ds (l : List HashTypeKey) : List Fw.D := l.map HashTypeKey.D
theorem HashTypeKey.Ds_map (l : List HashTypeKey) : HashTypeKey.Ds l = l.map HashTypeKey.D := rfl
theorem HashTypeKey.Ds_nil : HashTypeKey.Ds [] = [] := rfl
theorem HashTypeKey.Ds_cons (a : HashTypeKey) (l : List HashTypeKey) : HashTypeKey.Ds (a :: l) = HashTypeKey.D a :: HashTypeKey.Ds l := by simp [HashTypeKey.Ds_map]
theorem HashTypeKey.Ds_append (a l : List HashTypeKey) : HashTypeKey.Ds (a ++ l) = HashTypeKey.Ds a ++ HashTypeKey.Ds l := by simp [HashTypeKey.Ds_map]
theorem HashTypeKey.Ds_len (l : List HashTypeKey) : (HashTypeKey.Ds l).length = l.length := by simp [HashTypeKey.Ds_map]
theorem HashTypeKey.Ds_get {l : List HashTypeKey} {k : Nat} {x : HashTypeKey} (h : l[k]? = some x) : (HashTypeKey.Ds l)[k]? = some (HashTypeKey.D x) := by simp [HashTypeKey.Ds_map, h]
theorem HashTypeKey.Ds_cut (l : List HashTypeKey) (a b : Nat) : ((HashTypeKey.Ds l).take b).drop a = HashTypeKey.Ds ((l.take b).drop a) := by simp [HashTypeKey.Ds_map, List.map_take, List.map_drop]
theorem HashTypeKey.Ds_set (l : List HashTypeKey) (k : Nat) (x : HashTypeKey) : HashTypeKey.Ds (l.set k x) = (HashTypeKey.Ds l).set k (HashTypeKey.D x) := by simp [HashTypeKey.Ds_map, List.map_set]
theorem HashTypeKey.Ds_rep (k : Nat) (x : HashTypeKey) : HashTypeKey.Ds (List.replicate k x) = List.replicate k (HashTypeKey.D x) := by simp [HashTypeKey.Ds_map]
theorem HashTypeKey.Ds_fit (x : HashTypeKey) {ti : TI} (h1 : ti.agg = true) (h2 : ti.sz = 11) : Fit ti (HashTypeKey.D x) := ⟨h1.symm, h2.symm, by simp [HashTypeKey.D, D.cells, D.leaf]⟩
theorem HashTypeKey.Ds_all : (HashTypeKey.Ds [] = []) ∧ (∀ (a : HashTypeKey) (l : List HashTypeKey), HashTypeKey.Ds (a :: l) = HashTypeKey.D a :: HashTypeKey.Ds l) ∧ (∀ a l : List HashTypeKey, HashTypeKey.Ds (a ++ l) = HashTypeKey.Ds a ++ HashTypeKey.Ds l) ∧ (∀ l : List HashTypeKey, (HashTypeKey.Ds l).length = l.length) ∧ (∀ (l : List HashTypeKey) (a b : Nat), ((HashTypeKey.Ds l).take b).drop a = HashTypeKey.Ds ((l.take b).drop a)) ∧ (∀ (l : List HashTypeKey) (k : Nat) (x : HashTypeKey), HashTypeKey.Ds (l.set k x) = (HashTypeKey.Ds l).set k (HashTypeKey.D x)) ∧ (∀ (k : Nat) (x : HashTypeKey), HashTypeKey.Ds (List.replicate k x) = List.replicate k (HashTypeKey.D x)) := ⟨HashTypeKey.Ds_nil, HashTypeKey.Ds_cons, HashTypeKey.Ds_append, HashTypeKey.Ds_len, HashTypeKey.Ds_cut, HashTypeKey.Ds_set, HashTypeKey.Ds_rep⟩
theorem HashTypeKey.Ds_lit (x : HashTypeKey) : LitOk 11 (HashTypeKey.D x) := ⟨rfl, rfl⟩
structure HashTermKey where
  mk ::
  kind : Int
  name : ByteArray
  typ : Int
  index : Int
  many : Int
  a : Int
  b : Int
  deriving Inhabited, DecidableEq
def HashTermKey.D (x : HashTermKey) : Fw.D := .agg [.int .u8 x.kind, .str x.name, .int .i64 x.typ, .int .i64 x.index, .int .i64 x.many, .int .i64 x.a, .int .i64 x.b]
def HashTermKey.Ds (l : List HashTermKey) : List Fw.D := l.map HashTermKey.D
theorem HashTermKey.Ds_map (l : List HashTermKey) : HashTermKey.Ds l = l.map HashTermKey.D := rfl
theorem HashTermKey.Ds_nil : HashTermKey.Ds [] = [] := rfl
theorem HashTermKey.Ds_cons (a : HashTermKey) (l : List HashTermKey) : HashTermKey.Ds (a :: l) = HashTermKey.D a :: HashTermKey.Ds l := by simp [HashTermKey.Ds_map]
theorem HashTermKey.Ds_append (a l : List HashTermKey) : HashTermKey.Ds (a ++ l) = HashTermKey.Ds a ++ HashTermKey.Ds l := by simp [HashTermKey.Ds_map]
theorem HashTermKey.Ds_len (l : List HashTermKey) : (HashTermKey.Ds l).length = l.length := by simp [HashTermKey.Ds_map]
theorem HashTermKey.Ds_get {l : List HashTermKey} {k : Nat} {x : HashTermKey} (h : l[k]? = some x) : (HashTermKey.Ds l)[k]? = some (HashTermKey.D x) := by simp [HashTermKey.Ds_map, h]
theorem HashTermKey.Ds_cut (l : List HashTermKey) (a b : Nat) : ((HashTermKey.Ds l).take b).drop a = HashTermKey.Ds ((l.take b).drop a) := by simp [HashTermKey.Ds_map, List.map_take, List.map_drop]
theorem HashTermKey.Ds_set (l : List HashTermKey) (k : Nat) (x : HashTermKey) : HashTermKey.Ds (l.set k x) = (HashTermKey.Ds l).set k (HashTermKey.D x) := by simp [HashTermKey.Ds_map, List.map_set]
theorem HashTermKey.Ds_rep (k : Nat) (x : HashTermKey) : HashTermKey.Ds (List.replicate k x) = List.replicate k (HashTermKey.D x) := by simp [HashTermKey.Ds_map]
theorem HashTermKey.Ds_fit (x : HashTermKey) {ti : TI} (h1 : ti.agg = true) (h2 : ti.sz = 7) : Fit ti (HashTermKey.D x) := ⟨h1.symm, h2.symm, by simp [HashTermKey.D, D.cells, D.leaf]⟩
theorem HashTermKey.Ds_all : (HashTermKey.Ds [] = []) ∧ (∀ (a : HashTermKey) (l : List HashTermKey), HashTermKey.Ds (a :: l) = HashTermKey.D a :: HashTermKey.Ds l) ∧ (∀ a l : List HashTermKey, HashTermKey.Ds (a ++ l) = HashTermKey.Ds a ++ HashTermKey.Ds l) ∧ (∀ l : List HashTermKey, (HashTermKey.Ds l).length = l.length) ∧ (∀ (l : List HashTermKey) (a b : Nat), ((HashTermKey.Ds l).take b).drop a = HashTermKey.Ds ((l.take b).drop a)) ∧ (∀ (l : List HashTermKey) (k : Nat) (x : HashTermKey), HashTermKey.Ds (l.set k x) = (HashTermKey.Ds l).set k (HashTermKey.D x)) ∧ (∀ (k : Nat) (x : HashTermKey), HashTermKey.Ds (List.replicate k x) = List.replicate k (HashTermKey.D x)) := ⟨HashTermKey.Ds_nil, HashTermKey.Ds_cons, HashTermKey.Ds_append, HashTermKey.Ds_len, HashTermKey.Ds_cut, HashTermKey.Ds_set, HashTermKey.Ds_rep⟩
theorem HashTermKey.Ds_lit (x : HashTermKey) : LitOk 7 (HashTermKey.D x) := ⟨rfl, rfl⟩
end Go.Proofs.Ytpgecpmonaldiaa.Fw
