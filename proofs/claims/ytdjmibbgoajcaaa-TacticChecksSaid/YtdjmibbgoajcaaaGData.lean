/- Data. -/
import Derived.Test.YtdjmibbgoajcaaaFwY
set_option autoImplicit false
set_option linter.unusedVariables false
set_option linter.unusedSimpArgs false
namespace Go.Proofs.Ytdjmibbgoajcaaa.Fw
open Go Go.Proofs
def intDs_i64 (l : List Int) : List D := l.map (D.int .i64)
theorem intDs_i64_map (l : List Int) : intDs_i64 l = l.map (D.int .i64) := rfl
theorem intDs_i64_nil : intDs_i64 [] = [] := rfl
theorem intDs_i64_cons (a : Int) (l : List Int) : intDs_i64 (a :: l) = (D.int .i64) a :: intDs_i64 l := by simp [intDs_i64_map]
theorem intDs_i64_append (a l : List Int) : intDs_i64 (a ++ l) = intDs_i64 a ++ intDs_i64 l := by simp [intDs_i64_map]
theorem intDs_i64_len (l : List Int) : (intDs_i64 l).length = l.length := by simp [intDs_i64_map]
theorem intDs_i64_get {l : List Int} {k : Nat} {x : Int} (h : l[k]? = some x) : (intDs_i64 l)[k]? = some ((D.int .i64) x) := by simp [intDs_i64_map, h]
theorem intDs_i64_cut (l : List Int) (a b : Nat) : ((intDs_i64 l).take b).drop a = intDs_i64 ((l.take b).drop a) := by simp [intDs_i64_map, List.map_take, List.map_drop]
theorem intDs_i64_set (l : List Int) (k : Nat) (x : Int) : intDs_i64 (l.set k x) = (intDs_i64 l).set k ((D.int .i64) x) := by simp [intDs_i64_map, List.map_set]
theorem intDs_i64_rep (k : Nat) (x : Int) : intDs_i64 (List.replicate k x) = List.replicate k ((D.int .i64) x) := by simp [intDs_i64_map]
theorem intDs_i64_fit (x : Int) {ti : TI} (h1 : ti.agg = false) (h2 : ti.sz = 1) : Fit ti ((D.int .i64) x) := ⟨h1.symm, h2.symm, by simp [D.cells, D.leaf]⟩
theorem intDs_i64_all : (intDs_i64 [] = []) ∧ (∀ (a : Int) (l : List Int), intDs_i64 (a :: l) = (D.int .i64) a :: intDs_i64 l) ∧ (∀ a l : List Int, intDs_i64 (a ++ l) = intDs_i64 a ++ intDs_i64 l) ∧ (∀ l : List Int, (intDs_i64 l).length = l.length) ∧ (∀ (l : List Int) (a b : Nat), ((intDs_i64 l).take b).drop a = intDs_i64 ((l.take b).drop a)) ∧ (∀ (l : List Int) (k : Nat) (x : Int), intDs_i64 (l.set k x) = (intDs_i64 l).set k ((D.int .i64) x)) ∧ (∀ (k : Nat) (x : Int), intDs_i64 (List.replicate k x) = List.replicate k ((D.int .i64) x)) := ⟨intDs_i64_nil, intDs_i64_cons, intDs_i64_append, intDs_i64_len, intDs_i64_cut, intDs_i64_set, intDs_i64_rep⟩
def intDs_u8 (l : List Int) : List D := l.map (D.int .u8)
theorem intDs_u8_map (l : List Int) : intDs_u8 l = l.map (D.int .u8) := rfl
theorem intDs_u8_nil : intDs_u8 [] = [] := rfl
theorem intDs_u8_cons (a : Int) (l : List Int) : intDs_u8 (a :: l) = (D.int .u8) a :: intDs_u8 l := by simp [intDs_u8_map]
theorem intDs_u8_append (a l : List Int) : intDs_u8 (a ++ l) = intDs_u8 a ++ intDs_u8 l := by simp [intDs_u8_map]
theorem intDs_u8_len (l : List Int) : (intDs_u8 l).length = l.length := by simp [intDs_u8_map]
theorem intDs_u8_get {l : List Int} {k : Nat} {x : Int} (h : l[k]? = some x) : (intDs_u8 l)[k]? = some ((D.int .u8) x) := by simp [intDs_u8_map, h]
theorem intDs_u8_cut (l : List Int) (a b : Nat) : ((intDs_u8 l).take b).drop a = intDs_u8 ((l.take b).drop a) := by simp [intDs_u8_map, List.map_take, List.map_drop]
theorem intDs_u8_set (l : List Int) (k : Nat) (x : Int) : intDs_u8 (l.set k x) = (intDs_u8 l).set k ((D.int .u8) x) := by simp [intDs_u8_map, List.map_set]
theorem intDs_u8_rep (k : Nat) (x : Int) : intDs_u8 (List.replicate k x) = List.replicate k ((D.int .u8) x) := by simp [intDs_u8_map]
theorem intDs_u8_fit (x : Int) {ti : TI} (h1 : ti.agg = false) (h2 : ti.sz = 1) : Fit ti ((D.int .u8) x) := ⟨h1.symm, h2.symm, by simp [D.cells, D.leaf]⟩
theorem intDs_u8_all : (intDs_u8 [] = []) ∧ (∀ (a : Int) (l : List Int), intDs_u8 (a :: l) = (D.int .u8) a :: intDs_u8 l) ∧ (∀ a l : List Int, intDs_u8 (a ++ l) = intDs_u8 a ++ intDs_u8 l) ∧ (∀ l : List Int, (intDs_u8 l).length = l.length) ∧ (∀ (l : List Int) (a b : Nat), ((intDs_u8 l).take b).drop a = intDs_u8 ((l.take b).drop a)) ∧ (∀ (l : List Int) (k : Nat) (x : Int), intDs_u8 (l.set k x) = (intDs_u8 l).set k ((D.int .u8) x)) ∧ (∀ (k : Nat) (x : Int), intDs_u8 (List.replicate k x) = List.replicate k ((D.int .u8) x)) := ⟨intDs_u8_nil, intDs_u8_cons, intDs_u8_append, intDs_u8_len, intDs_u8_cut, intDs_u8_set, intDs_u8_rep⟩
structure Ty where
  mk ::
  v : Bool
  name : ByteArray
  args : (List Ty)
instance : Inhabited Ty := ⟨(Ty.mk false ByteArray.empty [])⟩
mutual
def Ty.D0 : Ty → Fw.D
  | .mk yv yname yargs => .agg [.bool yv, .str yname, .slice 3 (Ty.Ds yargs)]
def Ty.Ds : List Ty → List Fw.D
  | [] => []
  | a :: l => Ty.D0 a :: Ty.Ds l
end
def Ty.D (x : Ty) : Fw.D := .agg [.bool x.v, .str x.name, .slice 3 (Ty.Ds x.args)]
theorem Ty.D0_eq (x : Ty) : x.D0 = x.D := by cases x; rfl
theorem Ty.Ds_map : ∀ l : List Ty, Ty.Ds l = l.map Ty.D
  | [] => rfl
  | a :: l => by simp [Ty.Ds, Ty.Ds_map l, Ty.D0_eq]
theorem Ty.Ds_nil : Ty.Ds [] = [] := rfl
theorem Ty.Ds_cons (a : Ty) (l : List Ty) : Ty.Ds (a :: l) = Ty.D a :: Ty.Ds l := by simp [Ty.Ds_map]
theorem Ty.Ds_append (a l : List Ty) : Ty.Ds (a ++ l) = Ty.Ds a ++ Ty.Ds l := by simp [Ty.Ds_map]
theorem Ty.Ds_len (l : List Ty) : (Ty.Ds l).length = l.length := by simp [Ty.Ds_map]
theorem Ty.Ds_get {l : List Ty} {k : Nat} {x : Ty} (h : l[k]? = some x) : (Ty.Ds l)[k]? = some (Ty.D x) := by simp [Ty.Ds_map, h]
theorem Ty.Ds_cut (l : List Ty) (a b : Nat) : ((Ty.Ds l).take b).drop a = Ty.Ds ((l.take b).drop a) := by simp [Ty.Ds_map, List.map_take, List.map_drop]
theorem Ty.Ds_set (l : List Ty) (k : Nat) (x : Ty) : Ty.Ds (l.set k x) = (Ty.Ds l).set k (Ty.D x) := by simp [Ty.Ds_map, List.map_set]
theorem Ty.Ds_rep (k : Nat) (x : Ty) : Ty.Ds (List.replicate k x) = List.replicate k (Ty.D x) := by simp [Ty.Ds_map]
theorem Ty.Ds_fit (x : Ty) {ti : TI} (h1 : ti.agg = true) (h2 : ti.sz = 3) : Fit ti (Ty.D x) := ⟨h1.symm, h2.symm, by simp [Ty.D, D.cells, D.leaf]⟩
theorem Ty.Ds_all : (Ty.Ds [] = []) ∧ (∀ (a : Ty) (l : List Ty), Ty.Ds (a :: l) = Ty.D a :: Ty.Ds l) ∧ (∀ a l : List Ty, Ty.Ds (a ++ l) = Ty.Ds a ++ Ty.Ds l) ∧ (∀ l : List Ty, (Ty.Ds l).length = l.length) ∧ (∀ (l : List Ty) (a b : Nat), ((Ty.Ds l).take b).drop a = Ty.Ds ((l.take b).drop a)) ∧ (∀ (l : List Ty) (k : Nat) (x : Ty), Ty.Ds (l.set k x) = (Ty.Ds l).set k (Ty.D x)) ∧ (∀ (k : Nat) (x : Ty), Ty.Ds (List.replicate k x) = List.replicate k (Ty.D x)) := ⟨Ty.Ds_nil, Ty.Ds_cons, Ty.Ds_append, Ty.Ds_len, Ty.Ds_cut, Ty.Ds_set, Ty.Ds_rep⟩
structure Tm where
  mk ::
  kind : Int
  name : ByteArray
  ty : Ty
  index : Int
  sub : (List Tm)
instance : Inhabited Tm := ⟨(Tm.mk 0 ByteArray.empty (Ty.mk false ByteArray.empty []) 0 [])⟩
mutual
def Tm.D0 : Tm → Fw.D
  | .mk ykind yname yty yindex ysub => .agg [.int .u8 ykind, .str yname, .bool yty.v, .str yty.name, .slice 3 (Ty.Ds yty.args), .int .i64 yindex, .slice 7 (Tm.Ds ysub)]
def Tm.Ds : List Tm → List Fw.D
  | [] => []
  | a :: l => Tm.D0 a :: Tm.Ds l
end
def Tm.D (x : Tm) : Fw.D := .agg [.int .u8 x.kind, .str x.name, .bool x.ty.v, .str x.ty.name, .slice 3 (Ty.Ds x.ty.args), .int .i64 x.index, .slice 7 (Tm.Ds x.sub)]
theorem Tm.D0_eq (x : Tm) : x.D0 = x.D := by cases x; rfl
theorem Tm.Ds_map : ∀ l : List Tm, Tm.Ds l = l.map Tm.D
  | [] => rfl
  | a :: l => by simp [Tm.Ds, Tm.Ds_map l, Tm.D0_eq]
theorem Tm.Ds_nil : Tm.Ds [] = [] := rfl
theorem Tm.Ds_cons (a : Tm) (l : List Tm) : Tm.Ds (a :: l) = Tm.D a :: Tm.Ds l := by simp [Tm.Ds_map]
theorem Tm.Ds_append (a l : List Tm) : Tm.Ds (a ++ l) = Tm.Ds a ++ Tm.Ds l := by simp [Tm.Ds_map]
theorem Tm.Ds_len (l : List Tm) : (Tm.Ds l).length = l.length := by simp [Tm.Ds_map]
theorem Tm.Ds_get {l : List Tm} {k : Nat} {x : Tm} (h : l[k]? = some x) : (Tm.Ds l)[k]? = some (Tm.D x) := by simp [Tm.Ds_map, h]
theorem Tm.Ds_cut (l : List Tm) (a b : Nat) : ((Tm.Ds l).take b).drop a = Tm.Ds ((l.take b).drop a) := by simp [Tm.Ds_map, List.map_take, List.map_drop]
theorem Tm.Ds_set (l : List Tm) (k : Nat) (x : Tm) : Tm.Ds (l.set k x) = (Tm.Ds l).set k (Tm.D x) := by simp [Tm.Ds_map, List.map_set]
theorem Tm.Ds_rep (k : Nat) (x : Tm) : Tm.Ds (List.replicate k x) = List.replicate k (Tm.D x) := by simp [Tm.Ds_map]
theorem Tm.Ds_fit (x : Tm) {ti : TI} (h1 : ti.agg = true) (h2 : ti.sz = 7) : Fit ti (Tm.D x) := ⟨h1.symm, h2.symm, by simp [Tm.D, D.cells, D.leaf]⟩
theorem Tm.Ds_all : (Tm.Ds [] = []) ∧ (∀ (a : Tm) (l : List Tm), Tm.Ds (a :: l) = Tm.D a :: Tm.Ds l) ∧ (∀ a l : List Tm, Tm.Ds (a ++ l) = Tm.Ds a ++ Tm.Ds l) ∧ (∀ l : List Tm, (Tm.Ds l).length = l.length) ∧ (∀ (l : List Tm) (a b : Nat), ((Tm.Ds l).take b).drop a = Tm.Ds ((l.take b).drop a)) ∧ (∀ (l : List Tm) (k : Nat) (x : Tm), Tm.Ds (l.set k x) = (Tm.Ds l).set k (Tm.D x)) ∧ (∀ (k : Nat) (x : Tm), Tm.Ds (List.replicate k x) = List.replicate k (Tm.D x)) := ⟨Tm.Ds_nil, Tm.Ds_cons, Tm.Ds_append, Tm.Ds_len, Tm.Ds_cut, Tm.Ds_set, Tm.Ds_rep⟩
structure ATactic where
  mk ::
  kind : Int
  at_ : Int
  to_ : Int
  term : Tm
  kids : (List ATactic)
instance : Inhabited ATactic := ⟨(ATactic.mk 0 0 0 (Tm.mk 0 ByteArray.empty (Ty.mk false ByteArray.empty []) 0 []) [])⟩
mutual
def ATactic.D0 : ATactic → Fw.D
  | .mk ykind yat_ yto_ yterm ykids => .agg [.int .u8 ykind, .int .i64 yat_, .int .i64 yto_, .int .u8 yterm.kind, .str yterm.name, .bool yterm.ty.v, .str yterm.ty.name, .slice 3 (Ty.Ds yterm.ty.args), .int .i64 yterm.index, .slice 7 (Tm.Ds yterm.sub), .slice 11 (ATactic.Ds ykids)]
def ATactic.Ds : List ATactic → List Fw.D
  | [] => []
  | a :: l => ATactic.D0 a :: ATactic.Ds l
end
def ATactic.D (x : ATactic) : Fw.D := .agg [.int .u8 x.kind, .int .i64 x.at_, .int .i64 x.to_, .int .u8 x.term.kind, .str x.term.name, .bool x.term.ty.v, .str x.term.ty.name, .slice 3 (Ty.Ds x.term.ty.args), .int .i64 x.term.index, .slice 7 (Tm.Ds x.term.sub), .slice 11 (ATactic.Ds x.kids)]
theorem ATactic.D0_eq (x : ATactic) : x.D0 = x.D := by cases x; rfl
theorem ATactic.Ds_map : ∀ l : List ATactic, ATactic.Ds l = l.map ATactic.D
  | [] => rfl
  | a :: l => by simp [ATactic.Ds, ATactic.Ds_map l, ATactic.D0_eq]
theorem ATactic.Ds_nil : ATactic.Ds [] = [] := rfl
theorem ATactic.Ds_cons (a : ATactic) (l : List ATactic) : ATactic.Ds (a :: l) = ATactic.D a :: ATactic.Ds l := by simp [ATactic.Ds_map]
theorem ATactic.Ds_append (a l : List ATactic) : ATactic.Ds (a ++ l) = ATactic.Ds a ++ ATactic.Ds l := by simp [ATactic.Ds_map]
theorem ATactic.Ds_len (l : List ATactic) : (ATactic.Ds l).length = l.length := by simp [ATactic.Ds_map]
theorem ATactic.Ds_get {l : List ATactic} {k : Nat} {x : ATactic} (h : l[k]? = some x) : (ATactic.Ds l)[k]? = some (ATactic.D x) := by simp [ATactic.Ds_map, h]
theorem ATactic.Ds_cut (l : List ATactic) (a b : Nat) : ((ATactic.Ds l).take b).drop a = ATactic.Ds ((l.take b).drop a) := by simp [ATactic.Ds_map, List.map_take, List.map_drop]
theorem ATactic.Ds_set (l : List ATactic) (k : Nat) (x : ATactic) : ATactic.Ds (l.set k x) = (ATactic.Ds l).set k (ATactic.D x) := by simp [ATactic.Ds_map, List.map_set]
theorem ATactic.Ds_rep (k : Nat) (x : ATactic) : ATactic.Ds (List.replicate k x) = List.replicate k (ATactic.D x) := by simp [ATactic.Ds_map]
theorem ATactic.Ds_fit (x : ATactic) {ti : TI} (h1 : ti.agg = true) (h2 : ti.sz = 11) : Fit ti (ATactic.D x) := ⟨h1.symm, h2.symm, by simp [ATactic.D, D.cells, D.leaf]⟩
theorem ATactic.Ds_all : (ATactic.Ds [] = []) ∧ (∀ (a : ATactic) (l : List ATactic), ATactic.Ds (a :: l) = ATactic.D a :: ATactic.Ds l) ∧ (∀ a l : List ATactic, ATactic.Ds (a ++ l) = ATactic.Ds a ++ ATactic.Ds l) ∧ (∀ l : List ATactic, (ATactic.Ds l).length = l.length) ∧ (∀ (l : List ATactic) (a b : Nat), ((ATactic.Ds l).take b).drop a = ATactic.Ds ((l.take b).drop a)) ∧ (∀ (l : List ATactic) (k : Nat) (x : ATactic), ATactic.Ds (l.set k x) = (ATactic.Ds l).set k (ATactic.D x)) ∧ (∀ (k : Nat) (x : ATactic), ATactic.Ds (List.replicate k x) = List.replicate k (ATactic.D x)) := ⟨ATactic.Ds_nil, ATactic.Ds_cons, ATactic.Ds_append, ATactic.Ds_len, ATactic.Ds_cut, ATactic.Ds_set, ATactic.Ds_rep⟩
structure TacticForm where
  mk ::
  at_ : Bool
  to_ : Bool
  term : Bool
  least : Int
  most : Int
  deriving Inhabited, DecidableEq
def TacticForm.D (x : TacticForm) : Fw.D := .agg [.bool x.at_, .bool x.to_, .bool x.term, .int .i64 x.least, .int .i64 x.most]
end Go.Proofs.Ytdjmibbgoajcaaa.Fw

