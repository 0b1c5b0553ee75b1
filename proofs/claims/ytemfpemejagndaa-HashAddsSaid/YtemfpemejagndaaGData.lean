/- Data. -/
import Derived.Test.YtemfpemejagndaaFwZ
set_option autoImplicit false
set_option linter.unusedVariables false
set_option linter.unusedSimpArgs false
namespace Go.Proofs.Ytemfpemejagndaa.Fw
open Go Go.Proofs
def intDs_i64 (l : List Int) : List D := l.map (D.int .i64)
theorem intDs_i64_map (l : List Int) : intDs_i64 l = l.map (D.int .i64) := rfl
theorem intDs_i64_nil : intDs_i64 [] = [] := rfl
theorem intDs_i64_cons (a : Int) (l : List Int) : intDs_i64 (a :: l) = (D.int .i64) a :: intDs_i64 l := by simp [intDs_i64_map]
theorem intDs_i64_append (a l : List Int) : intDs_i64 (a ++ l) = intDs_i64 a ++ intDs_i64 l := by simp [intDs_i64_map]
theorem intDs_i64_len (l : List Int) : (intDs_i64 l).length = l.length := by simp [intDs_i64_map]
theorem intDs_i64_get {l : List Int} {k : Nat} {x : Int} (h : l[k]? = some x) : (intDs_i64 l)[k]? = some ((D.int .i64) x) := by simp [intDs_i64_map, h]
theorem intDs_i64_cut (l : List Int) (a b : Nat) : ((intDs_i64 l).take b).drop a = intDs_i64 ((l.take b).drop a) := by simp [intDs_i64_map, List.map_take, List.map_drop]
theorem intDs_i64_set (l : List Int) (k : Nat) (x : Int) : intDs_i64 (l.set k x) = (intDs_i64 l).set k ((D.int .i64) x) := by simp [intDs_i64_map, List.map_set]
theorem intDs_i64_rep (k : Nat) (x : Int) : intDs_i64 (List.replicate k x) = List.replicate k ((D.int .i64) x) := by simp [intDs_i64_map]
theorem intDs_i64_fit (x : Int) {ti : TI} (h1 : ti.agg = false) (h2 : ti.sz = 1) : Fit ti ((D.int .i64) x) := ⟨h1.symm, h2.symm, by simp [D.cells, D.leaf]⟩
theorem intDs_i64_all : (intDs_i64 [] = []) ∧ (∀ (a : Int) (l : List Int), intDs_i64 (a :: l) = (D.int .i64) a :: intDs_i64 l) ∧ (∀ a l : List Int, intDs_i64 (a ++ l) = intDs_i64 a ++ intDs_i64 l) ∧ (∀ l : List Int, (intDs_i64 l).length = l.length) ∧ (∀ (l : List Int) (a b : Nat), ((intDs_i64 l).take b).drop a = intDs_i64 ((l.take b).drop a)) ∧ (∀ (l : List Int) (k : Nat) (x : Int), intDs_i64 (l.set k x) = (intDs_i64 l).set k ((D.int .i64) x)) ∧ (∀ (k : Nat) (x : Int), intDs_i64 (List.replicate k x) = List.replicate k ((D.int .i64) x)) := ⟨intDs_i64_nil, intDs_i64_cons, intDs_i64_append, intDs_i64_len, intDs_i64_cut, intDs_i64_set, intDs_i64_rep⟩
theorem intDs_i64_aged (l : List Int) : D.ageds (intDs_i64 l) = intDs_i64 l := by rw [D.ageds_eq, intDs_i64_map, List.map_map]; rfl
theorem intDs_i64_agg (l : List Int) : ∀ q ∈ intDs_i64 l, q.isAgg = false := fun q h => by obtain ⟨x, _, rfl⟩ := List.mem_map.1 h; rfl
theorem intDs_i64_getD (l : List Int) (n : Nat) (o : Int) : (intDs_i64 l).getD n (.int .i64 o) = .int .i64 (l.getD n o) := by simp [intDs_i64, List.getD_eq_getElem?_getD, List.getElem?_map]
structure YN where
 mk ::
 var : Bool
 name : ByteArray
 args : (List Int)
 deriving Inhabited
def YN.D (x : YN) : Fw.D := .agg [.bool x.var, .str x.name, .slice 1 (intDs_i64 x.args)]
def YN.Ds (l : List YN) : List Fw.D := l.map YN.D
theorem YN.Ds_map (l : List YN) : YN.Ds l = l.map YN.D := rfl
theorem YN.Ds_nil : YN.Ds [] = [] := rfl
theorem YN.Ds_cons (a : YN) (l : List YN) : YN.Ds (a :: l) = YN.D a :: YN.Ds l := by simp [YN.Ds_map]
theorem YN.Ds_append (a l : List YN) : YN.Ds (a ++ l) = YN.Ds a ++ YN.Ds l := by simp [YN.Ds_map]
theorem YN.Ds_len (l : List YN) : (YN.Ds l).length = l.length := by simp [YN.Ds_map]
theorem YN.Ds_get {l : List YN} {k : Nat} {x : YN} (h : l[k]? = some x) : (YN.Ds l)[k]? = some (YN.D x) := by simp [YN.Ds_map, h]
theorem YN.Ds_cut (l : List YN) (a b : Nat) : ((YN.Ds l).take b).drop a = YN.Ds ((l.take b).drop a) := by simp [YN.Ds_map, List.map_take, List.map_drop]
theorem YN.Ds_set (l : List YN) (k : Nat) (x : YN) : YN.Ds (l.set k x) = (YN.Ds l).set k (YN.D x) := by simp [YN.Ds_map, List.map_set]
theorem YN.Ds_rep (k : Nat) (x : YN) : YN.Ds (List.replicate k x) = List.replicate k (YN.D x) := by simp [YN.Ds_map]
theorem YN.Ds_fit (x : YN) {ti : TI} (h1 : ti.agg = true) (h2 : ti.sz = 3) : Fit ti (YN.D x) := ⟨h1.symm, h2.symm, by simp [YN.D, D.cells, D.leaf]⟩
theorem YN.Ds_all : (YN.Ds [] = []) ∧ (∀ (a : YN) (l : List YN), YN.Ds (a :: l) = YN.D a :: YN.Ds l) ∧ (∀ a l : List YN, YN.Ds (a ++ l) = YN.Ds a ++ YN.Ds l) ∧ (∀ l : List YN, (YN.Ds l).length = l.length) ∧ (∀ (l : List YN) (a b : Nat), ((YN.Ds l).take b).drop a = YN.Ds ((l.take b).drop a)) ∧ (∀ (l : List YN) (k : Nat) (x : YN), YN.Ds (l.set k x) = (YN.Ds l).set k (YN.D x)) ∧ (∀ (k : Nat) (x : YN), YN.Ds (List.replicate k x) = List.replicate k (YN.D x)) := ⟨YN.Ds_nil, YN.Ds_cons, YN.Ds_append, YN.Ds_len, YN.Ds_cut, YN.Ds_set, YN.Ds_rep⟩
structure XN where
 mk ::
 kind : Int
 name : ByteArray
 type_ : Int
 index : Int
 sub : (List Int)
 deriving Inhabited
def XN.D (x : XN) : Fw.D := .agg [.int .u8 x.kind, .str x.name, .int .i64 x.type_, .int .i64 x.index, .slice 1 (intDs_i64 x.sub)]
def XN.Ds (l : List XN) : List Fw.D := l.map XN.D
theorem XN.Ds_map (l : List XN) : XN.Ds l = l.map XN.D := rfl
theorem XN.Ds_nil : XN.Ds [] = [] := rfl
theorem XN.Ds_cons (a : XN) (l : List XN) : XN.Ds (a :: l) = XN.D a :: XN.Ds l := by simp [XN.Ds_map]
theorem XN.Ds_append (a l : List XN) : XN.Ds (a ++ l) = XN.Ds a ++ XN.Ds l := by simp [XN.Ds_map]
theorem XN.Ds_len (l : List XN) : (XN.Ds l).length = l.length := by simp [XN.Ds_map]
theorem XN.Ds_get {l : List XN} {k : Nat} {x : XN} (h : l[k]? = some x) : (XN.Ds l)[k]? = some (XN.D x) := by simp [XN.Ds_map, h]
theorem XN.Ds_cut (l : List XN) (a b : Nat) : ((XN.Ds l).take b).drop a = XN.Ds ((l.take b).drop a) := by simp [XN.Ds_map, List.map_take, List.map_drop]
theorem XN.Ds_set (l : List XN) (k : Nat) (x : XN) : XN.Ds (l.set k x) = (XN.Ds l).set k (XN.D x) := by simp [XN.Ds_map, List.map_set]
theorem XN.Ds_rep (k : Nat) (x : XN) : XN.Ds (List.replicate k x) = List.replicate k (XN.D x) := by simp [XN.Ds_map]
theorem XN.Ds_fit (x : XN) {ti : TI} (h1 : ti.agg = true) (h2 : ti.sz = 5) : Fit ti (XN.D x) := ⟨h1.symm, h2.symm, by simp [XN.D, D.cells, D.leaf]⟩
theorem XN.Ds_all : (XN.Ds [] = []) ∧ (∀ (a : XN) (l : List XN), XN.Ds (a :: l) = XN.D a :: XN.Ds l) ∧ (∀ a l : List XN, XN.Ds (a ++ l) = XN.Ds a ++ XN.Ds l) ∧ (∀ l : List XN, (XN.Ds l).length = l.length) ∧ (∀ (l : List XN) (a b : Nat), ((XN.Ds l).take b).drop a = XN.Ds ((l.take b).drop a)) ∧ (∀ (l : List XN) (k : Nat) (x : XN), XN.Ds (l.set k x) = (XN.Ds l).set k (XN.D x)) ∧ (∀ (k : Nat) (x : XN), XN.Ds (List.replicate k x) = List.replicate k (XN.D x)) := ⟨XN.Ds_nil, XN.Ds_cons, XN.Ds_append, XN.Ds_len, XN.Ds_cut, XN.Ds_set, XN.Ds_rep⟩
structure AStore where
 mk ::
 types : (List YN)
 terms : (List XN)
 deriving Inhabited
def AStore.D (x : AStore) : Fw.D := .agg [.slice 3 (YN.Ds x.types), .slice 5 (XN.Ds x.terms)]
theorem AStore.Ds_fit (x : AStore) {ti : TI} (h1 : ti.agg = true) (h2 : ti.sz = 2) : Fit ti (AStore.D x) := ⟨h1.symm, h2.symm, by simp [AStore.D, D.cells, D.leaf]⟩
structure Ty where
 mk ::
 v : Bool
 name : ByteArray
 args : (List Ty)
instance : Inhabited Ty := ⟨(Ty.mk false ByteArray.empty [])⟩
mutual
def Ty.D0 : Ty → Fw.D
 | .mk yv yname yargs => .agg [.bool yv, .str yname, .slice 3 (Ty.Ds yargs)]
def Ty.Ds : List Ty → List Fw.D
 | [] => []
 | a :: l => Ty.D0 a :: Ty.Ds l
end
def Ty.D (x : Ty) : Fw.D := .agg [.bool x.v, .str x.name, .slice 3 (Ty.Ds x.args)]
theorem Ty.D0_eq (x : Ty) : x.D0 = x.D := by cases x; rfl
theorem Ty.Ds_map : ∀ l : List Ty, Ty.Ds l = l.map Ty.D
 | [] => rfl
 | a :: l => by simp [Ty.Ds, Ty.Ds_map l, Ty.D0_eq]
theorem Ty.Ds_nil : Ty.Ds [] = [] := rfl
theorem Ty.Ds_cons (a : Ty) (l : List Ty) : Ty.Ds (a :: l) = Ty.D a :: Ty.Ds l := by simp [Ty.Ds_map]
theorem Ty.Ds_append (a l : List Ty) : Ty.Ds (a ++ l) = Ty.Ds a ++ Ty.Ds l := by simp [Ty.Ds_map]
theorem Ty.Ds_len (l : List Ty) : (Ty.Ds l).length = l.length := by simp [Ty.Ds_map]
theorem Ty.Ds_get {l : List Ty} {k : Nat} {x : Ty} (h : l[k]? = some x) : (Ty.Ds l)[k]? = some (Ty.D x) := by simp [Ty.Ds_map, h]
theorem Ty.Ds_cut (l : List Ty) (a b : Nat) : ((Ty.Ds l).take b).drop a = Ty.Ds ((l.take b).drop a) := by simp [Ty.Ds_map, List.map_take, List.map_drop]
theorem Ty.Ds_set (l : List Ty) (k : Nat) (x : Ty) : Ty.Ds (l.set k x) = (Ty.Ds l).set k (Ty.D x) := by simp [Ty.Ds_map, List.map_set]
theorem Ty.Ds_rep (k : Nat) (x : Ty) : Ty.Ds (List.replicate k x) = List.replicate k (Ty.D x) := by simp [Ty.Ds_map]
theorem Ty.Ds_fit (x : Ty) {ti : TI} (h1 : ti.agg = true) (h2 : ti.sz = 3) : Fit ti (Ty.D x) := ⟨h1.symm, h2.symm, by simp [Ty.D, D.cells, D.leaf]⟩
theorem Ty.Ds_all : (Ty.Ds [] = []) ∧ (∀ (a : Ty) (l : List Ty), Ty.Ds (a :: l) = Ty.D a :: Ty.Ds l) ∧ (∀ a l : List Ty, Ty.Ds (a ++ l) = Ty.Ds a ++ Ty.Ds l) ∧ (∀ l : List Ty, (Ty.Ds l).length = l.length) ∧ (∀ (l : List Ty) (a b : Nat), ((Ty.Ds l).take b).drop a = Ty.Ds ((l.take b).drop a)) ∧ (∀ (l : List Ty) (k : Nat) (x : Ty), Ty.Ds (l.set k x) = (Ty.Ds l).set k (Ty.D x)) ∧ (∀ (k : Nat) (x : Ty), Ty.Ds (List.replicate k x) = List.replicate k (Ty.D x)) := ⟨Ty.Ds_nil, Ty.Ds_cons, Ty.Ds_append, Ty.Ds_len, Ty.Ds_cut, Ty.Ds_set, Ty.Ds_rep⟩
structure Tm where
 mk ::
 kind : Int
 name : ByteArray
 ty : Ty
 index : Int
 sub : (List Tm)
instance : Inhabited Tm := ⟨(Tm.mk 0 ByteArray.empty (Ty.mk false ByteArray.empty []) 0 [])⟩
mutual
def Tm.D0 : Tm → Fw.D
 | .mk ykind yname yty yindex ysub => .agg [.int .u8 ykind, .str yname, .bool yty.v, .str yty.name, .slice 3 (Ty.Ds yty.args), .int .i64 yindex, .slice 7 (Tm.Ds ysub)]
def Tm.Ds : List Tm → List Fw.D
 | [] => []
 | a :: l => Tm.D0 a :: Tm.Ds l
end
def Tm.D (x : Tm) : Fw.D := .agg [.int .u8 x.kind, .str x.name, .bool x.ty.v, .str x.ty.name, .slice 3 (Ty.Ds x.ty.args), .int .i64 x.index, .slice 7 (Tm.Ds x.sub)]
theorem Tm.D0_eq (x : Tm) : x.D0 = x.D := by cases x; rfl
theorem Tm.Ds_map : ∀ l : List Tm, Tm.Ds l = l.map Tm.D
 | [] => rfl
 | a :: l => by simp [Tm.Ds, Tm.Ds_map l, Tm.D0_eq]
theorem Tm.Ds_nil : Tm.Ds [] = [] := rfl
theorem Tm.Ds_cons (a : Tm) (l : List Tm) : Tm.Ds (a :: l) = Tm.D a :: Tm.Ds l := by simp [Tm.Ds_map]
theorem Tm.Ds_append (a l : List Tm) : Tm.Ds (a ++ l) = Tm.Ds a ++ Tm.Ds l := by simp [Tm.Ds_map]
theorem Tm.Ds_len (l : List Tm) : (Tm.Ds l).length = l.length := by simp [Tm.Ds_map]
theorem Tm.Ds_get {l : List Tm} {k : Nat} {x : Tm} (h : l[k]? = some x) : (Tm.Ds l)[k]? = some (Tm.D x) := by simp [Tm.Ds_map, h]
theorem Tm.Ds_cut (l : List Tm) (a b : Nat) : ((Tm.Ds l).take b).drop a = Tm.Ds ((l.take b).drop a) := by simp [Tm.Ds_map, List.map_take, List.map_drop]
theorem Tm.Ds_set (l : List Tm) (k : Nat) (x : Tm) : Tm.Ds (l.set k x) = (Tm.Ds l).set k (Tm.D x) := by simp [Tm.Ds_map, List.map_set]
theorem Tm.Ds_rep (k : Nat) (x : Tm) : Tm.Ds (List.replicate k x) = List.replicate k (Tm.D x) := by simp [Tm.Ds_map]
theorem Tm.Ds_fit (x : Tm) {ti : TI} (h1 : ti.agg = true) (h2 : ti.sz = 7) : Fit ti (Tm.D x) := ⟨h1.symm, h2.symm, by simp [Tm.D, D.cells, D.leaf]⟩
theorem Tm.Ds_all : (Tm.Ds [] = []) ∧ (∀ (a : Tm) (l : List Tm), Tm.Ds (a :: l) = Tm.D a :: Tm.Ds l) ∧ (∀ a l : List Tm, Tm.Ds (a ++ l) = Tm.Ds a ++ Tm.Ds l) ∧ (∀ l : List Tm, (Tm.Ds l).length = l.length) ∧ (∀ (l : List Tm) (a b : Nat), ((Tm.Ds l).take b).drop a = Tm.Ds ((l.take b).drop a)) ∧ (∀ (l : List Tm) (k : Nat) (x : Tm), Tm.Ds (l.set k x) = (Tm.Ds l).set k (Tm.D x)) ∧ (∀ (k : Nat) (x : Tm), Tm.Ds (List.replicate k x) = List.replicate k (Tm.D x)) := ⟨Tm.Ds_nil, Tm.Ds_cons, Tm.Ds_append, Tm.Ds_len, Tm.Ds_cut, Tm.Ds_set, Tm.Ds_rep⟩
structure Arr8_i64 where
 mk ::
 e0 : Int
 e1 : Int
 e2 : Int
 e3 : Int
 e4 : Int
 e5 : Int
 e6 : Int
 e7 : Int
 deriving Inhabited, DecidableEq
def Arr8_i64.D (x : Arr8_i64) : Fw.D := .agg [.int .i64 x.e0, .int .i64 x.e1, .int .i64 x.e2, .int .i64 x.e3, .int .i64 x.e4, .int .i64 x.e5, .int .i64 x.e6, .int .i64 x.e7]
structure HTK where
 mk ::
 v : Bool
 name : ByteArray
 many : Int
 args : Arr8_i64
 deriving Inhabited, DecidableEq
def HTK.D (x : HTK) : Fw.D := .agg [.bool x.v, .str x.name, .int .i64 x.many, .int .i64 x.args.e0, .int .i64 x.args.e1, .int .i64 x.args.e2, .int .i64 x.args.e3, .int .i64 x.args.e4, .int .i64 x.args.e5, .int .i64 x.args.e6, .int .i64 x.args.e7]
structure HMK where
 mk ::
 kind : Int
 name : ByteArray
 typ : Int
 index : Int
 many : Int
 a : Int
 b : Int
 deriving Inhabited, DecidableEq
def HMK.D (x : HMK) : Fw.D := .agg [.int .u8 x.kind, .str x.name, .int .i64 x.typ, .int .i64 x.index, .int .i64 x.many, .int .i64 x.a, .int .i64 x.b]
def intDs_i64s_D (x : (List Int)) : Fw.D := .slice 1 (intDs_i64 x)
def intDs_i64s (l : List (List Int)) : List D := l.map intDs_i64s_D
theorem intDs_i64s_map (l : List (List Int)) : intDs_i64s l = l.map intDs_i64s_D := rfl
theorem intDs_i64s_nil : intDs_i64s [] = [] := rfl
theorem intDs_i64s_cons (a : (List Int)) (l : List (List Int)) : intDs_i64s (a :: l) = intDs_i64s_D a :: intDs_i64s l := by simp [intDs_i64s_map]
theorem intDs_i64s_append (a l : List (List Int)) : intDs_i64s (a ++ l) = intDs_i64s a ++ intDs_i64s l := by simp [intDs_i64s_map]
theorem intDs_i64s_len (l : List (List Int)) : (intDs_i64s l).length = l.length := by simp [intDs_i64s_map]
theorem intDs_i64s_get {l : List (List Int)} {k : Nat} {x : (List Int)} (h : l[k]? = some x) : (intDs_i64s l)[k]? = some (intDs_i64s_D x) := by simp [intDs_i64s_map, h]
theorem intDs_i64s_cut (l : List (List Int)) (a b : Nat) : ((intDs_i64s l).take b).drop a = intDs_i64s ((l.take b).drop a) := by simp [intDs_i64s_map, List.map_take, List.map_drop]
theorem intDs_i64s_set (l : List (List Int)) (k : Nat) (x : (List Int)) : intDs_i64s (l.set k x) = (intDs_i64s l).set k (intDs_i64s_D x) := by simp [intDs_i64s_map, List.map_set]
theorem intDs_i64s_rep (k : Nat) (x : (List Int)) : intDs_i64s (List.replicate k x) = List.replicate k (intDs_i64s_D x) := by simp [intDs_i64s_map]
theorem intDs_i64s_fit (x : (List Int)) {ti : TI} (h1 : ti.agg = false) (h2 : ti.sz = 1) : Fit ti (intDs_i64s_D x) := ⟨h1.symm, h2.symm, by simp [intDs_i64s_D, D.cells, D.leaf]⟩
theorem intDs_i64s_all : (intDs_i64s [] = []) ∧ (∀ (a : (List Int)) (l : List (List Int)), intDs_i64s (a :: l) = intDs_i64s_D a :: intDs_i64s l) ∧ (∀ a l : List (List Int), intDs_i64s (a ++ l) = intDs_i64s a ++ intDs_i64s l) ∧ (∀ l : List (List Int), (intDs_i64s l).length = l.length) ∧ (∀ (l : List (List Int)) (a b : Nat), ((intDs_i64s l).take b).drop a = intDs_i64s ((l.take b).drop a)) ∧ (∀ (l : List (List Int)) (k : Nat) (x : (List Int)), intDs_i64s (l.set k x) = (intDs_i64s l).set k (intDs_i64s_D x)) ∧ (∀ (k : Nat) (x : (List Int)), intDs_i64s (List.replicate k x) = List.replicate k (intDs_i64s_D x)) := ⟨intDs_i64s_nil, intDs_i64s_cons, intDs_i64s_append, intDs_i64s_len, intDs_i64s_cut, intDs_i64s_set, intDs_i64s_rep⟩
end Go.Proofs.Ytemfpemejagndaa.Fw

