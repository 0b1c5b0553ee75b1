/- The abstract execution of the code, as a predicate that is reckoned by unfolding. -/
import Derived.Test.YtemfpemejagndaaFw1
set_option autoImplicit false
set_option linter.unusedVariables false
namespace Go.Proofs.Ytemfpemejagndaa.Fw
open Go Go.RowKit

/-! ### 1. What is known of a type -/
inductive TK where
 | other
 | int (k : IntKind)
 | bool
 | str
 | struct
 | slice (e : TypeId)
 | map (k e : TypeId)
 | ptr (e : TypeId)
 | iface (empty : Bool)
 | func
 | arr (n : Nat) (e : TypeId)
structure TI where
 sz : Nat
 agg : Bool
 bytes : Nat
 kind : TK
 zero : List AV
 fields : List (Nat × Nat × Bool)
 esz : Nat
 ebytes : Nat
 /-- what is appended to is not read before it is handed out -/
 fl : Bool := false
abbrev TT := List (TypeId × TI)
def TT.get (t : TypeId) : TT → Option TI
 | [] => none
 | (u, i) :: r => match Nat.beq t u with | true => some i | false => TT.get t r
/-! ### 2. Small steps on values; K takes what comes out -/
def lookup (t : Nat) : Env → AV
 | [] => .undef
 | (u, v) :: r => match Nat.beq t u with | true => v | false => lookup t r
def ofConst : Value → AV
 | .bool b => .d (.bool b)
 | .int k n => .d (.int k n)
 | .string s => .d (.str s)
 | .pointer none => .d .nilptr
 | .slice none 0 0 => .nil 0
 | .nilFunc => .d .nilfunc
 | .nilIface => .d .nilIface
 | .map none => .d .nilmap
 | _ => .undef
def ev (s : Env) : Operand → AV
 | .tmp t => lookup t s
 | .const v => ofConst v
 | .func f => .func (.func f) [] []
 | .global _ => .undef
/-- forces the head -/
def fz (v : AV) (K : AV → Prop) : Prop := match v with
 | .undef => K .undef
 | .d x => K (.d x)
 | .nil n => K (.nil n)
 | .full a b => K (.full a b)
 | .own a b c d => K (.own a b c d)
 | .arr a b c d e => K (.arr a b c d e)
 | .garr a b c d => K (.garr a b c d)
 | .ptr a b c => K (.ptr a b c)
 | .eptr a b c d => K (.eptr a b c d)
 | .win a b c d => K (.win a b c d)
 | .pel a b => K (.pel a b)
 | .vp a b => K (.vp a b)
 | .map a b => K (.map a b)
 | .func a b c => K (.func a b c)
 | .iface a b => K (.iface a b)
 | .agg a => K (.agg a)
 | .tuple a => K (.tuple a)
def putK (N : Nat) (s : Env) (dst : Option Tmp) (v : AV) (K : Env → Prop) : Prop := match dst with
 | none => K s
 | some t => match Nat.blt t N with
  | true => fz v fun v => K ((t, v) :: s)
  | false => False
def fixNil (ti : TI) : AV → AV
 | .nil 0 => .nil ti.esz
 | v => v
/-- a datum fills a variable of a type -/
def Fit (ti : TI) (x : D) : Prop := x.isAgg = ti.agg ∧ x.cells.length = ti.sz ∧ ∀ c ∈ x.cells, c.leaf = true
def partD (ti : TI) (cs : List D) (off : Nat) (K : AV → Prop) : Prop :=
 match ti.agg with
 | true => match Nat.ble (off + ti.sz) cs.length with | true => K (.d (.agg ((cs.drop off).take ti.sz))) | false => False
 | false => match cs[off]? with | some c => K (.d c) | none => False
def partA (ti : TI) (cs : List AV) (off : Nat) (K : AV → Prop) : Prop :=
 match ti.agg with
 | true => match Nat.ble (off + ti.sz) cs.length with | true => K (.agg ((cs.drop off).take ti.sz)) | false => False
 | false => match cs[off]? with | some c => K c | none => False
/- The recursions that hold what is to be done next are laid by List.rec itself, so that the elaborator's form of what is left is the kernel's. -/
def setK {α : Type} (l : List α) : Nat → α → (List α → Prop) → Prop :=
 List.rec (motive := fun _ => Nat → α → (List α → Prop) → Prop) (fun _ _ _ => False)
  (fun x l ih i b K => match i with | 0 => K (b :: l) | i + 1 => ih i b fun l' => K (x :: l')) l
/-- overwrites the cells from off on -/
def cellsK (l : List AV) : Nat → List AV → (List AV → Prop) → Prop :=
 List.rec (motive := fun _ => Nat → List AV → (List AV → Prop) → Prop) (fun _ vs K => match vs with | [] => K [] | _ :: _ => False)
  (fun x l ih i vs K => match vs with
   | [] => K (x :: l)
   | v :: vs => match i with
    | 0 => match v.leaf with | true => fz v fun v => ih 0 vs fun l' => K (v :: l') | false => False
    | i + 1 => ih i (v :: vs) fun l' => K (x :: l')) l
theorem cellsK_zero (x : AV) (l : List AV) (v : AV) (vs : List AV) (K : List AV → Prop) : cellsK (x :: l) 0 (v :: vs) K = match v.leaf with | true => fz v fun v => cellsK l 0 vs fun l' => K (v :: l') | false => False := rfl
theorem cellsK_succ (x : AV) (l : List AV) (i : Nat) (v : AV) (vs : List AV) (K : List AV → Prop) : cellsK (x :: l) (i + 1) (v :: vs) K = cellsK l i (v :: vs) fun l' => K (x :: l') := rfl
def blk (fr : Frs) (lvl i : Nat) : Option Blk := match fr[lvl]? with | some l => l[i]? | none => none
def setBlkK (fr : Frs) (lvl i : Nat) (b : Blk) (K : Frs → Prop) : Prop := match fr[lvl]? with
 | some l => setK l i b fun l' => setK fr lvl l' K
 | none => False
def newK (fr : Frs) (b : Blk) (K : Nat → Frs → Prop) : Prop := match fr with
 | l :: r => K l.length ((l ++ [b]) :: r)
 | [] => False
/-- a value as pure data (no reference into the heap that can be written) -/
def pure? : AV → Option D
 | .d x => some x
 | .nil sz => some (.slice sz [])
 | .full sz xs => some (.slice sz xs)
 | .own _ _ sz xs => some (.slice sz xs)
 | .agg cs => (go cs).map .agg
 | .tuple cs => (go cs).map .tuple
 | .func fn bs cs => match go bs, go cs with | some bs, some cs => some (.func fn bs cs) | _, _ => none
 | .iface t x => (pure? x).map (.iface t)
 | _ => none
 where go : List AV → Option (List D)
 | [] => some []
 | x :: r => match pure? x, go r with | some y, some ys => some (y :: ys) | _, _ => none
def arith (k : IntKind) (x : Int) (K : AV → Prop) : Prop := ∃ r, k.wrap x = r ∧ K (.d (.int k r))
/-- a comparison: the reckoning stops here -/
structure test (p : Prop) (K : AV → Prop) : Prop where mk ::
 out : (p → K (.d (.bool true))) ∧ (¬ p → K (.d (.bool false)))
theorem test.dec {p : Prop} [Decidable p] {K : AV → Prop} (h : K (.d (.bool (decide p)))) : test p K := ⟨fun hp => by rwa [decide_eq_true hp] at h, fun hp => by rwa [decide_eq_false hp] at h⟩
def memNat (n : Nat) : List Nat → Bool
 | [] => false
 | m :: r => match Nat.beq n m with | true => true | false => memNat n r
def aint (op : BinOp) (k : IntKind) (a b : Int) (K : AV → Prop) : Prop := match op with
 | .add => arith k (a + b) K
 | .sub => arith k (a - b) K
 | .mul => arith k (a * b) K
 | .quo => b ≠ 0 ∧ arith k (a.tdiv b) K
 | .rem => b ≠ 0 ∧ K (.d (.int k (a.tmod b)))
 | .and => K (.d (.int k (k.wrap (BitVec.ofInt k.bits a &&& BitVec.ofInt k.bits b).toNat)))
 | .or => K (.d (.int k (k.wrap (BitVec.ofInt k.bits a ||| BitVec.ofInt k.bits b).toNat)))
 | .eql => test (a = b) K
 | .neq => test (¬ a = b) K
 | .lss => test (a < b) K
 | .leq => test (a ≤ b) K
 | .gtr => test (b < a) K
 | .geq => test (b ≤ a) K
 | _ => False
/-- what '==' says of two values that are compared with nil, or of two bools -/
def aeq (kind : TK) (x y : AV) : Option Bool := match kind with
 | .bool => match x, y with
  | .d (.bool a), .d (.bool b) => some (a == b)
  | _, _ => none
 | .ptr _ => match x, y with
  | .d .nilptr, .d .nilptr => some true
  | .d .nilptr, .ptr _ _ _ => some false
  | .ptr _ _ _, .d .nilptr => some false
  | .d .nilptr, .d (.ptr _) => some false
  | .d (.ptr _), .d .nilptr => some false
  | _, _ => none
 | .iface _ => match x, y with
  | .d .nilIface, .d (.iface _ _) => some false
  | .d (.iface _ _), .d .nilIface => some false
  | .d .nilIface, .iface _ _ => some false
  | .iface _ _, .d .nilIface => some false
  | _, _ => none
 | _ => none
def abin (ti : TI) (op : BinOp) (x y : AV) (K : AV → Prop) : Prop :=
 match x, y with
 | .d (.int k a), .d (.int k' b) => match op with
  | .shl => 0 ≤ b ∧ arith k (a * 2 ^ (min b.toNat k.bits)) K
  | .shr => 0 ≤ b ∧ K (.d (.int k (a.fdiv (2 ^ (min b.toNat k.bits)))))
  | op => match decide (k = k') with
   | true => aint op k a b K
   | false => False
 | .d (.str a), .d (.str b) => match op with
  | .eql => test (a = b) K
  | .neq => test (¬ a = b) K
  | .lss => test (Op.bytesLess a.toList b.toList = true) K
  | .add => a.size + b.size < 1000000000000 ∧ K (.d (.str (a ++ b)))
  | _ => False
 | .d (.bool a), .d (.bool b) => match ti.kind, op with
  | .bool, .eql => test (a = b) K
  | .bool, .neq => test (¬ a = b) K
  | _, _ => False
 | x, y => match op with
  | .eql => match aeq ti.kind x y with | some b => K (.d (.bool b)) | none => False
  | .neq => match aeq ti.kind x y with | some b => K (.d (.bool !b)) | none => False
  | _ => False
def indexD (esz : Nat) (sz : Nat) (xs : List D) (i : AV) (K : AV → Prop) : Prop :=
 match i with
 | .d (.int _ n) => match Nat.beq sz esz with
  | true => ∃ (k : Nat) (x : D), n = k ∧ xs[k]? = some x ∧ K (.pel x 0)
  | false => False
 | _ => False
def aindex (ti : TI) (x i : AV) (K : AV → Prop) : Prop :=
 match ti.kind with
 | .slice _ => match x with
  | .d (.slice sz xs) => indexD ti.esz sz xs i K
  | .d (.os sz xs) => indexD ti.esz sz xs i K
  | .full sz xs => indexD ti.esz sz xs i K
  | .own _ _ sz xs => indexD ti.esz sz xs i K
  | .arr l j off len sz => match i with
   | .d (.int _ n) => match Nat.beq sz ti.esz with
    | true => ∃ k : Nat, n = k ∧ k < len ∧ K (.eptr l j (off + k) 0)
    | false => False
   | _ => False
  | _ => False
 | _ => False
def afield (ti : TI) (x : AV) (f : Nat) (K : AV → Prop) : Prop :=
 match ti.fields[f]? with
 | some (o, n, _) => match Nat.beq n 0 with
  | true => False
  | false => match x with
   | .ptr l i off => K (.ptr l i (off + o))
   | .eptr l i k off => K (.eptr l i k (off + o))
   | .d (.ptr x) => K (.pel x (o + 1))
   | .pel x 0 => K (.pel x (o + 1))
   | .pel x (off + 1) => K (.pel x (off + 1 + o))
   | _ => False
 | none => False
def upK (l : Nat) (v : AV) (K : AV → Prop) : Prop := match l with
 | 0 => K v
 | n + 1 => K (v.lift (n + 1))
def dnK (l : Nat) (v : AV) (K : AV → Prop) : Prop := match l with
 | 0 => K v
 | n + 1 => match v.low (n + 1) with | some v => K v | none => False
/-- 'pel x 0': the whole element; 'pel x (o + 1)': what lies at cell o of it. -/
def aload (ti : TI) (fr : Frs) (x : AV) (K : AV → Prop) : Prop :=
 match x with
 | .ptr l i off => match blk fr l i with
  | some (.cells cs) => partA ti cs off fun v => upK l v K
  | some (.frz x) => partD ti x.cells off K
  | _ => False
 | .eptr l i k off => match blk fr l i with
  | some (.arr _ xs) => ∃ x, xs[k]? = some x ∧ match off with
   | 0 => Fit ti x ∧ K (.d x)
   | off + 1 => partD ti x.cells (off + 1) K
  | _ => False
 | .pel x 0 => Fit ti x ∧ K (.d x)
 | .pel x (off + 1) => partD ti x.cells off K
 | .d (.ptr x) => Fit ti x ∧ K (.d x)
 | .vp _ x => Fit ti x ∧ K (.d x)
 | _ => False
def astore (ti : TI) (fr : Frs) (x v : AV) (K : Frs → Prop) : Prop :=
 match x with
 | .ptr l i off => match blk fr l i with
  | some (.cells cs) => dnK l (fixNil ti v) fun v => match Nat.beq v.cells.length ti.sz with
   | true => cellsK cs off v.cells fun cs' => setBlkK fr l i (.cells cs') K
   | false => False
  | _ => False
 | .eptr l i k off => match blk fr l i, pure? (fixNil ti v) with
  | some (.arr sz xs), some y => (off = 0 ∧ k < xs.length ∧ Fit ti y ∧ sz = ti.sz ∧ setBlkK fr l i (.arr sz (xs.set k y)) K) ∨
   (∃ cs, xs[k]? = some (.agg cs) ∧ y.leaf = true ∧ ti.sz = 1 ∧ off < cs.length ∧ setBlkK fr l i (.arr sz (xs.set k (.agg (cs.set off y)))) K)
  | _, _ => False
 | _ => False
/-- the elements of a slice that is read -/
def elems : AV → Option (Nat × List D)
 | .d (.slice sz xs) => some (sz, xs)
 | .nil sz => some (sz, [])
 | .full sz xs => some (sz, xs)
 | .own _ _ sz xs => some (sz, xs)
 | _ => none
/-- of whatever age -/
def elemsO (x : AV) : Option (Nat × List D) := match x with
 | .d (.os sz xs) => some (sz, xs)
 | x => elems x
def loOk (lo : Option AV) (l : Nat) : Prop := match lo with | none => l = 0 | some v => v = .d (.int .i64 l)
def hiOk (hi : Option AV) (h n : Nat) : Prop := match hi with | none => h = n | some v => v = .d (.int .i64 h)
def aslice (ti : TI) (x : AV) (lo hi mx : Option AV) (K : AV → Prop) : Prop := match ti.kind with
 | .str => match x with
  | .d (.str b) => ∃ l h : Nat, loOk lo l ∧ hiOk hi h b.size ∧ l ≤ h ∧ h ≤ b.size ∧ match mx with | none => K (.d (.str (b.extract l h))) | some _ => False
  | _ => False
 | .arr n _ => match x with
  | .ptr l i off => match lo, hi, mx with
   | none, none, none => K (.win l i off n)
   | _, _, _ => False
  | _ => False
 | .slice _ => match elems x with
  | some (sz, xs) => match Nat.beq sz ti.esz with
   | true => ∃ l h : Nat, loOk lo l ∧ hiOk hi h xs.length ∧ l ≤ h ∧ h ≤ xs.length ∧ match mx with
    | none => K (.d (.slice sz ((xs.take h).drop l)))
    | some m => m = .d (.int .i64 h) ∧ hi = some (.d (.int .i64 h)) ∧ K (.full sz ((xs.take h).drop l))
   | false => False
  | none => match x with
   | .d (.os sz xs) => match Nat.beq sz ti.esz with
    | true => ∃ l h : Nat, loOk lo l ∧ hiOk hi h xs.length ∧ l ≤ h ∧ h ≤ xs.length ∧ match mx with
     | none => K (.d (.os sz ((xs.take h).drop l)))
     | some m => m = .d (.int .i64 h) ∧ hi = some (.d (.int .i64 h)) ∧ (xs.take h).drop l = [] ∧ K (.full sz [])
    | false => False
   | _ => False
 | _ => False
/-- append, to what is not read before it is handed out -/
def aappendF (ti : TI) (fr : Frs) (x y : AV) (K : AV → Frs → Prop) : Prop :=
 match elemsO y with
 | some (sy, ys) => match fixNil ti x with
  | .nil sz => match Nat.beq sz ti.esz with
   | true => ys.length < 4294967296 ∧ sy = sz ∧ newK fr (.garr sz ys) fun i fr => K (.garr 0 i ys.length sz) fr
   | false => False
  | .full sz xs => match Nat.beq sz ti.esz with
   | true => xs = [] ∧ ys.length < 4294967296 ∧ sy = sz ∧ newK fr (.garr sz ys) fun i fr => K (.garr 0 i ys.length sz) fr
   | false => False
  | .garr l i n sz => match Nat.beq sz ti.esz, blk fr l i with
   | true, some (.garr sz' xs) => match Nat.beq sz' sz with
    | true => xs.length + ys.length < 4294967296 ∧ sy = sz ∧ n = xs.length ∧ setBlkK fr l i (.garr sz' (xs ++ ys)) fun fr => K (.garr l i (xs.length + ys.length) sz) fr
    | false => False
   | _, _ => False
  | _ => False
 | none => False
/-- append: what is owned grows; of what is full, or nil, a copy is made. -/
def aappend (ti : TI) (fr : Frs) (x y : AV) (K : AV → Frs → Prop) : Prop :=
 match ti.kind with
 | .slice _ => match ti.fl with
  | true => aappendF ti fr x y K
  | false => match elemsO y with
  | some (sy, ys) => match fixNil ti x with
   | .nil sz => match Nat.beq sz ti.esz with
    | true => ys.length < 4294967296 ∧ sy = sz ∧ ((ys = [] → K (.nil sz) fr) ∧ (ys ≠ [] → newK fr (.grow sz ys.length) fun i fr => K (.own 0 i sz ys) fr))
    | false => False
   | .full sz xs => match Nat.beq sz ti.esz with
    | true => xs.length + ys.length < 4294967296 ∧ sy = sz ∧ ((ys = [] → K (.full sz xs) fr) ∧ (ys ≠ [] → newK fr (.grow sz (xs.length + ys.length)) fun i fr => K (.own 0 i sz (xs ++ ys)) fr))
    | false => False
   | .own l i sz xs => match Nat.beq sz ti.esz, blk fr l i with
    | true, some (.grow sz' n) => match Nat.beq sz' sz with
     | true => xs.length + ys.length < 4294967296 ∧ sy = sz ∧ n = xs.length ∧ setBlkK fr l i (.grow sz' (xs.length + ys.length)) fun fr => K (.own l i sz (xs ++ ys)) fr
     | false => False
    | _, _ => False
   | _ => False
  | none => False
 | _ => False
def abuild (ti : TI) (ps : List (Nat × AV)) : List AV → (List AV → Prop) → Prop :=
 List.rec (motive := fun _ => List AV → (List AV → Prop) → Prop) (fun cs K => K cs)
  (fun p r ih cs K => match ti.fields[p.1]? with
  | some (o, n, _) => match Nat.beq p.2.cells.length n, Nat.beq n 0 with
   | true, false => cellsK cs o p.2.cells fun cs => ih cs K
   | _, _ => False
  | none => False) ps
theorem abuild_cons (ti : TI) (f : Nat) (v : AV) (r : List (Nat × AV)) (cs : List AV) (K : List AV → Prop) : abuild ti ((f, v) :: r) cs K = match ti.fields[f]? with
  | some (o, n, _) => match Nat.beq v.cells.length n, Nat.beq n 0 with
   | true, false => cellsK cs o v.cells fun cs => abuild ti r cs K
   | _, _ => False
  | none => False := rfl
/-- a literal: every element given, in order -/
def alit (vs : List AV) : List D → (List D → Prop) → Prop :=
 List.rec (motive := fun _ => List D → (List D → Prop) → Prop) (fun acc K => K acc)
  (fun x _ ih acc K => match pure? x with
  | some y => ih (acc ++ [y]) K
  | none => False) vs
theorem alit_nil (acc : List D) (K : List D → Prop) : alit [] acc K = K acc := rfl
theorem alit_cons (x : AV) (r : List AV) (acc : List D) (K : List D → Prop) : alit (x :: r) acc K = match pure? x with
  | some y => alit r (acc ++ [y]) K
  | none => False := rfl
def noTuple : D → Bool
 | .tuple _ => false
 | _ => true
/-- may be an element of a literal -/
def LitOk (esz : Nat) (y : D) : Prop := y.cells.length = esz ∧ noTuple y = true
def LitsOk (esz : Nat) (ys : List D) : Prop := List.rec (motive := fun _ => Prop) True (fun y _ ih => LitOk esz y ∧ ih) ys
theorem LitsOk.all {esz : Nat} : ∀ {ys : List D}, LitsOk esz ys → ∀ y ∈ ys, LitOk esz y
 | [], _, y, hy => by cases hy
 | a :: r, h, y, hy => by
  have h : LitOk esz a ∧ LitsOk esz r := h
  rcases List.mem_cons.1 hy with rfl | hy
  ·exact h.1
  ·exact LitsOk.all h.2 y hy
def zeroD (ti : TI) : Option D := match ti.agg with
 | true => match pure?.go ti.zero with | some cs => some (.agg cs) | none => none
 | false => match ti.zero with | [x] => pure? x | _ => none
/-- make: of no length, to be appended to; or all zeros, to be written. -/
def amake (ti tie : TI) (fr : Frs) (x y : AV) (K : AV → Frs → Prop) : Prop :=
 ∃ n m : Nat, x = .d (.int .i64 n) ∧ y = .d (.int .i64 m) ∧ n ≤ m ∧ m < 4294967296 ∧
  ((n = 0 ∧ newK fr (.grow ti.esz 0) fun i fr => K (.own 0 i ti.esz []) fr) ∨
   (n = m ∧ match zeroD tie with | some x0 => newK fr (.arr ti.esz (List.replicate n x0)) fun i fr => K (.arr 0 i 0 n ti.esz) fr | none => False) ∨
   (n = m ∧ match zeroD tie with | some x0 => ∃ ys : List D, ys = List.replicate n x0 ∧ K (.full ti.esz ys) fr | none => False))
def pures : List AV → Option (List D)
 | [] => some []
 | x :: r => match pure? x, pures r with | some y, some ys => some (y :: ys) | _, _ => none
end Go.Proofs.Ytemfpemejagndaa.Fw

