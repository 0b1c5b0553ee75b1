/- The abstract execution of code, and that it is sound. -/
import Derived.Test.YtemfpemejagndaaFwCm
set_option autoImplicit false
set_option linter.unusedVariables false
set_option linter.unusedSimpArgs false
namespace Go.Proofs.Ytemfpemejagndaa.Fw
open Go Go.RowKit Go.WideShapes

/-! ### 1. Calls -/
inductive Out where
 | ret (r : AV)
 | pan (v : AV)
def fnOk (P : Program) (f : FuncId) : Bool := match P.funcs[f]? with
 | some fn => fn.body.isSome && (fn.name != "runtime.NumGoroutine")
 | none => false
/-- a call, also of a function for which the model stands in -/
def CallsX (P : Program) (f : FuncId) (args : Array Value) (w : World) (R : Ending → World → Prop) : Prop :=
 (fnOk P f = true ∧ Calls P f args w R) ∨ ∃ v w', (callFunc f args).run P w = .ok (.value v) w' ∧ R (.returned v) w'
theorem CallsX.mono {P : Program} {f : FuncId} {args : Array Value} {w : World} {R R' : Ending → World → Prop} (h : CallsX P f args w R) (hR : ∀ e w, R e w → R' e w) : CallsX P f args w R' := by
 rcases h with ⟨h1, h2⟩ | ⟨v, w', h1, h2⟩
 ·exact .inl ⟨h1, h2.mono hR⟩
 ·exact .inr ⟨v, w', h1, hR _ _ h2⟩
/-- The call comes to an end that R tells, whatever the world looks like. ls: blocks that the call has made and hands out (level 0 of what it returns). -/
structure Said (P : Program) (f : FuncId) (args : List AV) (fr : Frs) (R : Out → List Blk → Frs → Prop) : Prop where mk ::
 out : ∀ (c : Ctx) (w : World) (vs : List Value), Ok c fr w → c.B ≤ w.heap.size → vs.length = args.length → (∀ j (h : j < args.length), VRel c (vs.getD j default) (args[j])) →
  CallsX P f vs.toArray w fun e w' => ∃ (o : Out) (ls : List Blk) (fr' : Frs) (c' : Ctx), R o ls fr' ∧ w.heap.size ≤ w'.heap.size ∧ c.le (c'.drop 1) ∧ Ok c' (ls :: fr') w' ∧
   match o with
   | .ret r => ∃ v, e = .returned v ∧ VRel c' v r
   | .pan r => ∃ v, e = .panicked [{ v, recovered := false }] ∧ VRel c' v r
def Blk.mg (n : Nat) : Blk → Blk
 | .cells cs => .cells (AV.mgs n cs)
 | b => b
/-- what a call hands out comes into the caller's frame -/
def mergeK (ls : List Blk) (fr : Frs) (r : AV) (K : AV → Frs → Prop) : Prop := match fr with
 | l :: rest => match ls with
  | [] => K (r.mg l.length) (l :: rest)
  | ls => K (r.mg l.length) ((l ++ ls.map (Blk.mg l.length)) :: rest)
 | [] => False
theorem undef_rel (c : Ctx) : VRel c undef (.tuple []) := .tuple [] [] rfl (fun j h => by simp at h)
/-- nil slices among arguments learn their kind -/
def fixArgs (T : TT) : List TypeId → List AV → List AV
 | t :: ts, x :: xs => (match T.get t with | some ti => fixNil ti x | none => x) :: fixArgs T ts xs
 | _, xs => xs
theorem fixArgs_len (T : TT) : ∀ (ts : List TypeId) (xs : List AV), (fixArgs T ts xs).length = xs.length
 | t :: ts, x :: xs => by simp [fixArgs, fixArgs_len T ts xs]
 | [], xs => by cases xs <;> rfl
 | _ :: _, [] => rfl
theorem fixArgs_rel {T : TT} {c : Ctx} : ∀ (ts : List TypeId) (xs : List AV) (vs : List Value), (∀ j (h : j < xs.length), VRel c (vs.getD j default) xs[j]) → ∀ j (h : j < (fixArgs T ts xs).length), VRel c (vs.getD j default) (fixArgs T ts xs)[j]
 | [], xs, vs, hr, j, h => by
  have e : fixArgs T [] xs = xs := by cases xs <;> rfl
  simp only [e] at h ⊢
  exact hr j h
 | _ :: _, [], vs, hr, j, h => by simp [fixArgs] at h
 | t :: ts, x :: xs, vs, hr, j, h => by
  cases j with
  | zero =>
   have := hr 0 (by simp)
   simp only [fixArgs, List.getElem_cons_zero] at this ⊢
   split
   ·exact fixNil_rel this
   ·exact this
  | succ j =>
   have := fixArgs_rel (T := T) ts xs vs.tail (fun i hi => by have := hr (i + 1) (by simpa using hi); simpa [List.getD_eq_getElem?_getD, List.getElem?_tail] using this) j (by simpa [fixArgs] using h)
   simpa [fixArgs, List.getD_eq_getElem?_getD, List.getElem?_tail] using this
/-- a function that may be called -/
def asFunc : AV → Option (FuncId × List AV × List AV)
 | .func (.func g) us cs => some (g, us, cs)
 | .d (.func (.func g) us cs) => some (g, us.map .d, cs.map .d)
 | _ => none
theorem asFunc_rel {c : Ctx} {v : Value} {x : AV} {g : FuncId} {us cs : List AV} (hv : VRel c v x) (h : asFunc x = some (g, us, cs)) :
  ∃ us' vs' : List Value, v = .func (.func g) us'.toArray vs'.toArray ∧ us'.length = us.length ∧ vs'.length = cs.length ∧ (∀ j (h : j < us.length), VRel c (us'.getD j default) us[j]) ∧ ∀ j (h : j < cs.length), VRel c (vs'.getD j default) cs[j] := by
 unfold asFunc at h
 split at h
 ·simp only [Option.some.injEq, Prod.mk.injEq] at h
  obtain ⟨rfl, rfl, rfl⟩ := h
  cases hv with | func _ us' vs' _ _ hm hn hq hr => exact ⟨us', vs', rfl, hm, hn, hq, hr⟩
 ·simp only [Option.some.injEq, Prod.mk.injEq] at h
  obtain ⟨rfl, rfl, rfl⟩ := h
  cases hv with | d _ _ hv =>
  cases hv with | func _ us' vs' _ _ hm hn hq hr =>
  refine ⟨us', vs', rfl, by simpa using hm, by simpa using hn, fun j hj => ?_, fun j hj => ?_⟩
  ·rw [List.getElem_map]; exact .d _ _ (hq j (by simpa using hj))
  ·rw [List.getElem_map]; exact .d _ _ (hr j (by simpa using hj))
 ·cases h
/-! ### 2. Operations -/
def withT (T : TT) (t : TypeId) (K : TI → Prop) : Prop := match T.get t with | some ti => K ti | none => False
def allLeaf : List AV → Bool
 | [] => true
 | x :: r => match x.leaf with | true => allLeaf r | false => false
/-- two ways; of a bool that is not known the reckoning stops here -/
def brK (b : Bool) (A B : Prop) : Prop := match b with | true => A | false => B
theorem brK.split {b : Bool} {A B : Prop} (h1 : b = true → A) (h2 : b = false → B) : brK b A B := by
 cases b with
 | false => exact h2 rfl
 | true => exact h1 rfl
theorem brK.nsplit {b : Bool} {A B : Prop} (h1 : b = true → B) (h2 : b = false → A) : brK (!b) A B := by
 cases b with
 | false => exact h2 rfl
 | true => exact h1 rfl
theorem brK.tt {b : Bool} {A B : Prop} (h : b = true) (hA : A) : brK b A B := by subst h; exact hA
theorem brK.ff {b : Bool} {A B : Prop} (h : b = false) (hB : B) : brK b A B := by subst h; exact hB
theorem brK.ntt {b : Bool} {A B : Prop} (h : b = true) (hB : B) : brK (!b) A B := by subst h; exact hB
theorem brK.nff {b : Bool} {A B : Prop} (h : b = false) (hA : A) : brK (!b) A B := by subst h; exact hA
def acall (T : TT) (P : Program) (cl : Call) (s : Env) (fr : Frs) (K : AV → Frs → Prop) (Qp : AV → Frs → Prop) : Prop :=
 match cl.callee with
 | .builtin .len => match cl.args.toList, cl.argTypes.toList with
  | [x], [t] => withT T t fun ti => alenM ti fr (ev s x) fun v => K v fr
  | _, _ => False
 | .builtin .append => match cl.args.toList, cl.argTypes.toList with
  | [x, y], [t, u] => match Nat.beq t u with
   | true => withT T t fun ti => aappend ti fr (ev s x) (fixNil ti (ev s y)) K
   | false => False
  | _, _ => False
 | .builtin .max => match cl.args.toList with
  | [x, y] => match ev s x, ev s y with
   | .d (.int k a), .d (.int _ b) => K (.d (.int k (max a b))) fr
   | _, _ => False
  | _ => False
 | .builtin .min => match cl.args.toList with
  | [x, y] => match ev s x, ev s y with
   | .d (.int k a), .d (.int _ b) => K (.d (.int k (min a b))) fr
   | _, _ => False
  | _ => False
 | .builtin .copy => match cl.args.toList, cl.argTypes.toList with
  | [x, y], [t, u] => withT T t fun ti => acopy ti fr (ev s x) (ev s y) K
  | _, _ => False
 | .value f => match asFunc (ev s f) with
  | some (g, us, cs) => Said P g (us ++ (fixArgs T cl.argTypes.toList (cl.args.toList.map (ev s)) ++ cs)) fr fun o ls fr' => match o with
   | .ret r => mergeK ls fr' r K
   | .pan v => match ls with | [] => mergeK [] fr' v Qp | _ => False
  | none => False
 | _ => False
def aop (T : TT) (P : Program) (o : Op) (ty : TypeId) (s : Env) (fr : Frs) (K : AV → Frs → Prop) (Qp : AV → Frs → Prop) : Prop :=
 match o with
 | .move x => K (ev s x) fr
 | .assign x => match T.get ty with
  | some ti => K (fixNil ti (ev s x)) fr
  | none => K (ev s x) fr
 | .pick c a b => match ev s c with
  | .d (.bool q) => brK q (K (ev s a) fr) (K (ev s b) fr)
  | _ => False
 | .alloc t => withT T t fun ti => newK fr (.cells ti.zero) fun i fr => K (.ptr 0 i 0) fr
 | .box t x => withT T t fun ti => match allLeaf (fixNil ti (ev s x)).cells with
  | true => newK fr (.cells (fixNil ti (ev s x)).cells) fun i fr => K (.ptr 0 i 0) fr
  | false => False
 | .fieldAddr t x f => withT T t fun ti => afield ti (ev s x) f fun v => K v fr
 | .field t x f => withT T t fun ti => afieldV ti (ev s x) f fun v => K v fr
 | .load t x => withT T t fun ti => aload ti fr (ev s x) fun v => K v fr
 | .store t x v => withT T t fun ti => astore ti fr (ev s x) (ev s v) fun fr => K .undef fr
 | .indexAddr t x i => withT T t fun ti => aindex ti (ev s x) (ev s i) fun v => K v fr
 | .index t x i => withT T t fun ti => aindexV ti (ev s x) (ev s i) fun v => K v fr
 | .binOp op t x y _ => withT T t fun ti => abinP ti op (ev s x) (ev s y) fun v => K v fr
 | .makeMap _ none => newK fr (.map []) fun i fr => K (.map 0 i) fr
 | .lookup t m k ok => withT T t fun ti => match ti.kind with
  | .map kt et => withT T et fun te => withT T kt fun _ => match pure? (ev s k) with
   | some kd => amapOf fr (ev s m) fun es => mlook P kt es kd (fun x => K (okv ok (.d x) true) fr) (K (okv ok (zeroV te) false) fr)
   | none => False
  | _ => False
 | .insert t m k x => withT T t fun ti => match ti.kind with
  | .map kt et => withT T et fun te => withT T kt fun _ => match ev s m with
   | .map l i => match blk fr l i, pure? (ev s k), pure? (fixNil te (ev s x)) with
    | some (.map es), some kd, some xd => mupd P kt es kd (setBlkK fr l i (.map (updD kd xd es)) fun fr => K .undef fr)
    | _, _, _ => False
   | _ => False
  | _ => False
 | .mapUpdate t m k x => withT T t fun ti => match ti.kind with
  | .map kt et => withT T et fun te => withT T kt fun _ => match ev s m with
   | .map l i => match blk fr l i, pure? (ev s k), pure? (fixNil te (ev s x)) with
    | some (.map es), some kd, some xd => mupd P kt es kd (setBlkK fr l i (.map (updD kd xd es)) fun fr => K .undef fr)
    | _, _, _ => False
   | _ => False
  | _ => False
 | .unOp .not _ x => match ev s x with
  | .d (.bool q) => K (.d (.bool (!q))) fr
  | _ => False
 | .unOp .neg _ x => match ev s x with
  | .d (.int k n) => arith k (0 - n) fun v => K v fr
  | _ => False
 | .convert t u x => withT T t fun ti => withT T u fun tu => aconv ti tu (ev s x) fun v => K v fr
 | .makeInterface t x => withT T t fun ti => aiface ti t (ev s x) fun v => K v fr
 | .makeFunc fn us cs => K (.func fn (us.toList.map (ev s)) (cs.toList.map (ev s))) fr
 | .makeSlice t x y => withT T t fun ti => match ti.kind with
  | .slice e => withT T e fun te => amake ti te fr (ev s x) (ev s y) K
  | _ => False
 | .slice t x lo hi mx => withT T t fun ti => aslice ti (ev s x) (lo.map (ev s)) (hi.map (ev s)) (mx.map (ev s)) fun v => K v fr
 | .build t parts => withT T t fun ti => abuildT ti (parts.toList.map (·.1)) (parts.toList.map fun p => ev s p.2) fun v => K v fr
 | .buildSlice t len parts => withT T t fun ti => match inOrder 0 parts.toList with
  | true => aslit ti fr len (parts.toList.map fun p => ev s p.2) K
  | false => False
 | .extract x k => aextract (ev s x) k fun v => K v fr
 | .nilCheck x => anilCheck (ev s x) fun v => K v fr
 | .call cl => acall T P cl s fr K Qp
 | _ => False
def awanted (ops : List Oper) (g : Option (Nat × Bool)) (s : Env) (A B : Prop) : Prop :=
 match g with
 | none => A
 | some (j, want) => match ops[j]? with
  | some o => match o.dst with
   | some t => match lookup t s with
    | .d (.bool q) => match want with | true => brK q A B | false => brK q B A
    | .tuple [] => B
    | _ => False
   | none => False
  | none => False
def aops (T : TT) (P : Program) (N : Nat) (all : List Oper) (l : List Oper) : Env → Frs → (Env → Frs → Prop) → (AV → Env → Frs → Prop) → Prop :=
 List.rec (motive := fun _ => Env → Frs → (Env → Frs → Prop) → (AV → Env → Frs → Prop) → Prop) (fun s fr K _ => K s fr)
  (fun o _ ih s fr K Qp => awanted all o.guard s
   (aop T P o.op o.type s fr (fun v fr => putK N s o.dst v fun s => ih s fr K Qp) fun v fr => Qp v s fr)
   (putK N s o.dst (.tuple []) fun s => ih s fr K Qp)) l
theorem aops_cons (T : TT) (P : Program) (N : Nat) (all : List Oper) (o : Oper) (rest : List Oper) (s : Env) (fr : Frs) (K : Env → Frs → Prop) (Qp : AV → Env → Frs → Prop) : aops T P N all (o :: rest) s fr K Qp = awanted all o.guard s
   (aop T P o.op o.type s fr (fun v fr => putK N s o.dst v fun s => aops T P N all rest s fr K Qp) fun v fr => Qp v s fr)
   (putK N s o.dst (.tuple []) fun s => aops T P N all rest s fr K Qp) := rfl
/-! ### 3. Code -/
inductive Ex where
 | normal
 | exit (id : Nat)
 | goto (l : Nat)
 | ret
 | pan (v : AV)
/-- what stays the same in a call: its deferred calls; how many blocks were lent to it (the first ones of its frame) -/
structure Fix where
 ds : List Deferred
 m : Nat
def Fx0 : Fix := ⟨[], 0⟩
/-- the state of a call: N temporaries, the deferred calls ds -/
structure St (N : Nat) (ds : Fix) (c : Ctx) (s : Env) (fr : Frs) (a : Act) (w : World) : Prop where
 ok : Ok c fr w
 B : c.B ≤ w.heap.size
 n : a.tmps.size = N
 ds : a.defers = ds.ds
 rel : ∀ t, VRel c (a.tmps.getD t undef) (lookup t s)
/-- what lies outside this frame lives on -/
def Ctx.out (c : Ctx) (m : Nat) (c' : Ctx) : Prop := (c.drop 1).le (c'.drop 1) ∧ ∀ i e, i < m → c.raw 0 i = some e → ∃ e', c'.raw 0 i = some e' ∧ e.le e'
theorem Ctx.out.refl (c : Ctx) (m : Nat) : c.out m c := ⟨Ctx.le.refl _, fun _ e _ h => ⟨e, h, Ent.le.refl e⟩⟩
theorem Ctx.out.trans {c c' c'' : Ctx} {m : Nat} (h : c.out m c') (k : c'.out m c'') : c.out m c'' :=
 ⟨Ctx.le.trans h.1 k.1, fun i e hi he => let ⟨e', h1, h2⟩ := h.2 i e hi he; let ⟨e'', k1, k2⟩ := k.2 i e' hi h1; ⟨e'', k1, h2.trans k2⟩⟩
theorem Ctx.le.out {c c' : Ctx} (h : c.le c') (m : Nat) : c.out m c' := ⟨h.drop 1, fun i e _ he => h.rent 0 i e he⟩
def exRel (c : Ctx) : Exit → Ex → Prop
 | .normal, .normal => True
 | .exit i, .exit j => i = j
 | .goto i, .goto j => i = j
 | .ret, .ret => True
 | .panic ch, .pan x => ∃ v, ch = [{ v, recovered := false }] ∧ VRel c v x
 | _, _ => False
def Qc (N : Nat) (ds : Fix) (c0 : Ctx) (Q : Ex → Env → Frs → Prop) : Exit → Act → World → Prop := fun e a w =>
 ∃ ex s fr c, exRel c e ex ∧ Q ex s fr ∧ c0.out ds.m c ∧ St N ds c s fr a w
/-- where the reckoning stops: a loop, or a statement whose order is open -/
structure Runs (P : Program) (N : Nat) (ds : Fix) (x : Code) (Q : Ex → Env → Frs → Prop) (s : Env) (fr : Frs) : Prop where mk ::
 out : ∀ c a w, St N ds c s fr a w → x.wp P (Qc N ds c Q) a w
def awp (T : TT) (P : Program) (N : Nat) (ds : Fix) (js : List Nat) (x : Code) : (Ex → Env → Frs → Prop) → Env → Frs → Prop :=
 Code.rec (motive := fun _ => (Ex → Env → Frs → Prop) → Env → Frs → Prop)
  (fun Q s fr => Q .normal s fr)
  (fun id ops draw Q s fr => match memNat id js with
   | true => Runs P N ds (.region id ops draw) Q s fr
   | false => match draw with
   | false => aops T P N ops.toList ops.toList s fr (Q .normal) fun v => Q (.pan v)
   | true => Runs P N ds (.region id ops true) Q s fr)
  (fun _ _ iha ihb Q s fr => iha (fun e s fr => match e with | .normal => ihb Q s fr | .exit i => Q (.exit i) s fr | .goto i => Q (.goto i) s fr | .ret => Q .ret s fr | .pan v => Q (.pan v) s fr) s fr)
  (fun c _ _ iha ihb Q s fr => match ev s c with
   | .d (.bool q) => brK q (iha Q s fr) (ihb Q s fr)
   | _ => False)
  (fun id _ ih Q s fr => ih (fun e s fr => match e with
   | .exit j => match Nat.beq j id with | true => Q .normal s fr | false => Q (.exit j) s fr
   | .normal => Q .normal s fr
   | .goto i => Q (.goto i) s fr | .ret => Q .ret s fr | .pan v => Q (.pan v) s fr) s fr)
  (fun x _ Q s fr => Runs P N ds (.loop x) Q s fr)
  (fun _ _ _ _ _ _ _ _ _ => False)
  (fun id Q s fr => Q (.exit id) s fr)
  (fun _ _ _ _ _ => False)
  (fun _ Q s fr => Q .normal s fr)
  (fun _ _ _ _ => False)
  (fun Q s fr => Q .ret s fr)
  (fun _ _ _ _ => False) x
/-! ### 4. Soundness of one operation -/
section
variable {T : TT} {P : Program} {N : Nat} {ds : Fix} {c : Ctx} {s : Env} {fr : Frs} {a : Act} {w : World}

theorem St.ev (h : St N ds c s fr a w) (x : Operand) : VRel c (a.eval x) (ev s x) := by
 cases x with
 | tmp t => exact h.rel t
 | const v =>
  show VRel c v (ofConst v)
  unfold ofConst
  split <;> first | exact .d _ _ (.bool _) | exact .d _ _ (.int _ _) | exact .d _ _ (.str _) | exact .d _ _ .nilptr | exact .nil _ | exact .d _ _ .nilfunc | exact .d _ _ .nilIface | exact .d _ _ .nilmap | exact .undef _
 | global g => exact .undef _
 | func f => exact .func _ [] [] [] [] rfl rfl (fun j h => by simp at h) (fun j h => by simp at h)
theorem St.put (h : St N ds c s fr a w) {dst : Option Tmp} {v : Value} {x : AV} (hv : VRel c v x) {K : Env → Prop} (hk : putK N s dst x K) : ∃ s', K s' ∧ St N ds c s' fr (a.put dst v) w := by
 unfold putK at hk
 split at hk
 ·exact ⟨s, hk, h⟩
 ·rename_i t
  split at hk
  ·rename_i hlt
   have hlt : t < N := by simpa [Nat.blt_eq] using hlt
   refine ⟨_, fz_spec hk, h.ok, h.B, by simpa [Act.put] using h.n, h.ds, fun u => ?_⟩
   simp only [lookup]
   split
   ·rename_i he
    have := Nat.eq_of_beq_eq_true he
    subst this
    simp [Act.put, Array.getElem?_setIfInBounds, h.n, hlt, Array.getD_eq_getD_getElem?]
    exact hv
   ·rename_i he
    have hne : u ≠ t := fun e => by subst e; simp at he
    have := h.rel u
    simpa [Act.put, Array.getElem?_setIfInBounds, Array.getD_eq_getD_getElem?, Ne.symm hne] using this
  ·exact hk.elim
theorem St.mono {c' : Ctx} {fr' : Frs} {w' : World} (h : St N ds c s fr a w) (hle : c.le c') (hok : Ok c' fr' w') (hs : w.heap.size ≤ w'.heap.size) : St N ds c' s fr' a w' :=
 ⟨hok, by rw [hle.B]; exact Nat.le_trans h.B hs, h.n, h.ds, fun t => (h.rel t).mono hle⟩
end
end Go.Proofs.Ytemfpemejagndaa.Fw

