/- Loops once round; where a piece of code stands; what a printed function gives. -/
import Derived.Test.YtemfpemejagndaaFwO
set_option autoImplicit false
set_option linter.unusedVariables false
set_option linter.unusedSimpArgs false
namespace Go.Proofs.Ytemfpemejagndaa.Fw
open Go Go.RowKit Go.WideShapes

section
variable {T : TT} {P : Program} {N : Nat} {ds : Fix} {js : List Nat} {c : Ctx} {s : Env} {fr : Frs} {a : Act} {w : World}

/-! ### 1. A loop, once round -/
def LoopWp (P : Program) (x : Code) (Q : Exit → Act → World → Prop) (a : Act) (w : World) : Prop :=
 ∀ (b : Frame) (k : List Item) (cs : List Frame), ∃ e a' w', Q e a' w' ∧ Arrives P (lone (b.at a (.code x :: .inLoop x :: k)) cs w) b k cs e a' w'
theorem LoopWp.wp {x : Code} {Q : Exit → Act → World → Prop} {a : Act} {w : World} (h : LoopWp P x Q a w) : (Code.loop x).wp P Q a w := by
 intro b k cs
 obtain ⟨e, a', w', hq, harr⟩ := h b k cs
 exact ⟨e, a', w', hq, .of_steps (.one step_loop) harr⟩
theorem LoopWp.mono {x : Code} {Q Q' : Exit → Act → World → Prop} {a : Act} {w : World} (h : LoopWp P x Q a w) (hq : ∀ e a w, Q e a w → Q' e a w) : LoopWp P x Q' a w := by
 intro b k cs
 obtain ⟨e, a', w', h1, h2⟩ := h b k cs
 exact ⟨e, a', w', hq _ _ _ h1, h2⟩
theorem loopWp_of {x : Code} {Q : Exit → Act → World → Prop} {a : Act} {w : World} (h : x.wp P (fun e a w => (e = .normal ∧ LoopWp P x Q a w) ∨ (e ≠ .normal ∧ Q e a w)) a w) : LoopWp P x Q a w := by
 intro b k cs
 obtain ⟨e, a₁, w₁, hq, harr⟩ := h b (.inLoop x :: k) cs
 rcases hq with ⟨rfl, hq⟩ | ⟨hne, hq⟩
 ·obtain ⟨e₂, a₂, w₂, hq₂, harr₂⟩ := hq b k cs
  exact ⟨e₂, a₂, w₂, hq₂, .of_steps (Steps.trans harr (.one step_inLoop)) harr₂⟩
 ·exact ⟨_, a₁, w₁, hq, .pass (x := .inLoop x) rfl (fun _ _ => .inl hne) harr⟩
structure RunsL (P : Program) (N : Nat) (ds : Fix) (x : Code) (Q : Ex → Env → Frs → Prop) (s : Env) (fr : Frs) : Prop where mk ::
 out : ∀ c a w, St N ds c s fr a w → LoopWp P x (Qc N ds c Q) a w
theorem RunsL.runs {x : Code} {Q : Ex → Env → Frs → Prop} (h : RunsL P N ds x Q s fr) : Runs P N ds (.loop x) Q s fr := ⟨fun c a w hs => (h.out c a w hs).wp⟩
theorem RunsL.weak {x : Code} {Q : Ex → Env → Frs → Prop} {s' : Env} {fr' : Frs} (h : RunsL P N ds x Q s' fr') (hw : Weak s fr s' fr') (hm : Nat.ble ds.m (fr'.headD []).length = true := by rfl) : RunsL P N ds x Q s fr := by
 refine ⟨fun c a w hs => ?_⟩
 obtain ⟨c', h1, _, _, _, h5⟩ := weak_sound hw hm hs
 exact (h.out c' a w h5).mono fun e a w hq => Qc.mono h1 hq
theorem RunsL.of_awp (hT : T.okB P = true) {x : Code} {Q : Ex → Env → Frs → Prop}
  (h : awp T P N ds js x (fun e s fr => match e with | .normal => RunsL P N ds x Q s fr | .exit i => Q (.exit i) s fr | .goto i => Q (.goto i) s fr | .ret => Q .ret s fr | .pan v => Q (.pan v) s fr) s fr) : RunsL P N ds x Q s fr := by
 refine ⟨fun c a w hs => loopWp_of (wp_mono (awp_sound hT x h hs) ?_)⟩
 rintro e a' w' ⟨ex, s', fr', c2, h1, h2, h3, h4⟩
 cases ex with
 | normal =>
  cases e <;> simp [exRel] at h1
  exact .inl ⟨rfl, (h2.out c2 a' w' h4).mono fun e a w hq => Qc.mono h3 hq⟩
 | exit i =>
  cases e <;> simp [exRel] at h1
  subst h1
  exact .inr ⟨by simp, .exit _, s', fr', c2, rfl, h2, h3, h4⟩
 | goto i =>
  cases e <;> simp [exRel] at h1
  subst h1
  exact .inr ⟨by simp, .goto _, s', fr', c2, rfl, h2, h3, h4⟩
 | ret =>
  cases e <;> simp [exRel] at h1
  exact .inr ⟨by simp, .ret, s', fr', c2, trivial, h2, h3, h4⟩
 | pan r =>
  cases e <;> simp only [exRel] at h1
  exact .inr ⟨by simp, .pan r, s', fr', c2, h1, h2, h3, h4⟩
theorem Runs.enter (hT : T.okB P = true) {x : Code} {Q : Ex → Env → Frs → Prop} (h : awp T P N ds [] x Q s fr) : Runs P N ds x Q s fr := ⟨fun c a w hs => awp_sound hT x h hs⟩
theorem Runs.weak {x : Code} {Q : Ex → Env → Frs → Prop} {s' : Env} {fr' : Frs} (h : Runs P N ds x Q s' fr') (hw : Weak s fr s' fr') (hm : Nat.ble ds.m (fr'.headD []).length = true := by rfl) : Runs P N ds x Q s fr := by
 refine ⟨fun c a w hs => ?_⟩
 obtain ⟨c', h1, _, _, _, h5⟩ := weak_sound hw hm hs
 exact wp_mono (h.out c' a w h5) fun e a w hq => Qc.mono h1 hq
/-- a slice that lies in a temporary, or in a cell, is not too long -/
theorem elems_le {c : Ctx} {v : Value} {x : AV} (h : VRel c v x) {sz : Nat} {xs : List D} (he : elemsO x = some (sz, xs)) : xs.length ≤ 9223372036854775807 := by
 obtain ⟨a, cap, rfl, h'⟩ := elemsO_rel h he
 exact h'.len_le
theorem RunsL.len_tmp {x : Code} {Q : Ex → Env → Frs → Prop} (t : Nat) {sz : Nat} {xs : List D} (he : elemsO (lookup t s) = some (sz, xs)) (h : xs.length ≤ 9223372036854775807 → RunsL P N ds x Q s fr) : RunsL P N ds x Q s fr :=
 ⟨fun c a w hs => (h (elems_le (hs.rel t) he)).out c a w hs⟩
theorem RunsL.len_cell {x : Code} {Q : Ex → Env → Frs → Prop} (i j : Nat) {cs : List AV} {v : AV} {sz : Nat} {xs : List D} (hb : (fr[0]?).bind (fun r => r[i]?) = some (.cells cs)) (hj : cs[j]? = some v) (he : elemsO v = some (sz, xs)) (h : xs.length ≤ 9223372036854775807 → RunsL P N ds x Q s fr) : RunsL P N ds x Q s fr := by
 refine ⟨fun c a w hs => (h ?_).out c a w hs⟩
 obtain ⟨e, he', hbr⟩ := hs.ok.ent (l := 0) (i := i) hb
 cases hbr with | cells _ vs t hg hw hn hl hr =>
 obtain ⟨hlt, rfl⟩ := List.getElem?_eq_some_iff.1 hj
 exact elems_le (hr j hlt) he
end

/-! ### 2. Where a piece of code stands -/
def codeAt : List Nat → Code → Code
 | [], c => c
 | n :: p, c => match c with
  | .seq a b => match n with | 0 => codeAt p a | _ => codeAt p b
  | .cond _ a b => match n with | 0 => codeAt p a | _ => codeAt p b
  | .block _ a => codeAt p a
  | .loop a => codeAt p a
  | c => c
def qAt (T : TT) (P : Program) (N : Nat) (ds : Fix) (js : List Nat) : List Nat → Code → (Ex → Env → Frs → Prop) → Ex → Env → Frs → Prop
 | [], _, Q => Q
 | n :: p, c, Q => match c with
  | .seq a b => match n with
   | 0 => qAt T P N ds js p a (fun e s fr => match e with | .normal => awp T P N ds js b Q s fr | .exit i => Q (.exit i) s fr | .goto i => Q (.goto i) s fr | .ret => Q .ret s fr | .pan v => Q (.pan v) s fr)
   | _ => qAt T P N ds js p b Q
  | .cond _ a b => match n with | 0 => qAt T P N ds js p a Q | _ => qAt T P N ds js p b Q
  | .block id a => qAt T P N ds js p a (fun e s fr => match e with
   | .exit j => match Nat.beq j id with | true => Q .normal s fr | false => Q (.exit j) s fr
   | .normal => Q .normal s fr
   | .goto i => Q (.goto i) s fr | .ret => Q .ret s fr | .pan v => Q (.pan v) s fr)
  | .loop x => qAt T P N ds js p x (fun e s fr => match e with | .normal => RunsL P N ds x Q s fr | .exit i => Q (.exit i) s fr | .goto i => Q (.goto i) s fr | .ret => Q .ret s fr | .pan v => Q (.pan v) s fr)
  | _ => Q
def bodyOf (f : Func) : Code := match f.body with | some b => b | none => .skip
/-! ### 3. Printed functions: their steps -/
theorem bnd {α β : Type} {x : Option α} {f : α → Option β} {r : β} (e : (x >>= f) = some r) : ∃ y, x = some y ∧ f y = some r := by
 cases x with
 | none => cases e
 | some y => exact ⟨y, rfl, e⟩
theorem ifp {c : Prop} {i : Decidable c} {α : Type} {a b r : α} (h : c) (e : @ite α c i a b = r) : a = r := by rwa [if_pos h] at e
theorem ifn {c : Prop} {i : Decidable c} {α : Type} {a b r : α} (h : ¬ c) (e : @ite α c i a b = r) : b = r := by rwa [if_neg h] at e
theorem ifpb {c : Bool} {i : Decidable (c = true)} {α : Type} {a b r : α} (h : c = true) (e : @ite α (c = true) i a b = r) : a = r := by rwa [if_pos h] at e
theorem ifnb {c : Bool} {i : Decidable (c = true)} {α : Type} {a b r : α} (h : c = false) (e : @ite α (c = true) i a b = r) : b = r := by rwa [if_neg (by rw [h]; decide)] at e
theorem sm {α : Type} {a r : α} (e : some a = some r) : a = r := by injection e
def geti {α : Type} (xs : List α) (i : Int) : Option α := if 0 ≤ i then xs[i.toNat]? else none
theorem geti_some {α : Type} {xs : List α} {i : Int} {x : α} (h : geti xs i = some x) : ∃ k : Nat, i = k ∧ xs[k]? = some x := by
 unfold geti at h
 split at h
 ·exact ⟨i.toNat, by omega, h⟩
 ·cases h
theorem geti_nat {α : Type} (xs : List α) (k : Nat) : geti xs (k : Int) = xs[k]? := by simp [geti]
theorem geti_lt {α : Type} {xs : List α} {i : Int} (h : 0 ≤ i) (h' : i < xs.length) : geti xs i = some (xs[i.toNat]'(by omega)) := by
 rw [geti, if_pos h, List.getElem?_eq_getElem]
def seti {α : Type} (xs : List α) (i : Int) (x : α) : Option (List α) := if 0 ≤ i ∧ i < xs.length then some (xs.set i.toNat x) else none
theorem seti_some {α : Type} {xs ys : List α} {i : Int} {x : α} (h : seti xs i x = some ys) : ∃ k : Nat, i = k ∧ k < xs.length ∧ ys = xs.set k x := by
 unfold seti at h
 split at h
 ·injection h with h; exact ⟨i.toNat, by omega, by omega, h.symm⟩
 ·cases h
theorem seti_nat {α : Type} {xs : List α} {k : Nat} {x : α} (h : k < xs.length) : seti xs (k : Int) x = some (xs.set k x) := by
 rw [seti, if_pos (by omega)]; simp
def getb (s : ByteArray) (i : Int) : Option Int := if 0 ≤ i then (s[i.toNat]?).map fun q => (q.toNat : Int) else none
theorem getb_some {s : ByteArray} {i n : Int} (h : getb s i = some n) : ∃ (k : Nat) (q : UInt8), i = k ∧ s[k]? = some q ∧ (q.toNat : Int) = n := by
 unfold getb at h
 split at h
 ·cases hq : s[i.toNat]? with
  | none => rw [hq] at h; cases h
  | some q => rw [hq] at h; injection h with h; exact ⟨i.toNat, q, by omega, hq, h⟩
 ·cases h
/-- append, where there is room -/
def app {α : Type} (xs ys : List α) : Option (List α) := if xs.length + ys.length < 4294967296 then some (xs ++ ys) else none
theorem app_some {α : Type} {xs ys zs : List α} (h : app xs ys = some zs) : xs.length + ys.length < 4294967296 ∧ zs = xs ++ ys := by
 unfold app at h
 split at h
 ·injection h with h; exact ⟨‹_›, h.symm⟩
 ·cases h
theorem app_eq {α : Type} {xs ys : List α} (h : xs.length + ys.length < 4294967296) : app xs ys = some (xs ++ ys) := if_pos h
def cut {α : Type} (xs : List α) (l h : Int) : Option (List α) := if 0 ≤ l ∧ l ≤ h ∧ h ≤ xs.length then some ((xs.take h.toNat).drop l.toNat) else none
theorem cut_some {α : Type} {xs ys : List α} {l h : Int} (e : cut xs l h = some ys) : ∃ l' h' : Nat, l = l' ∧ h = h' ∧ l' ≤ h' ∧ h' ≤ xs.length ∧ ys = (xs.take h').drop l' := by
 unfold cut at e
 split at e
 ·injection e with e; exact ⟨l.toNat, h.toNat, by omega, by omega, by omega, by omega, e.symm⟩
 ·cases e
def mkn {α : Type} (x : α) (n : Int) : Option (List α) := if 0 ≤ n ∧ n < 4294967296 then some (List.replicate n.toNat x) else none
theorem mkn_some {α : Type} {x : α} {n : Int} {r : List α} (e : mkn x n = some r) : ∃ k : Nat, n = k ∧ k < 4294967296 ∧ r = List.replicate k x := by
 unfold mkn at e
 split at e
 ·injection e with e; exact ⟨n.toNat, by omega, by omega, e.symm⟩
 ·cases e
def wantb (p : Prop) [Decidable p] : Option Unit := if p then some () else none
theorem wantb_some {p : Prop} [Decidable p] {u : Unit} (e : wantb p = some u) : p := by
 unfold wantb at e
 split at e
 ·assumption
 ·cases e
theorem drop_head {α : Type} {xs : List α} {k : Nat} {x : α} {r : List α} (h : x :: r = xs.drop k) : xs[k]? = some x ∧ r = xs.drop (k + 1) ∧ k < xs.length := by
 have h1 : xs[k]? = some x := by
  have := congrArg List.head? h
  rw [List.head?_drop] at this
  exact this.symm
 refine ⟨h1, ?_, (List.getElem?_eq_some_iff.1 h1).1⟩
 have := congrArg List.tail h
 simpa [List.tail_drop] using this
theorem drop_nil {α : Type} {xs : List α} {k : Nat} (h : [] = xs.drop k) : xs.length ≤ k := by
 have := congrArg List.length h
 simp at this; omega
theorem wrap64 {x : Int} (h : -9223372036854775808 ≤ x) (h' : x ≤ 9223372036854775807) : IntKind.i64.wrap x = x := by
 simp only [IntKind.wrap, IntKind.bits, IntKind.signed]
 simp
 omega
theorem wrap64e {x y : Int} (e : x = y) (h : -9223372036854775808 ≤ y) (h' : y ≤ 9223372036854775807) : IntKind.i64.wrap x = y := by subst e; exact wrap64 h h'
section
variable {T : TT} {P : Program} {N : Nat} {ds : Fix} {js : List Nat} {c : Ctx} {s : Env} {fr : Frs} {a : Act} {w : World}
theorem said_pure2 {f : FuncId} {ds ds' : List D} {us : List AV} {r : D} {R : Out → List Blk → Frs → Prop} (h : Pure P f ds r) (hu : pures us = some ds') (hd : ds' = ds) (hR : R (.ret (.d r)) [] fr) : Said P f us fr R := by
 subst hd; exact said_pure h hu hR
end
theorem listAll {α : Type} : (∀ l : List α, [] ++ l = l) ∧ (∀ a b c : List α, a ++ b ++ c = a ++ (b ++ c)) ∧ (∀ (x : α) (a b : List α), (x :: a) ++ b = x :: (a ++ b)) ∧ (∀ l : List α, l ++ [] = l) ∧ (∀ a b : List α, (a ++ b).length = a.length + b.length) ∧
  (∀ (x : α) (l : List α), (x :: l).length = l.length + 1) ∧ (([] : List α).length = 0) ∧ (∀ (l : List α) (i : Nat) (x : α), (l.set i x).length = l.length) ∧ (∀ (n : Nat) (x : α), (List.replicate n x).length = n) :=
 ⟨fun _ => rfl, fun _ _ _ => by simp, fun _ _ _ => rfl, fun _ => by simp, fun _ _ => by simp, fun _ _ => rfl, rfl, fun _ _ _ => by simp, fun _ _ => by simp⟩
end Go.Proofs.Ytemfpemejagndaa.Fw

