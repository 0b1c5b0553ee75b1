/- Calls: rules that put the steps ahead of a call together; maps of typed data. -/
import Derived.Test.YtemfpemejagndaaFwV
set_option autoImplicit false
set_option linter.unusedVariables false
set_option linter.unusedSimpArgs false
namespace Go.Proofs.Ytemfpemejagndaa.Fw
open Go Go.RowKit

section
variable {T : TT} {P : Program} {N : Nat} {ds : Fix} {js : List Nat} {c : Ctx} {s : Env} {fr : Frs} {a : Act} {w : World}

theorem said_pureF {f : FuncId} {xs : List D} {us : List AV} {r : D} {L : List Blk} {rest : Frs} {R : Out → List Blk → Frs → Prop} (h : Pure P f xs r) (hu : pures (AV.fzps L us) = some xs) (hR : R (.ret (.d r)) [] (L :: rest)) : Said P f us (L :: rest) R :=
 said_fzp (said_pure h hu hR) rfl
theorem said_iorF {f : FuncId} {us args : List AV} {L0 bs : List Blk} {rest : Frs} {y : AV} {L' : List Blk} {R : Out → List Blk → Frs → Prop} (h : IoR P f args bs y L') (ps : List Nat) (us' : List AV)
  (hps : nodupB ps = true) (hw : WkAll (AV.fzps L0 us) us') (ha : AV.trs ps us' = some args) (hb : lendK ps L0 ps = some bs)
  (hR : R (.ret ((y.bt (gOf ps L0.length)).lift 1)) [] (back ps L0 (L'.map (Blk.bt (gOf ps L0.length))) :: rest)) : Said P f us (L0 :: rest) R :=
 said_fzp (said_args (said_ior h ps hps ha hb hR) hw) rfl
theorem said_iorF2 {f : FuncId} {us args : List AV} {L0 bs bs' : List Blk} {rest : Frs} {y : AV} {L' : List Blk} {R : Out → List Blk → Frs → Prop} (h : IoR P f args bs y L') (ps : List Nat) (us' : List AV)
  (hps : nodupB ps = true) (hw : WkAll (AV.fzps L0 us) us') (ha : AV.trs ps us' = some args) (hb : lendK ps L0 ps = some bs') (hb' : bs' = bs)
  (hR : R (.ret ((y.bt (gOf ps L0.length)).lift 1)) [] (back ps L0 (L'.map (Blk.bt (gOf ps L0.length))) :: rest)) : Said P f us (L0 :: rest) R := by
 subst hb'; exact said_iorF h ps us' hps hw ha hb hR
/-! ### places that are kept, ahead of a loop -/
theorem St.hold {L : List Blk} {rest : Frs} (h : St N ds c s (L :: rest) a w) (sz : Nat) : ∃ c', c.le c' ∧ St N ds c' s ((L ++ [.grow sz 0]) :: rest) a w := by
 obtain ⟨c', k1, k2, k3, k4, k5⟩ := h.ok.hold sz
 exact ⟨c', k1, k5, by rw [k3]; exact h.B, h.n, h.ds, fun t => (h.rel t).mono k1⟩
theorem Qc.of_le {c0 c : Ctx} (h : c0.le c) {Q : Ex → Env → Frs → Prop} {e : Exit} {a : Act} {w : World} (hq : Qc N ds c Q e a w) : Qc N ds c0 Q e a w := Qc.mono (h.out _) hq
theorem Runs.hold (sz : Nat) {x : Code} {Q : Ex → Env → Frs → Prop} {L : List Blk} {rest : Frs} (h : Runs P N ds x Q s ((L ++ [.grow sz 0]) :: rest)) : Runs P N ds x Q s (L :: rest) :=
 ⟨fun c a w hs => by
  obtain ⟨c', k1, k2⟩ := hs.hold sz
  exact wp_mono (h.out c' a w k2) fun e a w hq => hq.of_le k1⟩
/-! ### what a call keeps -/
def subB : List Nat → List Nat → Bool
 | [], _ => true
 | p :: r, X => match memNat p X with | true => subB r X | false => false
theorem memNat_mem : ∀ {n : Nat} {l : List Nat}, memNat n l = true → n ∈ l
 | n, [], h => by cases h
 | n, m :: r, h => by
  simp only [memNat] at h
  split at h
  ·rename_i hb; have := Nat.eq_of_beq_eq_true hb; subst this; simp
  ·exact List.mem_cons_of_mem _ (memNat_mem h)
theorem subB_mem : ∀ {ps X : List Nat}, subB ps X = true → ∀ p ∈ ps, p ∈ X
 | [], _, _, p, hp => by cases hp
 | q :: r, X, h, p, hp => by
  simp only [subB] at h
  split at h
  ·rename_i hb
   rcases List.mem_cons.1 hp with rfl | hp
   ·exact memNat_mem hb
   ·exact subB_mem h p hp
  ·cases h
theorem keeps_back {X ps : List Nat} {L0 Y : List Blk} {rest : Frs} (h : subB ps X = true) : Keeps X (L0 :: rest) (back ps L0 Y :: rest) := fun lv i b hb hi => by
 cases lv with
 | succ lv => cases b <;> first | exact hb | trivial
 | zero =>
  have hb : L0[i]? = some b := hb
  have hlt := (List.getElem?_eq_some_iff.1 hb).1
  have hni : i ∉ ps := fun hm => hi rfl (subB_mem h i hm)
  have h2 : (back ps L0 Y)[i]? = some b := by rw [back_old hlt hni]; exact hb
  cases b <;> first | exact h2 | trivial
end

/-! ### maps of typed data -/
def mget {α β : Type} [DecidableEq α] : List (α × β) → α → Option β
 | [], _ => none
 | q :: r, k => if k = q.1 then some q.2 else mget r k
def mput {α β : Type} [DecidableEq α] : List (α × β) → α → β → List (α × β)
 | [], k, v => [(k, v)]
 | q :: r, k, v => if k = q.1 then (k, v) :: r else q :: mput r k v
def mapD {α β : Type} (f : α → D) (g : β → D) (m : List (α × β)) : List (D × D) := m.map fun q => (f q.1, g q.2)
theorem find_mapD {α β : Type} [DecidableEq α] {f : α → D} {g : β → D} (hf : ∀ a b, f a = f b → a = b) (k : α) : ∀ m : List (α × β), findD (f k) (mapD f g m) = (mget m k).map g
 | [] => rfl
 | q :: r => by
  simp only [mapD, List.map_cons, findD, mget]
  by_cases h : k = q.1
  ·subst h; simp
  ·have : ¬ f k = f q.1 := fun e => h (hf _ _ e)
   rw [if_neg this, if_neg h]
   exact find_mapD hf k r
theorem upd_mapD {α β : Type} [DecidableEq α] {f : α → D} {g : β → D} (hf : ∀ a b, f a = f b → a = b) (k : α) (v : β) : ∀ m : List (α × β), updD (f k) (g v) (mapD f g m) = mapD f g (mput m k v)
 | [] => rfl
 | q :: r => by
  simp only [mapD, List.map_cons, updD, mput]
  by_cases h : k = q.1
  ·subst h; simp
  ·have : ¬ f k = f q.1 := fun e => h (hf _ _ e)
   rw [if_neg this, if_neg h]
   have ih := upd_mapD (g := g) hf k v r
   simp only [mapD] at ih
   rw [ih]; rfl
/-- the key's type -/
structure KeyF (P : Program) (t : TypeId) {α : Type} (f : α → D) : Prop where
 inj : ∀ a b, f a = f b → a = b
 key : KeyT P t fun d => ∃ a, d = f a
theorem mlook_of {P : Program} {t : TypeId} {α β : Type} [DecidableEq α] {f : α → D} {g : β → D} (hK : KeyF P t f) {k : α} {m : List (α × β)} {Y : D → Prop} {N : Prop} (hy : ∀ v, mget m k = some v → Y (g v)) (hn : mget m k = none → N) : mlook P t (mapD f g m) (f k) Y N := by
 have hfind := find_mapD (g := g) hK.inj k m
 refine ⟨⟨_, hK.key, ⟨k, rfl⟩, fun q hq => ?_⟩, fun x hx => ?_, fun hx => hn ?_⟩
 ·obtain ⟨p, _, rfl⟩ := List.mem_map.1 hq; exact ⟨p.1, rfl⟩
 ·rw [hfind] at hx
  cases hg : mget m k with
  | none => rw [hg] at hx; cases hx
  | some v => rw [hg] at hx; injection hx with hx; subst hx; exact hy v hg
 ·rw [hfind] at hx
  cases hg : mget m k with
  | none => rfl
  | some v => rw [hg] at hx; cases hx
theorem mupd_of {P : Program} {t : TypeId} {α β : Type} [DecidableEq α] {f : α → D} {g : β → D} (hK : KeyF P t f) {k : α} {v : β} {m m' : List (α × β)} {fr : Frs} {l i : Nat} {K : Frs → Prop} (hm : mput m k v = m') (h : setBlkK fr l i (.map (mapD f g m')) K) :
  mupd P t (mapD f g m) (f k) (setBlkK fr l i (.map (updD (f k) (g v) (mapD f g m))) K) := by
 refine ⟨⟨_, hK.key, ⟨k, rfl⟩, fun q hq => ?_⟩, ?_⟩
 ·obtain ⟨p, _, rfl⟩ := List.mem_map.1 hq; exact ⟨p.1, rfl⟩
 ·rw [upd_mapD hK.inj, hm]; exact h
end Go.Proofs.Ytemfpemejagndaa.Fw
namespace Go.Proofs.Ytemfpemejagndaa.Fw
open Go Go.RowKit
/-- a loop's head, in short -/
def LoopAt (T : TT) (P : Program) (f : Func) (ds : Fix) (js pth : List Nat) (E : Ex → Env → Frs → Prop) (s : Env) (fr : Frs) : Prop :=
 RunsL P f.ntmps ds (codeAt (pth ++ [0]) (bodyOf f)) (qAt T P f.ntmps ds js pth (bodyOf f) E) s fr
def JoinAt (T : TT) (P : Program) (f : Func) (ds : Fix) (js pth : List Nat) (E : Ex → Env → Frs → Prop) (s : Env) (fr : Frs) : Prop :=
 Runs P f.ntmps ds (codeAt pth (bodyOf f)) (qAt T P f.ntmps ds js pth (bodyOf f) E) s fr
def EP (T : TT) (f : Func) (r : D) : Ex → Env → Frs → Prop := EndPure T f.results.toList r
def ES (T : TT) (f : Func) (m : Nat) (y : AV) (L : List Blk) : Ex → Env → Frs → Prop := EndSel T f.results.toList m y L
end Go.Proofs.Ytemfpemejagndaa.Fw
namespace Go.Proofs.Ytemfpemejagndaa.Fw
open Classical in
theorem agree_b {α : Type} {A B : Option α} {p : Prop} {i : Decidable p} {j : ∀ x y : α, Decidable (x = y)} {r : α} (e : (B >>= fun y => @ite _ p i (A >>= fun x => @ite _ (x = y) (j x y) (some y) none) (some y)) = some r) : B = some r := by
 cases hb : B with
 | none => rw [hb] at e; cases e
 | some y =>
  rw [hb] at e
  simp only [Option.bind_eq_bind, Option.bind_some] at e
  by_cases hp : p
  ·rw [if_pos hp] at e
   cases ha : A with
   | none => rw [ha] at e; cases e
   | some x =>
    rw [ha] at e
    simp only [Option.bind_some] at e
    split at e
    ·exact e
    ·cases e
  ·rw [if_neg hp] at e; exact e
open Classical in
theorem agree_a {α : Type} {A B : Option α} {p : Prop} {i : Decidable p} {j : ∀ x y : α, Decidable (x = y)} {r : α} (hp : p) (e : (B >>= fun y => @ite _ p i (A >>= fun x => @ite _ (x = y) (j x y) (some y) none) (some y)) = some r) : A = some r := by
 cases hb : B with
 | none => rw [hb] at e; cases e
 | some y =>
  rw [hb] at e
  simp only [Option.bind_eq_bind, Option.bind_some, if_pos hp] at e
  cases ha : A with
  | none => rw [ha] at e; cases e
  | some x =>
   rw [ha] at e
   simp only [Option.bind_some] at e
   split at e
   ·rename_i hxy; subst hxy; exact e
   ·cases e
end Go.Proofs.Ytemfpemejagndaa.Fw

