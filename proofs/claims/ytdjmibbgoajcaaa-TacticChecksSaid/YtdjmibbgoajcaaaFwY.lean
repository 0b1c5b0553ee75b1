/- Made slices, lent to be read; places kept for what is only appended to. -/
import Derived.Test.YtdjmibbgoajcaaaFwX
set_option autoImplicit false
set_option linter.unusedVariables false
set_option linter.unusedSimpArgs false
namespace Go.Proofs.Ytdjmibbgoajcaaa.Fw
open Go Go.RowKit

/-- no reference into the heap -/
def D.flatB : D → Bool
  | .bool _ => true
  | .int _ _ => true
  | .str _ => true
  | .agg cs => flats cs
  | .tuple cs => flats cs
  | _ => false
  where flats : List D → Bool
  | [] => true
  | x :: r => match D.flatB x with | true => flats r | false => false
theorem D.flats_all : ∀ {l : List D}, D.flatB.flats l = true → ∀ x ∈ l, D.flatB x = true
  | [], _, x, hx => by cases hx
  | y :: r, h, x, hx => by
    simp only [D.flatB.flats] at h
    split at h
    · rename_i hy
      rcases List.mem_cons.1 hx with rfl | hx
      · exact hy
      · exact D.flats_all h x hx
    · cases h
theorem DRel.flat {H H' : Imm} {v : Value} {x : D} (h : DRel H v x) : D.flatB x = true → DRel H' v x := by
  induction h with
  | bool b => exact fun _ => .bool b
  | int k n => exact fun _ => .int k n
  | str s => exact fun _ => .str s
  | agg vs cs hn hl hr ih => exact fun hf => .agg vs cs hn hl fun j hj => ih j hj (D.flats_all (by simpa [D.flatB] using hf) _ (List.getElem_mem _))
  | tuple vs cs hn hr ih => exact fun hf => .tuple vs cs hn fun j hj => ih j hj (D.flats_all (by simpa [D.flatB] using hf) _ (List.getElem_mem _))
  | _ => exact fun hf => by cases hf
section
variable {T : TT} {P : Program} {N : Nat} {ds : Fix} {js : List Nat} {c : Ctx} {s : Env} {fr : Frs} {a : Act} {w : World}

/-- a call that reads made slices, and hands out nothing of the heap -/
theorem said_borrow {f : FuncId} {xs : List D} {us : List AV} {r : D} {L : List Blk} {rest : Frs} {R : Out → List Blk → Frs → Prop} (h : Pure P f xs r) (hu : Selu.SeluL [] L us xs) (hf : D.flatB r = true) (hR : R (.ret (.d r)) [] (L :: rest)) : Said P f us (L :: rest) R := by
  refine ⟨fun c w vs hok hB hn hr => ?_⟩
  obtain ⟨k1, k2, _⟩ := seluL_rel hok (qs := []) (ks := []) (fun _ _ _ _ h => by cases h) us vs xs hn hr hu
  refine CallsX.mono (h.out (c.sel [] w) w vs (sel_models hok.mod) (by omega) k2) ?_
  rintro e w' ⟨v, H', rfl, hx, hm, hv, hb⟩
  refine ⟨.ret (.d r), [], L :: rest, { c with H := c.H, ents := [] :: c.ents }, hR, hb.size, ?_, (hok.calls hb hB (Imm.ext.refl _ _) (hok.mod.below hb)).frame, v, rfl, .d _ _ (hv.flat hf)⟩
  show c.le { c with H := c.H }
  exact Ctx.le.refl c
theorem said_borrow2 {f : FuncId} {xs xs' : List D} {us : List AV} {r : D} {L : List Blk} {rest : Frs} {R : Out → List Blk → Frs → Prop} (h : Pure P f xs r) (hu : Selu.SeluL [] L us xs') (hd : xs' = xs) (hf : D.flatB r = true) (hR : R (.ret (.d r)) [] (L :: rest)) : Said P f us (L :: rest) R := by
  subst hd; exact said_borrow h hu hf hR
theorem wk.holdG (l i sz : Nat) : wk (.nil sz) (.garr l i 0 sz) := ⟨fun c v hv => by cases hv with | nil _ => exact .garr0 none l i sz⟩
theorem St.holdG {L : List Blk} {rest : Frs} (h : St N ds c s (L :: rest) a w) (sz : Nat) : ∃ c', c.le c' ∧ St N ds c' s ((L ++ [.garr sz []]) :: rest) a w := by
  obtain ⟨c', k1, k2, k3, k4, k5⟩ := h.ok.holdX 0 (.garr sz []) (.inr (.inl ⟨_, rfl, rfl⟩))
  exact ⟨c', k1, k5, by rw [k3]; exact h.B, h.n, h.ds, fun t => (h.rel t).mono k1⟩
theorem Runs.holdG (sz : Nat) {x : Code} {Q : Ex → Env → Frs → Prop} {L : List Blk} {rest : Frs} (h : Runs P N ds x Q s ((L ++ [.garr sz []]) :: rest)) : Runs P N ds x Q s (L :: rest) :=
  ⟨fun c a w hs => by
    obtain ⟨c', k1, k2⟩ := hs.holdG sz
    exact wp_mono (h.out c' a w k2) fun e a w hq => hq.of_le k1⟩
end
end Go.Proofs.Ytdjmibbgoajcaaa.Fw
namespace Go.Proofs.Ytdjmibbgoajcaaa.Fw
open Go Go.RowKit
/-- an entry of a map that may be nil -/
def mgetO {α β : Type} [DecidableEq α] (m : Option (List (α × β))) (k : α) : Option β := match m with
  | none => none
  | some m => mget m k
theorem mlookO_of {P : Program} {t : TypeId} {α β : Type} [DecidableEq α] {f : α → D} {g : β → D} (hK : KeyF P t f) {k : α} {m : Option (List (α × β))} {Y : D → Prop} {N : Prop} {fr : Frs} (hy : ∀ v, mgetO m k = some v → Y (g v)) (hn : mgetO m k = none → N) : amapOf fr (.d (mapO f g m)) fun es => mlook P t es (f k) Y N := by
  cases m with
  | none => exact mlook_of (m := ([] : List (α × β))) (g := g) hK (fun v hv => by cases hv) fun _ => hn rfl
  | some m => exact mlook_of hK hy hn
end Go.Proofs.Ytdjmibbgoajcaaa.Fw

