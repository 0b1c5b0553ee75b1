/- Made slices, lent to be read; places kept for what is only appended to. -/
import Derived.Test.YtemfpemejagndaaFwX
set_option autoImplicit false
set_option linter.unusedVariables false
set_option linter.unusedSimpArgs false
namespace Go.Proofs.Ytemfpemejagndaa.Fw
open Go Go.RowKit

/-- no reference into the heap -/
def D.flatB : D → Bool
 | .bool _ => true
 | .int _ _ => true
 | .str _ => true
 | .agg cs => flats cs
 | .tuple cs => flats cs
 | _ => false
 where flats : List D → Bool
 | [] => true
 | x :: r => match D.flatB x with | true => flats r | false => false
theorem D.flats_all : ∀ {l : List D}, D.flatB.flats l = true → ∀ x ∈ l, D.flatB x = true
 | [], _, x, hx => by cases hx
 | y :: r, h, x, hx => by
  simp only [D.flatB.flats] at h
  split at h
  ·rename_i hy
   rcases List.mem_cons.1 hx with rfl | hx
   ·exact hy
   ·exact D.flats_all h x hx
  ·cases h
theorem DRel.flat {H H' : Imm} {v : Value} {x : D} (h : DRel H v x) : D.flatB x = true → DRel H' v x := by
 induction h with
 | bool b => exact fun _ => .bool b
 | int k n => exact fun _ => .int k n
 | str s => exact fun _ => .str s
 | agg vs cs hn hl hr ih => exact fun hf => .agg vs cs hn hl fun j hj => ih j hj (D.flats_all (by simpa [D.flatB] using hf) _ (List.getElem_mem _))
 | tuple vs cs hn hr ih => exact fun hf => .tuple vs cs hn fun j hj => ih j hj (D.flats_all (by simpa [D.flatB] using hf) _ (List.getElem_mem _))
 | _ => exact fun hf => by cases hf
section
variable {T : TT} {P : Program} {N : Nat} {ds : Fix} {js : List Nat} {c : Ctx} {s : Env} {fr : Frs} {a : Act} {w : World}

theorem wk.holdG (l i sz : Nat) : wk (.nil sz) (.garr l i 0 sz) := ⟨fun c v hv => by cases hv with | nil _ => exact .garr0 none l i sz⟩
end
end Go.Proofs.Ytemfpemejagndaa.Fw
namespace Go.Proofs.Ytemfpemejagndaa.Fw
open Go Go.RowKit
end Go.Proofs.Ytemfpemejagndaa.Fw

