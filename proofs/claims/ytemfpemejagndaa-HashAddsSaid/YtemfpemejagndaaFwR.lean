/- Functions to which blocks are lent: their contract; what it gives in any caller. -/
import Derived.Test.YtemfpemejagndaaFwQ
set_option autoImplicit false
set_option linter.unusedVariables false
set_option linter.unusedSimpArgs false
namespace Go.Proofs.Ytemfpemejagndaa.Fw
open Go Go.RowKit

/-! ### 1. The contract -/
/-- bs: the blocks that are lent, the first ones of the frame; at its end the function hands its whole frame back. -/
structure Io (P : Program) (f : FuncId) (args : List AV) (bs : List Blk) (R : Out → List Blk → Prop) : Prop where mk ::
 out : ∀ (c : Ctx) (w : World) (vs : List Value), Ok c [bs] w → c.B ≤ w.heap.size → vs.length = args.length → (∀ j (h : j < args.length), VRel c (vs.getD j default) (args[j])) →
  CallsX P f vs.toArray w fun e w' => ∃ (o : Out) (L : List Blk) (c' : Ctx), R o L ∧ w.heap.size ≤ w'.heap.size ∧ c.out bs.length c' ∧ Ok c' [L] w' ∧
   match o with
   | .ret r => ∃ v, e = .returned v ∧ VRel c' v r
   | .pan r => ∃ v, e = .panicked [{ v, recovered := false }] ∧ VRel c' v r
section
variable {T : TT} {P : Program} {js : List Nat}
end
end Go.Proofs.Ytemfpemejagndaa.Fw

