/- Calls of functions of pure data; recursion; typed data. -/
import Derived.Test.YtemfpemejagndaaFwI
set_option autoImplicit false
set_option linter.unusedVariables false
set_option linter.unusedSimpArgs false
namespace Go.Proofs.Ytemfpemejagndaa.Fw
open Go Go.RowKit Go.WideShapes

section
variable {T : TT} {P : Program} {N : Nat} {ds : Fix} {c : Ctx} {s : Env} {fr : Frs} {a : Act} {w : World}

theorem said_pure {f : FuncId} {ds : List D} {us : List AV} {r : D} {R : Out → List Blk → Frs → Prop} (h : Pure P f ds r) (hu : pures us = some ds) (hR : R (.ret (.d r)) [] fr) : Said P f us fr R := by
 obtain ⟨k1, k2⟩ := pures_some hu
 refine ⟨fun c w vs hok hB hn hr => ?_⟩
 have hd : ∀ j (hj : j < ds.length), DRel c.H (vs.getD j default) ds[j] := fun j hj => (hr j (by omega)).pure _ (k2 j (by omega) hj)
 refine CallsX.mono (h.out c.H w vs hok.mod (hok.young hB) (by omega) hd) ?_
 rintro e w' ⟨v, H', rfl, hx, hm, hv, hb⟩
 have hx' : c.H.ext H' c.free := hx.weak (Ctx.free_new hB)
 refine ⟨.ret (.d r), [], fr, { c with H := H', ents := [] :: c.ents }, hR, hb.size, ?_, (hok.calls hb hB hx hm).frame, v, rfl, .d _ _ hv⟩
 show c.le { c with H := H' }
 exact Ctx.le_H hx'
end
end Go.Proofs.Ytemfpemejagndaa.Fw

