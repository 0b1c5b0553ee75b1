/- The law answers yes. -/
import Derived.Test.YtemfpemejagndaaHW
import Derived.Test.YtemfpemejagndaaHC
set_option autoImplicit false
set_option linter.unusedVariables false
set_option linter.unusedSimpArgs false
namespace Go.Proofs.Ytemfpemejagndaa.Fw
open Go Go.Proofs
theorem HashAdds_law (s : AStore) (u : Ty) (t : Tm) (h0 : s.ok) (h1 : u.ok) (h2 : t.ok) : Pure Try.prog 3 [AStore.D s, Ty.D u, Tm.D t] (.bool true) := by
 obtain ⟨b0, e0, t0⟩ := store_Great s h0
 cases b0 with
 | true => exact P_law1 e0
 | false =>
  have hs := t0 rfl
  have e1 := ref_Great_eq u h1
  cases hg : u.great with
  | true => rw [hg] at e1; exact P_law2 e0 e1
  | false =>
   rw [hg] at e1
   have hu := ty_great hg
   obtain ⟨b2, e2, t2⟩ := term_Wide t h2
   cases b2 with
   | true => exact P_law3 e0 e1 e2
   | false =>
    have ht := t2 rfl
    exact P_law e0 e1 e2 (rTwin_store s hs) (hash_AddType_eq s hs u h1 hu) (ref_AddType_eq s hs u h1 hu) (same_store _) (hash_Add_eq s hs t h2 ht.lim ht.2.1) (ref_Add_eq s hs t h2 ht.lim ht.2.1) (same_store _)
     (hash_Find_eq s hs t h2 ht.lim ht.2.1) (ref_Find_eq s hs t h2 ht.lim ht.2.1) (same_store _)
end Go.Proofs.Ytemfpemejagndaa.Fw

