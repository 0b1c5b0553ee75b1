/- The row of a law, from the contract of its function. -/
import Derived.Test.YtemfpemejagndaaFwN
set_option autoImplicit false
set_option linter.unusedVariables false
set_option linter.unusedSimpArgs false
namespace Go.Proofs.Ytemfpemejagndaa.Fw
open Go Go.RowKit Go.WideShapes Go.ChangeShapes

section
variable {H : Type} {enc : TypeId × Value → H} {P : Program} {W W' : World}

theorem trodAll_stays (hl : laidOutB P = true) {sp : Nat → Bool} : ∀ {ts : List TypeId} {vs : List Value} {ds : List (DataW H)} {ps : List MemPlace}, (∀ t ∈ ts, P.readableRec t = true ∧ t < P.types.size) →
  DataW.TrodAll enc P W 0 (fun _ => true) true ts vs ds ps → (∀ x ∈ ps, W.sameAt W' x ∧ sp x.block = true) → DataW.TrodAll enc P W' 0 sp true ts vs ds ps
 | [], vs, ds, ps, ht, h, hs => by
  obtain ⟨rfl, rfl, rfl⟩ := trodAll_nil h
  rfl
 | t :: ts, vs, ds, ps, ht, h, hs => by
  obtain ⟨v, vs', d, ds', p, q, rfl, rfl, rfl, h1, h2⟩ := trodAll_cons h
  obtain ⟨k1, k2⟩ := ht t (by simp)
  exact ⟨p, q, WideElems.Trod_stays hl k1 k2 h1 (fun x hx => (hs x (by simp [hx])).1) (fun x hx => (hs x (by simp [hx])).2), trodAll_stays hl (fun t ht' => ht t (by simp [ht'])) h2 fun x hx => hs x (by simp [hx]), rfl⟩
theorem post_law (hl : laidOutB P = true) {f : Func} (hparams : ∀ t ∈ f.params.toList, P.readableRec t = true ∧ t < P.types.size) {s : ChangeSpec} (hvars : s.vars = []) {tb : TypeId} (hres : f.resultTypes = #[tb]) (hb : P.underlying tb = some .bool)
  {args : Array Value} {ds gs : List (DataW H)} {before : List MemPlace} (hW : DataW.Whole enc P f.params.toList s.vars false W args.toList ds gs before) (hfn : s.fn H (ds ++ gs) = { results := [.lit (.bool true)], args := ds })
  (hbl : Below W.heap.size W W') : s.post enc P f false true false false W args (.bool true) W' := by
 have hlt := hW.lt
 have hW0 := hW
 obtain ⟨p, q, hA, hV, rfl, hz, hn⟩ := hW
 rw [hvars] at hV
 obtain ⟨rfl, rfl⟩ := trodVars_none hV
 refine ⟨ds, [], p ++ [], [], p, [], hW0, ?_, ?_, ?_, ?_, fun h => by cases h⟩
 ·rw [hfn, hres]
  exact trodAll_mk1 (shut_bool hb _)
 ·rw [hfn]
  exact trodAll_stays hl hparams hA fun x hx => ⟨hbl.same (hlt x (by simp [hx])), by simpa using hlt x (by simp [hx])⟩
 ·rw [hfn, hvars]; rfl
 ·exact hbl.frame _
end
end Go.Proofs.Ytemfpemejagndaa.Fw

