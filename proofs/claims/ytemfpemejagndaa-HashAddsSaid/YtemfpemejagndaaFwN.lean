/- What the row hands in, as pure data. -/
import Derived.Test.YtemfpemejagndaaFwM
import Derived.ProofKit
set_option autoImplicit false
set_option linter.unusedVariables false
set_option linter.unusedSimpArgs false
namespace Go.Proofs.Ytemfpemejagndaa.Fw
open Go Go.RowKit Go.WideShapes Go.ChangeShapes

/-- all cells that are there -/
def known (W : World) : Imm where
 cell b j := W.cell? ⟨b, j, none⟩
 obj _ := none
 var b := match W.heap[b]? with | some (.cells _ _ (0, 0)) => true | _ => false
 base := 0
 wr _ := false
theorem known_models (W : World) : Models W (known W) := by
 refine ⟨fun _ _ _ h => h, fun _ _ h => (by cases h), fun b h => ?_, fun b h => (by cases h)⟩
 simp only [known] at h
 split at h
 ·rename_i cc t he; exact ⟨cc, t, he⟩
 ·cases h
def aggT (P : Program) (t : TypeId) : Bool := match P.underlying t with | some d => aggB d | none => false
def ShapeF (sh : TypeId → List D → Prop) : List Field → List D → Prop
 | [], xs => xs = []
 | f :: r, xs => ∃ p q, xs = p ++ q ∧ sh f.type p ∧ ShapeF sh r q
/-- the cells of a variable of type t -/
def Shape (P : Program) : Nat → TypeId → List D → Prop
 | 0, _, _ => False
 | n + 1, t, xs => match P.underlying t with
  | some .bool => ∃ b, xs = [.bool b]
  | some (.int k) => ∃ m, xs = [.int k m] ∧ (Lit.int k m).wf = true
  | some .string => ∃ s, xs = [.str s] ∧ s.size ≤ maxLen
  | some (.slice e) => ∃ ys, xs = [.slice (P.cellsOf e) ys] ∧ ys.length ≤ maxLen ∧ ∀ y ∈ ys, y.isAgg = aggT P e ∧ Shape P n e y.cells
  | some (.struct fs) => ShapeF (Shape P n) fs.toList xs
  | _ => False
def fieldsAt (P : Program) (S : List TypeId) : Nat → List Field → Option Nat
 | o, [] => some o
 | o, f :: r => match f.offset == o && S.contains f.type with | true => fieldsAt P S (o + P.cellsOf f.type) r | false => none
def shutB (P : Program) (S : List TypeId) (t : TypeId) : Bool := match P.underlying t with
 | some .bool => true
 | some (.int _) => true
 | some .string => true
 | some (.slice e) => S.contains e && decide (0 < P.cellsOf e)
 | some (.struct fs) => fieldsAt P S 0 fs.toList == some (P.cellsOf t)
 | _ => false
section
variable {H : Type} {enc : TypeId × Value → H} {P : Program} {W : World} {spare : Nat → Bool} {held : Bool}

theorem cell_spot {a : Addr} {v : Value} (h : W.cell? a = some v) : a.spot = none := by
 unfold World.cell? at h
 split at h
 ·split at h
  ·cases h
  ·rename_i hs
   cases hh : a.spot with
   | none => rfl
   | some s => simp [hh] at hs
 ·cases h
theorem addr_plus {a : Addr} (h : a.spot = none) (n : Nat) : a.add n = ⟨a.block, a.off + n, none⟩ := by
 obtain ⟨b, o, s⟩ := a
 simp only at h
 subst h
 unfold Addr.add
 split
 ·rename_i h; subst h; rfl
 ·rfl
/-- the outcome of reading cells cs -/
def Reads (P : Program) (W : World) (n : Nat) (t : TypeId) (cs : List Value) : Prop :=
 ∃ xs, Shape P n t xs ∧ xs.length = cs.length ∧ (∀ x ∈ xs, x.leaf = true) ∧ ∀ j (h : j < xs.length), DRel (known W) (cs.getD j default) xs[j]
theorem reads_fields {S : List TypeId} {n : Nat} {cs : List Value} (ih : ∀ t ∈ S, ∀ (cs : List Value) (x : DataW H × List MemPlace), DataW.trod enc P W 0 spare held n t cs = some x → Reads P W n t cs) :
  ∀ (fs : List Field) (o e : Nat), fieldsAt P S o fs = some e → e = cs.length → (∀ f ∈ fs, ∃ x, DataW.trod enc P W 0 spare held n f.type ((cs.drop f.offset).take (P.cellsOf f.type)) = some x) →
   o ≤ e ∧ ∃ xs, ShapeF (Shape P n) fs xs ∧ xs.length = cs.length - o ∧ (∀ x ∈ xs, x.leaf = true) ∧ ∀ j (h : j < xs.length), DRel (known W) ((cs.drop o).getD j default) xs[j]
 | [], o, e, he, hc, hf => by
  simp only [fieldsAt, Option.some.injEq] at he
  subst he
  exact ⟨Nat.le_refl _, [], rfl, by simp [hc], by simp, fun j h => by simp at h⟩
 | f :: r, o, e, he, hc, hf => by
  simp only [fieldsAt] at he
  split at he
  ·rename_i hb
   simp only [Bool.and_eq_true, beq_iff_eq, List.contains_iff_mem] at hb
   obtain ⟨ho, hS⟩ := hb
   obtain ⟨h1, q, q1, q2, q3, q4⟩ := reads_fields ih r (o + P.cellsOf f.type) e he hc fun g hg => hf g (by simp [hg])
   obtain ⟨x, hx⟩ := hf f (by simp)
   obtain ⟨p, p1, p2, p3, p4⟩ := ih f.type hS _ x hx
   rw [ho] at p2 p4
   have hp : p.length = P.cellsOf f.type := by rw [p2]; simp; omega
   refine ⟨by omega, p ++ q, ⟨p, q, rfl, p1, q1⟩, by simp [hp, q2]; omega, fun y hy => ?_, fun j hj => ?_⟩
   ·rcases List.mem_append.1 hy with hy | hy
    ·exact p3 y hy
    ·exact q3 y hy
   ·rw [List.getElem_append]
    split
    ·rename_i hjp
     have := p4 j hjp
     rw [List.getD_eq_getElem?_getD] at this ⊢
     rw [List.getElem?_take, if_pos (by omega)] at this
     exact this
    ·rename_i hjp
     have := q4 (j - p.length) (by simp at hj; omega)
     rw [List.getD_eq_getElem?_getD] at this ⊢
     rw [List.getElem?_drop] at this ⊢
     rw [show o + j = o + P.cellsOf f.type + (j - p.length) by omega]
     exact this
  ·cases he
theorem agg_cells {x : D} (h : x.isAgg = false) : x.cells = [x] := by cases x <;> first | rfl | cases h
theorem reads {S : List TypeId} (hS : ∀ t ∈ S, shutB P S t = true) : ∀ (n : Nat) (t : TypeId), t ∈ S → ∀ (cs : List Value) (x : DataW H × List MemPlace), DataW.trod enc P W 0 spare held n t cs = some x → Reads P W n t cs := by
 intro n
 induction n with
 | zero => intro t _ cs x h; simp [DataW.trod] at h
 | succ n ih =>
  intro t ht cs x h
  have hsh := hS t ht
  unfold shutB at hsh
  have hShape : ∀ xs, Shape P (n + 1) t xs = (match P.underlying t with
  | some .bool => ∃ b, xs = [.bool b]
  | some (.int k) => ∃ m, xs = [.int k m] ∧ (Lit.int k m).wf = true
  | some .string => ∃ s, xs = [.str s] ∧ s.size ≤ maxLen
  | some (.slice e) => ∃ ys, xs = [.slice (P.cellsOf e) ys] ∧ ys.length ≤ maxLen ∧ ∀ y ∈ ys, y.isAgg = aggT P e ∧ Shape P n e y.cells
  | some (.struct fs) => ShapeF (Shape P n) fs.toList xs
  | _ => False) := fun xs => by simp only [Shape]
  unfold Reads
  simp only [hShape]
  split at hsh
  ·rename_i hu
   obtain ⟨b, rfl, _⟩ := DataW.trod_bool hu h
   exact ⟨[.bool b], ⟨b, rfl⟩, rfl, by simp [D.leaf], fun j hj => by cases j with | zero => exact .bool b | succ j => simp at hj⟩
  ·rename_i k hu
   obtain ⟨m, rfl, _, hw⟩ := DataW.trod_int hu h
   exact ⟨[.int k m], ⟨m, rfl, hw⟩, rfl, by simp [D.leaf], fun j hj => by cases j with | zero => exact .int k m | succ j => simp at hj⟩
  ·rename_i hu
   obtain ⟨s, rfl, _, hw⟩ := DataW.trod_string hu h
   exact ⟨[.str s], ⟨s, rfl, hw⟩, rfl, by simp [D.leaf], fun j hj => by cases j with | zero => exact .str s | succ j => simp at hj⟩
  ·rename_i e hu
   simp only [Bool.and_eq_true, decide_eq_true_eq, List.contains_iff_mem] at hsh
   obtain ⟨heS, hpos⟩ := hsh
   rcases DataW.trod_slice hu h with ⟨rfl, _⟩ | ⟨a, len, cap, elems, rest, m, hm, rfl, _, _, hle, hmax, hlen, hel, _, _⟩
   ·refine ⟨[.slice (P.cellsOf e) []], ⟨[], rfl, by simp, by simp⟩, rfl, by simp [D.leaf], fun j hj => ?_⟩
    cases j with
    | zero => exact .slice none 0 _ [] 0 0 (fun _ => default) (by simp) (by simp) (fun h => absurd rfl h) (fun _ => ⟨Nat.zero_le _, fun h => absurd h (Nat.lt_irrefl 0)⟩) (fun j hj => by simp [flat] at hj) (by simp [flat]) (fun j hj => by simp [flat] at hj)
    | succ j => simp at hj
   ·have hm : m = n := by omega
    subst hm
    subst hlen
    have hspot0 : 0 < elems.length → a.spot = none := by
     intro hi
     have h1 := hel 0 hi
     rw [List.getElem?_eq_getElem hi] at h1
     obtain ⟨zs, hz, h2⟩ := Option.bind_eq_some_iff.1 h1
     obtain ⟨_, hzl, hzc⟩ := World.cells?_some hz
     have := hzc 0 hpos
     rw [List.getElem?_eq_getElem (by omega)] at this
     simp only [Nat.zero_mul, Addr.add, if_true] at this
     exact cell_spot this
    -- one element
    have one : ∀ i, i < elems.length → ∃ y : D, y.isAgg = aggT P e ∧ Shape P m e y.cells ∧ y.cells.length = P.cellsOf e ∧ (∀ q ∈ y.cells, q.leaf = true) ∧ a.spot = none ∧
      ∀ k (hk : k < y.cells.length), ∃ v, W.cell? ⟨a.block, a.off + (i * P.cellsOf e + k), none⟩ = some v ∧ DRel (known W) v y.cells[k] := by
     intro i hi
     have h1 := hel i hi
     rw [List.getElem?_eq_getElem hi] at h1
     obtain ⟨zs, hz, h2⟩ := Option.bind_eq_some_iff.1 h1
     obtain ⟨_, hzl, hzc⟩ := World.cells?_some hz
     obtain ⟨xs, s1, s2, s3, s4⟩ := ih e heS zs _ h2
     have hspot : a.spot = none := hspot0 (by omega)
     have hread : ∀ k (hk : k < xs.length), ∃ v, W.cell? ⟨a.block, a.off + (i * P.cellsOf e + k), none⟩ = some v ∧ DRel (known W) v xs[k] := by
      intro k hk
      have h3 := hzc k (by omega)
      rw [List.getElem?_eq_getElem (by omega)] at h3
      refine ⟨zs[k], ?_, ?_⟩
      ·rw [← h3, Addr.add_add, addr_plus hspot]
      ·have := s4 k hk
       simpa [List.getD_eq_getElem?_getD, List.getElem?_eq_getElem (show k < zs.length by omega)] using this
     cases hagg : aggT P e with
     | true => exact ⟨.agg xs, rfl, s1, by show xs.length = _; omega, s3, hspot, hread⟩
     | false =>
      obtain ⟨y, rfl⟩ : ∃ y, xs = [y] := by
       have hse := hS e heS
       unfold shutB at hse
       unfold aggT at hagg
       cases m with
       | zero => exact s1.elim
       | succ m =>
        simp only [Shape] at s1
        split at s1
        ·obtain ⟨b, rfl⟩ := s1; exact ⟨_, rfl⟩
        ·obtain ⟨b, rfl, _⟩ := s1; exact ⟨_, rfl⟩
        ·obtain ⟨b, rfl, _⟩ := s1; exact ⟨_, rfl⟩
        ·obtain ⟨b, rfl, _⟩ := s1; exact ⟨_, rfl⟩
        ·rename_i hu'; rw [hu'] at hagg; cases hagg
        ·exact s1.elim
      have hy : y.isAgg = false := by
       have := s3 y (by simp)
       cases y <;> first | rfl | cases this
      have hyc := agg_cells hy
      exact ⟨y, hy, by rw [hyc]; exact s1, by rw [hyc]; omega, by rw [hyc]; exact s3, hspot, by rw [hyc]; exact hread⟩
    let f : Nat → D := fun i => if h : i < elems.length then (one i h).choose else default
    have hf : ∀ i (h : i < elems.length), f i = (one i h).choose := fun i h => dif_pos h
    let ys : List D := (List.range elems.length).map f
    have hyl : ys.length = elems.length := by simp [ys]
    have hget : ∀ i (h : i < elems.length), ys[i]? = some (one i h).choose := fun i h => by
     simp only [ys, List.getElem?_map, List.getElem?_range h, Option.map_some, hf i h]
    have hmem : ∀ y ∈ ys, ∃ i, ∃ h : i < elems.length, y = (one i h).choose := fun y hy => by
     obtain ⟨i, hi, rfl⟩ := List.mem_map.1 hy
     have hi := List.mem_range.1 hi
     exact ⟨i, hi, hf i hi⟩
    have hsz : ∀ y ∈ ys, y.cells.length = P.cellsOf e := fun y hy => by
     obtain ⟨i, hi, rfl⟩ := hmem y hy
     exact (one i hi).choose_spec.2.2.1
    have hfl := flat_len hsz
    refine ⟨[.slice (P.cellsOf e) ys], ⟨ys, rfl, by omega, fun y hy => ?_⟩, rfl, by simp [D.leaf], fun j hj => ?_⟩
    ·obtain ⟨i, hi, rfl⟩ := hmem y hy
     exact ⟨(one i hi).choose_spec.1, (one i hi).choose_spec.2.1⟩
    ·cases j with
     | succ j => simp at hj
     | zero =>
      show DRel (known W) (.slice (some a) elems.length cap) (.slice (P.cellsOf e) ys)
      rw [← hyl]
      have hcell : ∀ j (hj : j < (flat ys).length), ∃ v, W.cell? ⟨a.block, a.off + j, none⟩ = some v ∧ DRel (known W) v (flat ys)[j] := by
       intro j hj
       rw [hfl, hyl] at hj
       have hi : j / P.cellsOf e < elems.length := Nat.div_lt_of_lt_mul (by rw [Nat.mul_comm]; exact hj)
       have hk : j % P.cellsOf e < P.cellsOf e := Nat.mod_lt _ hpos
       have hj' : j / P.cellsOf e * P.cellsOf e + j % P.cellsOf e = j := Nat.div_add_mod' _ _
       have h1 := flat_get hsz _ _ _ (hget _ hi) hk
       have hsp := (one _ hi).choose_spec
       obtain ⟨v, hv, hr⟩ := hsp.2.2.2.2.2 (j % P.cellsOf e) (by rw [hsp.2.2.1]; exact hk)
       rw [hj'] at hv h1
       refine ⟨v, hv, ?_⟩
       rw [List.getElem?_eq_getElem (by rw [hfl, hyl]; exact hj), List.getElem?_eq_getElem (by rw [hsp.2.2.1]; exact hk)] at h1
       injection h1 with h1
       rw [h1]
       exact hr
      refine .slice _ cap _ ys a.block a.off (fun j => (W.cell? ⟨a.block, a.off + j, none⟩).getD default) (by have hml : maxLen = 9223372036854775807 := rfl; omega) hsz (fun hne => ?_) (fun _ => ⟨Nat.zero_le _, fun h => absurd h (Nat.lt_irrefl 0)⟩) (fun j hj => ?_) (fun q hq => ?_) fun j hj => ?_
      ·have hpos' : 0 < elems.length := by
        rw [← hyl]; exact List.length_pos_iff.2 hne
       have hspot := (one 0 hpos').choose_spec.2.2.2.2.1
       obtain ⟨ab, ao, as'⟩ := a
       simp only at hspot
       subst hspot
       rfl
      ·obtain ⟨v, hv, _⟩ := hcell j hj
       show W.cell? _ = _
       rw [hv]; rfl
      ·obtain ⟨y, hy, hq⟩ := List.mem_flatMap.1 hq
       obtain ⟨i, hi, rfl⟩ := hmem y hy
       exact (one i hi).choose_spec.2.2.2.1 q hq
      ·obtain ⟨v, hv, hr⟩ := hcell j hj
       rw [hv]; exact hr
  ·rename_i fs hu
   obtain ⟨xs, m, hm, _, hcl, hxl, hf⟩ := DataW.trod_struct hu h
   have hm : m = n := by omega
   subst hm
   have hfs : fieldsAt P S 0 fs.toList = some (P.cellsOf t) := by simpa using hsh
   obtain ⟨_, ys, y1, y2, y3, y4⟩ := reads_fields (cs := cs) (fun t ht cs x h => ih t ht cs x h) fs.toList 0 _ hfs hcl.symm fun f hfm => by
    obtain ⟨i, hi, rfl⟩ := List.mem_iff_getElem.1 hfm
    have hi' : i < fs.size := by simpa using hi
    have := hf i fs[i] (by simp [hi'])
    refine ⟨xs[i]'(by omega), ?_⟩
    rw [List.getElem?_eq_getElem (by omega)] at this
    simpa using this
   exact ⟨ys, y1, by simpa using y2, y3, by simpa using y4⟩
  ·cases hsh
theorem reads_agg {S : List TypeId} (hS : ∀ t ∈ S, shutB P S t = true) {t : TypeId} {fs : Array Field} (ht : t ∈ S) (hu : P.underlying t = some (.struct fs)) {r : Reach} {b0 : Nat} {v : Value} {d : DataW H} {ps : List MemPlace}
  (hval : Value.okWide P W r b0 t v) (h : DataW.Trod enc P W 0 spare held t v d ps) : ∃ n xs, Shape P n t xs ∧ DRel (known W) v (.agg xs) := by
 obtain ⟨fuel, h⟩ := h
 unfold Value.okWide at hval
 rw [hu] at hval
 obtain ⟨cs, rfl, hc, _⟩ := hval
 obtain ⟨xs, h1, h2, h3, h4⟩ := reads hS fuel t ht _ _ h
 refine ⟨fuel, xs, h1, ?_⟩
 have := DRel.agg (H := known W) cs.toList xs (by simpa [Value.cells] using h2.symm) h3 (by simpa [Value.cells] using h4)
 simpa using this
end
end Go.Proofs.Ytemfpemejagndaa.Fw

