/- structs, parts, conversions, function values, nil checks. -/
import Derived.Test.YtemfpemejagndaaFwB
set_option autoImplicit false
set_option linter.unusedVariables false
set_option linter.unusedSimpArgs false
namespace Go.Proofs.Ytemfpemejagndaa.Fw
open Go Go.RowKit Go.WideShapes

section
variable {P : Program} {t : TypeId} {ti : TI} {i : TypeInfo} {d : TypeDesc} {z : Value} {c : Ctx} {fr : Frs} {w : World}

theorem TFacts.structK (F : TFacts P t ti i d z) (hk : ti.kind = .struct) : ∃ fs, d = .struct fs ∧ fieldsB P fs.toList ti.fields = true := by
 have h := F.kind
 have h2 := F.struct
 rw [hk] at h
 cases d <;> simp [kindB] at h
 exact ⟨_, rfl, h2⟩
theorem fields_places {P : Program} : ∀ {fs : List Field} {r : List (Nat × Nat × Bool)}, fieldsB P fs r = true → fs.mapM (fun f => (P.info? f.type).map fun i => (f.offset, i.size)) = some (r.map fun x => (x.1, x.2.1))
 | [], [], _ => rfl
 | f :: fs, (o, n, g) :: r, h => by
  simp only [fieldsB, Bool.and_eq_true, beq_iff_eq] at h
  obtain ⟨⟨h1, h2, h3, _⟩, h4⟩ := h
  obtain ⟨j, hj⟩ := Option.isSome_iff_exists.1 h3
  have hn : j.size = n := by simpa [Program.cellsOf, hj] using h2
  simp [List.mapM_cons, hj, fields_places h4, h1, hn]
 | [], _ :: _, h => by cases h
 | _ :: _, [], h => by cases h
theorem s_build (F : TFacts P t ti i d z) {ks : List Nat} {vs : List Value} {xs : List AV} (hkl : ks.length = xs.length) (hn : vs.length = xs.length) (hr : ∀ j (h : j < xs.length), VRel c (vs.getD j default) (xs[j])) {K : AV → Prop} (h : abuildT ti ks xs K) :
  ∃ v r, (Instr.build t (ks.zip vs).toArray).run P w = .ok v w ∧ VRel c v r ∧ K r := by
 unfold abuildT at h
 split at h
 ·rename_i hk
  obtain ⟨fs, rfl, hfs⟩ := F.structK hk
  obtain ⟨h1, h2, h3⟩ := zrsB_rel (c := c) F.zcells
  obtain ⟨out, cs', k1, k2, k3, k4, k5⟩ := s_build_go (c := c) (ti := ti) (place := fun k => ((ti.fields.map fun x => (x.1, x.2.1)).toArray)[k]?) (vs := vs) (cells := z.cells) (fun k o n g hf => by simp [hf]) (by simp [hkl, hn]) (fun j hj => by
   have := hr j (by simp [hkl] at hj; omega)
   simpa using this) (by simpa using h1) h2 h3 h
  refine ⟨.agg out.toArray, _, run_build w t _ _ ?_, .agg out cs' k2 k3 k4, k5⟩
  unfold Program.built
  rw [F.info, F.und]
  simp only [F.zero, fields_places hfs]
  rw [← k1]
  congr 1
  apply List.ext_getElem?
  intro j
  simp only [List.getElem?_map, List.getElem?_zip_eq_some, List.zip_map_left]
  by_cases hj : j < xs.length
  ·simp [List.zip, List.zipWith, List.getElem?_zipWith, List.getElem?_eq_getElem (show j < ks.length by omega), List.getElem?_eq_getElem (show j < vs.length by omega), List.getElem?_eq_getElem hj]
  ·simp [List.zip, List.getElem?_zipWith, List.getElem?_eq_none (show ks.length ≤ j by omega), List.getElem?_eq_none (show vs.length ≤ j by omega)]
 ·exact h.elim
/-! ### parts -/
def afieldV (ti : TI) (x : AV) (f : Nat) (K : AV → Prop) : Prop := match ti.kind, ti.fields[f]? with
 | .struct, some (o, n, g) => match x with
  | .agg cs => match g with
   | true => match Nat.ble (o + n) cs.length with | true => K (.agg ((cs.drop o).take n)) | false => False
   | false => match cs[o]? with | some c => K c | none => False
  | .d (.agg cs) => match g with
   | true => match Nat.ble (o + n) cs.length with | true => K (.d (.agg ((cs.drop o).take n))) | false => False
   | false => match cs[o]? with | some c => K (.d c) | none => False
  | _ => False
 | _, _ => False
theorem run_isAgg' {t : TypeId} {e : TypeDesc} (h : P.underlying t = some e) : (isAgg t).run P w = .ok (aggB e) w := by
 unfold isAgg
 simp only [Sem.run_bind, run_underlying h, Result.andThen_ok]
 cases e <;> rfl
theorem run_part {t : TypeId} {e : TypeDesc} {j : TypeInfo} (h : P.underlying t = some e) (hi : P.info? t = some j) (cs : Array Value) (off : Nat) :
  (part t cs off).run P w = if aggB e = true then .ok (.agg (cs.extract off (off + j.size))) w else match cs[off]? with | some v => .ok v w | none => .halt (.stuck "part: no such cell") w := by
 unfold part
 simp only [Sem.run_bind, run_isAgg' h, Result.andThen_ok]
 split
 ·simp [sizeOf, typeInfo, hi]
 ·cases cs[off]? <;> simp [stuck, Sem.run]
theorem s_fieldV (F : TFacts P t ti i d z) {v : Value} {x : AV} {f : Nat} (hx : VRel c v x) {K : AV → Prop} (h : afieldV ti x f K) :
  ∃ v' r, (Instr.field t v f).run P w = .ok v' w ∧ VRel c v' r ∧ K r := by
 unfold afieldV at h
 split at h
 ·rename_i o n g hk hf
  obtain ⟨fs, fd, rfl, h1, h2, h3, ⟨j, h4, h5⟩, e, h6, h7⟩ := F.struct_field hf
  have hrun : ∀ cs : Array Value, (Instr.field t (.agg cs) f).run P w = (part fd.type cs fd.offset).run P w := fun cs => by
   unfold Instr.field
   simp only [Sem.run_bind, F.run_underlying, Result.andThen_ok, h1, asAgg, Sem.run_pure]
  have key : ∀ (vs : List Value), (Instr.field t (.agg vs.toArray) f).run P w = if g = true then .ok (.agg ((vs.drop o).take n).toArray) w else match vs[o]? with | some v => .ok v w | none => .halt (.stuck "part: no such cell") w := fun vs => by
   rw [hrun, run_part h6 h4, h7, h2, h5]
   split
   ·congr 2; apply Array.ext'; simp [List.extract_eq_take_drop]
   ·simp
  split at h
  ·rename_i cs
   cases hx with | agg vs _ hn hl hr =>
   rw [key]
   split at h
   ·split at h
    ·rename_i hle
     have hle := Nat.le_of_ble_eq_true hle
     refine ⟨_, _, if_pos rfl, .agg _ _ (by simp [hn]) (fun q hq => hl q (List.mem_of_mem_drop (List.mem_of_mem_take hq))) (fun j hj => ?_), h⟩
     have hj' : j < n ∧ o + j < cs.length := by simp at hj; omega
     have q1 := hr (o + j) hj'.2
     have e1 : ((vs.drop o).take n).getD j default = vs.getD (o + j) default := by
      simp only [List.getD_eq_getElem?_getD, List.getElem?_take, if_pos hj'.1, List.getElem?_drop]
     rw [e1]
     simpa [List.getElem_take, List.getElem_drop] using q1
    ·exact h.elim
   ·split at h
    ·rename_i x hx
     obtain ⟨hlt, rfl⟩ := List.getElem?_eq_some_iff.1 hx
     refine ⟨_, _, ?_, hr o hlt, h⟩
     rw [if_neg (by simp), getD_some (show o < vs.length by omega)]
    ·exact h.elim
  ·rename_i cs
   cases hx with | d _ _ hx =>
   cases hx with | agg vs _ hn hl hr =>
   rw [key]
   split at h
   ·split at h
    ·rename_i hle
     have hle := Nat.le_of_ble_eq_true hle
     refine ⟨_, _, if_pos rfl, .d _ _ (.agg _ _ (by simp [hn]) (fun q hq => hl q (List.mem_of_mem_drop (List.mem_of_mem_take hq))) (fun j hj => ?_)), h⟩
     have hj' : j < n ∧ o + j < cs.length := by simp at hj; omega
     have q1 := hr (o + j) hj'.2
     have e1 : ((vs.drop o).take n).getD j default = vs.getD (o + j) default := by
      simp only [List.getD_eq_getElem?_getD, List.getElem?_take, if_pos hj'.1, List.getElem?_drop]
     rw [e1]
     simpa [List.getElem_take, List.getElem_drop] using q1
    ·exact h.elim
   ·split at h
    ·rename_i x hx
     obtain ⟨hlt, rfl⟩ := List.getElem?_eq_some_iff.1 hx
     refine ⟨_, _, ?_, .d _ _ (hr o hlt), h⟩
     rw [if_neg (by simp), getD_some (show o < vs.length by omega)]
    ·exact h.elim
  ·exact h.elim
 ·exact h.elim
def aextract (x : AV) (k : Nat) (K : AV → Prop) : Prop := match x with
 | .d (.tuple vs) => match vs[k]? with | some v => K (.d v) | none => False
 | .tuple vs => match vs[k]? with | some v => K v | none => False
 | _ => False
theorem s_extract {v : Value} {x : AV} {k : Nat} (hx : VRel c v x) {K : AV → Prop} (h : aextract x k K) : ∃ v' r, (Instr.extract v k).run P w = .ok v' w ∧ VRel c v' r ∧ K r := by
 unfold aextract at h
 split at h
 ·split at h
  ·rename_i vs _ y hy
   obtain ⟨hlt, rfl⟩ := List.getElem?_eq_some_iff.1 hy
   cases hx with | d _ _ hx =>
   cases hx with | tuple us _ hn hr =>
   refine ⟨_, _, ?_, .d _ _ (hr k hlt), h⟩
   simp only [Instr.extract, List.getElem?_toArray, getD_some (show k < us.length by omega), Sem.run_pure]
  ·exact h.elim
 ·split at h
  ·rename_i vs _ y hy
   obtain ⟨hlt, rfl⟩ := List.getElem?_eq_some_iff.1 hy
   cases hx with | tuple us _ hn hr =>
   refine ⟨_, _, ?_, hr k hlt, h⟩
   simp only [Instr.extract, List.getElem?_toArray, getD_some (show k < us.length by omega), Sem.run_pure]
  ·exact h.elim
 ·exact h.elim
def aindexV (ti : TI) (x xi : AV) (K : AV → Prop) : Prop := match ti.kind with
 | .str => match x, xi with
  | .d (.str b), .d (.int _ n) => ∃ (k : Nat) (q : UInt8), n = k ∧ b[k]? = some q ∧ K (.d (.int .u8 q.toNat))
  | _, _ => False
 | _ => False
theorem s_indexV (F : TFacts P t ti i d z) {v vi : Value} {x xi : AV} (hx : VRel c v x) (hi : VRel c vi xi) {K : AV → Prop} (h : aindexV ti x xi K) :
  ∃ v' r, (Instr.index t v vi).run P w = .ok v' w ∧ VRel c v' r ∧ K r := by
 unfold aindexV at h
 split at h
 ·rename_i hk
  have hd := F.und_str hk
  subst hd
  split at h
  ·obtain ⟨k, q, rfl, hq, h⟩ := h
   cases hx with | d _ _ hx =>
   cases hx
   cases hi with | d _ _ hi =>
   cases hi
   refine ⟨_, _, ?_, .d _ _ (.int _ _), h⟩
   unfold Instr.index
   simp [asIntOf, F.run_underlying, hq]
  ·exact h.elim
 ·exact h.elim
def aconv (tis tid : TI) (x : AV) (K : AV → Prop) : Prop := match tis.kind, tid.kind with
 | .int _, .int k => match x with
  | .d (.int _ n) => arith k n K
  | _ => False
 | .str, .str => match x with
  | .d (.str s) => K (.d (.str s))
  | _ => False
 | _, _ => False
theorem s_conv {t' : TypeId} {tid : TI} {i' : TypeInfo} {d' : TypeDesc} {z' : Value} (F : TFacts P t ti i d z) (F' : TFacts P t' tid i' d' z') {v : Value} {x : AV} (hx : VRel c v x) {K : AV → Prop} (h : aconv ti tid x K) :
  ∃ v' r, (convert t t' v).run P w = .ok v' w ∧ VRel c v' r ∧ K r := by
 unfold aconv at h
 split at h
 ·rename_i k0 k hk hk'
  split at h
  ·obtain ⟨r, rfl, h⟩ := h
   cases hx with | d _ _ hx =>
   cases hx
   have h1 := F'.kind
   rw [hk'] at h1
   cases d' <;> simp [kindB] at h1
   subst h1
   have h2 := F.kind
   rw [hk] at h2
   cases d <;> simp [kindB] at h2
   refine ⟨_, _, ?_, .d _ _ (.int _ _), h⟩
   unfold convert
   simp [F.run_underlying, F'.run_underlying, Conv.intToInt]
  ·exact h.elim
 ·rename_i hk hk'
  split at h
  ·cases hx with | d _ _ hx =>
   cases hx
   have h1 := F'.und_str hk'
   have h2 := F.und_str hk
   subst h1; subst h2
   refine ⟨_, _, ?_, .d _ _ (.str _), h⟩
   unfold convert
   simp [F.run_underlying, F'.run_underlying]
  ·exact h.elim
 ·exact h.elim
def ifaceK (t : TypeId) (x : AV) (K : AV → Prop) : Prop := match x with
 | .d x => K (.d (.iface t x))
 | x => K (.iface t x)
def aiface (ti : TI) (t : TypeId) (x : AV) (K : AV → Prop) : Prop := match ti.kind with
 | .iface _ => False
 | .other => False
 | _ => ifaceK t x K
theorem s_iface (F : TFacts P t ti i d z) {v : Value} {x : AV} (hx : VRel c v x) {K : AV → Prop} (h : aiface ti t x K) :
  ∃ v' r, (Instr.makeInterface t v).run P w = .ok v' w ∧ VRel c v' r ∧ K r := by
 have hne : ti.kind ≠ .other ∧ ∀ b, ti.kind ≠ .iface b := by
  unfold aiface at h
  constructor
  ·intro e; rw [e] at h; exact h
  ·intro b e; rw [e] at h; exact h
 have hrun : (Instr.makeInterface t v).run P w = .ok (.iface t v) w := by
  unfold Instr.makeInterface
  simp only [Sem.run_bind, F.run_underlying, Result.andThen_ok]
  have hk := F.kind
  cases d with
  | interface ms =>
   exfalso
   cases hkk : ti.kind with
   | other => exact hne.1 hkk
   | iface b => exact hne.2 b hkk
   | _ => rw [hkk] at hk; simp [kindB] at hk
  | _ => rfl
 have hK : ifaceK t x K := by
  unfold aiface at h
  cases hkk : ti.kind with
  | other => exact absurd hkk hne.1
  | iface b => exact absurd hkk (hne.2 b)
  | _ => rw [hkk] at h; exact h
 unfold ifaceK at hK
 split at hK
 ·cases hx with | d _ _ hx => exact ⟨_, _, hrun, .d _ _ (.iface t v _ hx), hK⟩
 ·exact ⟨_, _, hrun, .iface t v _ hx, hK⟩
def anilCheck (x : AV) (K : AV → Prop) : Prop := match x with
 | .ptr a b e => K (.ptr a b e)
 | .eptr a b e f => K (.eptr a b e f)
 | .pel a b => K (.pel a b)
 | .vp a b => K (.vp a b)
 | .d (.ptr y) => K (.d (.ptr y))
 | .func (.func f) a b => K (.func (.func f) a b)
 | _ => False
end
end Go.Proofs.Ytemfpemejagndaa.Fw

