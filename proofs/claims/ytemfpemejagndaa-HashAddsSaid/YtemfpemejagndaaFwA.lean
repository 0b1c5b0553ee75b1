/- lengths, cuts, literals, make, parts, conversions. -/
import Derived.Test.YtemfpemejagndaaFw9
set_option autoImplicit false
set_option linter.unusedVariables false
set_option linter.unusedSimpArgs false
namespace Go.Proofs.Ytemfpemejagndaa.Fw
open Go Go.RowKit Go.WideShapes

section
variable {P : Program} {t : TypeId} {ti : TI} {i : TypeInfo} {d : TypeDesc} {z : Value} {c : Ctx} {fr : Frs} {w : World}

theorem TFacts.und_str (F : TFacts P t ti i d z) (hk : ti.kind = .str) : d = .string := by
 have h := F.kind; rw [hk] at h; cases d <;> simp [kindB] at h; rfl
def alen (ti : TI) (x : AV) (K : AV → Prop) : Prop := match ti.kind with
 | .slice _ => match elemsO x with
  | some (_, xs) => K (.d (.int .i64 xs.length))
  | none => match x with
   | .arr _ _ _ len _ => K (.d (.int .i64 len))
   | .garr _ _ n _ => K (.d (.int .i64 n))
   | _ => False
 | .str => match x with
  | .d (.str b) => K (.d (.int .i64 b.size))
  | _ => False
 | _ => False
theorem s_len (F : TFacts P t ti i d z) {v : Value} {x : AV} (hx : VRel c v x) (ty : TypeId) {K : AV → Prop} (h : alen ti x K) :
  ∃ v' r, (Builtin.len_ #[t] ty #[v]).run P w = .ok v' w ∧ VRel c v' r ∧ K r := by
 unfold alen at h
 split at h
 ·rename_i e hk
  have hd := F.slice hk
  subst hd
  split at h
  ·rename_i sz xs he
   obtain ⟨a, cap, rfl, hxd⟩ := elemsO_rel hx he
   refine ⟨_, _, ?_, .d _ _ (.int _ _), h⟩
   simp [Builtin.len_, F.run_underlying, goInt]
  ·split at h
   ·cases hx with
    | arr cap _ _ _ _ _ e' _ _ _ hc =>
     refine ⟨_, _, ?_, .d _ _ (.int _ _), h⟩
     simp [Builtin.len_, F.run_underlying, goInt]
    | arr0 =>
     refine ⟨_, _, ?_, .d _ _ (.int _ _), h⟩
     simp [Builtin.len_, F.run_underlying, goInt]
   ·cases hx with
    | garr =>
     refine ⟨_, _, ?_, .d _ _ (.int _ _), h⟩
     simp [Builtin.len_, F.run_underlying, goInt]
    | garr0 =>
     refine ⟨_, _, ?_, .d _ _ (.int _ _), h⟩
     simp [Builtin.len_, F.run_underlying, goInt]
   ·exact h.elim
 ·rename_i hk
  have hd := F.und_str hk
  subst hd
  split at h
  ·cases hx with | d _ _ hx =>
   cases hx
   refine ⟨_, _, ?_, .d _ _ (.int _ _), h⟩
   simp [Builtin.len_, F.run_underlying, goInt]
  ·exact h.elim
 ·exact h.elim
/-! ### cuts -/
inductive ORel (c : Ctx) : Option Value → Option AV → Prop
 | none : ORel c none none
 | some (v : Value) (x : AV) (h : VRel c v x) : ORel c (some v) (some x)
theorem DRel.subO {H : Imm} {a : Option Addr} {n cap sz : Nat} {xs : List D} (h : DRel H (.slice a n cap) (.os sz xs)) {l k m : Nat} (hl : l ≤ k) (hk : k ≤ xs.length) (hm : k ≤ m) (hlm : m = l → k = l) :
  DRel H (.slice (if m = l then a else a.map (·.add (l * sz))) (k - l) (m - l)) (.os sz ((xs.take k).drop l)) := by
 have hbg := h.len_le
 obtain ⟨rfl, hcap, hsz, hlf, b, o, vs, ha, hn, hH, hr⟩ := h.row
 have hlen : ((xs.take k).drop l).length = k - l := by simp; omega
 have hmem : ∀ q ∈ (xs.take k).drop l, q ∈ xs := fun q hq => List.mem_of_mem_take (List.mem_of_mem_drop hq)
 have hsz' : ∀ q ∈ (xs.take k).drop l, q.cells.length = sz := fun q hq => hsz q (hmem q hq)
 have hlf' : ∀ y ∈ flat ((xs.take k).drop l), y.leaf = true := fun y hy => by
  obtain ⟨q, hq, hy⟩ := List.mem_flatMap.1 hy
  exact hlf y (List.mem_flatMap.2 ⟨q, hmem q hq, hy⟩)
 rw [← hlen]
 by_cases he : (xs.take k).drop l = []
 ·rw [he]
  exact .os _ (m - l) sz [] 0 0 (fun _ => default) (by simp) (by simp) (by simp) (by simp [flat]) (by simp [flat]) (by simp [flat])
 ·have hlk : l < k := by
   have : 0 < ((xs.take k).drop l).length := List.length_pos_iff.2 he
   omega
  have hne : xs ≠ [] := fun e => by subst e; simp at he
  rw [if_neg (by omega), ha hne]
  simp only [Option.map_some, addr_add]
  have hfl : (flat ((xs.take k).drop l)).length = (k - l) * sz := by rw [flat_len hsz', hlen]
  have hfx : (flat xs).length = xs.length * sz := flat_len hsz
  have hseg : ∀ j, j < (k - l) * sz → l * sz + j < xs.length * sz := fun j hj => by
   calc l * sz + j < l * sz + (k - l) * sz := by omega
    _ = (l + (k - l)) * sz := by rw [Nat.add_mul]
    _ ≤ xs.length * sz := Nat.mul_le_mul_right _ (by omega)
  have hfget : ∀ j, j < (k - l) * sz → (flat ((xs.take k).drop l))[j]? = (flat xs)[l * sz + j]? := by
   intro j hj
   have hsz0 : 0 < sz := Nat.pos_of_ne_zero fun h0 => by subst h0; simp at hj
   have hq : j / sz < k - l := (Nat.div_lt_iff_lt_mul hsz0).2 hj
   have hr' : j % sz < sz := Nat.mod_lt _ hsz0
   have hjj : j = j / sz * sz + j % sz := by rw [Nat.mul_comm]; exact (Nat.div_add_mod j sz).symm
   have hidx : l + j / sz < xs.length := by omega
   have e1 : ((xs.take k).drop l)[j / sz]? = some xs[l + j / sz] := by
    rw [List.getElem?_drop, List.getElem?_take, if_pos (by omega), List.getElem?_eq_getElem hidx]
   have h1 := flat_get hsz' (j / sz) (j % sz) _ e1 hr'
   have h2 := flat_get hsz (l + j / sz) (j % sz) _ (List.getElem?_eq_getElem hidx) hr'
   rw [← hjj] at h1
   rw [h1, ← h2, Nat.add_mul]
   congr 1; omega
  refine .os _ (m - l) sz _ b (o + l * sz) (fun j => vs.getD (l * sz + j) default) (by omega) hsz' (fun _ => rfl) (fun j hj => ?_) hlf' fun j hj => ?_
  ·rw [Nat.add_assoc]; exact hH _ (by rw [hn, hfx]; exact hseg j (by omega))
  ·have hj' : l * sz + j < (flat xs).length := by rw [hfx]; exact hseg j (by omega)
   have h1 := hr (l * sz + j) hj'
   have h2 := hfget j (by omega)
   rw [List.getElem?_eq_getElem hj, List.getElem?_eq_getElem hj'] at h2
   injection h2 with h2
   rw [h2]; exact h1
theorem DRel.isYoung {H : Imm} {a : Option Addr} {n cap sz : Nat} {xs : List D} (h : DRel H (.slice a n cap) (.slice sz xs)) {q : Addr} (hq : a = some q) (hx : xs ≠ []) : H.yg q.block := by
 cases h with | slice _ _ _ _ b o vals hcap hsz ha hy hH hl hr =>
 rw [ha hx] at hq
 injection hq with hq
 subst hq; exact hy hx
theorem DRel.toYoung {H : Imm} {a : Option Addr} {n cap sz : Nat} {xs : List D} (h : DRel H (.slice a n cap) (.os sz xs)) (hy : ∀ q, a = some q → xs ≠ [] → H.yg q.block) : DRel H (.slice a n cap) (.slice sz xs) := by
 cases h with | os _ _ _ _ b o vals hcap hsz ha hH hl hr =>
 exact .slice a cap sz xs b o vals hcap hsz ha (fun hx => hy _ (ha hx) hx) hH hl hr
theorem DRel.sub {H : Imm} {a : Option Addr} {n cap sz : Nat} {xs : List D} (h : DRel H (.slice a n cap) (.slice sz xs)) {l k m : Nat} (hl : l ≤ k) (hk : k ≤ xs.length) (hm : k ≤ m) (hlm : m = l → k = l) :
  DRel H (.slice (if m = l then a else a.map (·.add (l * sz))) (k - l) (m - l)) (.slice sz ((xs.take k).drop l)) := by
 refine (h.toOs.subO hl hk hm hlm).toYoung fun q hq hx => ?_
 have hne : xs ≠ [] := fun e => by subst e; simp at hx
 cases a with
 | none => split at hq <;> cases hq
 | some a0 =>
  have := h.isYoung rfl hne
  split at hq
  ·injection hq with hq; subst hq; exact this
  ·injection hq with hq; subst hq; (have e : (a0.add (l * sz)).block = a0.block := (by unfold Addr.add; split <;> rfl)); exact e ▸ this
theorem run_bound {x : Nat} {y : Nat} (code : BoundsCode) (k : IntKind) (h : x ≤ y) : (Instr.sliceBound (.int k x) y code).run P w = .ok x w := by
 simp [Instr.sliceBound, asIntOf, h]
theorem run_sliceAt_slice (F : TFacts P t ti i d z) {e : TypeId} (hk : ti.kind = .slice e) {a : Option Addr} {n cap l k : Nat} {lo hi : Option Value} (hlo : lo = none ∧ l = 0 ∨ lo = some (.int .i64 l)) (hhi : hi = none ∧ k = n ∨ hi = some (.int .i64 k)) (h1 : l ≤ k) (h2 : k ≤ cap) :
  (Instr.sliceAt t (.slice a n cap) lo hi none).run P w = .ok (.slice (if cap = l then a else a.map (·.add (l * ti.esz))) (k - l) (cap - l)) w := by
 have hd := F.slice hk
 subst hd
 obtain ⟨j, zz, q1, q2, _⟩ := F.elemInfo hk
 have hs : (sizeOf e).run P w = .ok ti.esz w := by simp [sizeOf, typeInfo, q1, q2]
 simp only [Instr.sliceAt, Sem.run_bind, F.run_underlying, Result.andThen_ok, Instr.slice, Instr.sliceBounds]
 rcases hlo with ⟨rfl, rfl⟩ | rfl <;> rcases hhi with ⟨rfl, rfl⟩ | rfl <;> simp [run_bound, h1, h2, hs, goInt]
theorem run_sliceAt_full (F : TFacts P t ti i d z) {e : TypeId} (hk : ti.kind = .slice e) {a : Option Addr} {n cap l k : Nat} {lo : Option Value} (hlo : lo = none ∧ l = 0 ∨ lo = some (.int .i64 l)) (h1 : l ≤ k) (h2 : k ≤ cap) :
  (Instr.sliceAt t (.slice a n cap) lo (some (.int .i64 k)) (some (.int .i64 k))).run P w = .ok (.slice (if k = l then a else a.map (·.add (l * ti.esz))) (k - l) (k - l)) w := by
 have hd := F.slice hk
 subst hd
 obtain ⟨j, zz, q1, q2, _⟩ := F.elemInfo hk
 have hs : (sizeOf e).run P w = .ok ti.esz w := by simp [sizeOf, typeInfo, q1, q2]
 simp only [Instr.sliceAt, Sem.run_bind, F.run_underlying, Result.andThen_ok, Instr.slice, Instr.sliceBounds]
 rcases hlo with ⟨rfl, rfl⟩ | rfl <;> simp [run_bound, h1, h2, hs, goInt]
theorem run_sliceAt_str (F : TFacts P t ti i d z) (hk : ti.kind = .str) {b : ByteArray} {l k : Nat} {lo hi : Option Value} (hlo : lo = none ∧ l = 0 ∨ lo = some (.int .i64 l)) (hhi : hi = none ∧ k = b.size ∨ hi = some (.int .i64 k)) (h1 : l ≤ k) (h2 : k ≤ b.size) :
  (Instr.sliceAt t (.string b) lo hi none).run P w = .ok (.string (b.extract l k)) w := by
 have hd := F.und_str hk
 subst hd
 simp only [Instr.sliceAt, Sem.run_bind, F.run_underlying, Result.andThen_ok, Instr.slice, Instr.sliceBounds]
 rcases hlo with ⟨rfl, rfl⟩ | rfl <;> rcases hhi with ⟨rfl, rfl⟩ | rfl <;> simp [run_bound, h1, h2, goInt]
theorem s_slice (F : TFacts P t ti i d z) {v : Value} {x : AV} (hx : VRel c v x) {lo hi mx : Option Value} {alo ahi amx : Option AV} (hlo : ORel c lo alo) (hhi : ORel c hi ahi) (hmx : ORel c mx amx) {K : AV → Prop} (h : aslice ti x alo ahi amx K) :
  ∃ v' r, (Instr.sliceAt t v lo hi mx).run P w = .ok v' w ∧ VRel c v' r ∧ K r := by
 have lok : ∀ {l : Nat}, loOk alo l → lo = none ∧ l = 0 ∨ lo = some (.int .i64 l) := fun {l} h => by
  cases hlo with
  | none => exact .inl ⟨rfl, h⟩
  | some v x hv => simp only [loOk] at h; subst h; cases hv with | d _ _ hv => cases hv; exact .inr rfl
 have hik : ∀ {k n : Nat}, hiOk ahi k n → hi = none ∧ k = n ∨ hi = some (.int .i64 k) := fun {k n} h => by
  cases hhi with
  | none => exact .inl ⟨rfl, h⟩
  | some v x hv => simp only [hiOk] at h; subst h; cases hv with | d _ _ hv => cases hv; exact .inr rfl
 unfold aslice at h
 split at h
 ·rename_i hk
  split at h
  ·rename_i b
   cases hx with | d _ _ hx =>
   cases hx
   obtain ⟨l, k, h1, h2, h3, h4, h5⟩ := h
   split at h5
   ·cases hmx
    exact ⟨_, _, run_sliceAt_str F hk (lok h1) (hik h2) h3 h4, .d _ _ (.str _), h5⟩
   ·exact h5.elim
  ·exact h.elim
 ·rename_i n e hk
  have hd : d = .array n e := by
   have h := F.kind; rw [hk] at h; cases d <;> simp [kindB] at h; rw [h.1, h.2]
  subst hd
  have hel := F.elem
  rw [hk] at hel
  simp only [elemB, Bool.and_eq_true, decide_eq_true_eq] at hel
  obtain ⟨j, hj⟩ := Option.isSome_iff_exists.1 hel.1
  split at h
  ·rename_i l q off
   split at h
   ·cases hlo; cases hhi; cases hmx
    cases hx with | ptr _ _ _ e' he hg =>
    have hs : (sizeOf e).run P w = .ok j.size w := by simp [sizeOf, typeInfo, hj]
    refine ⟨.slice (some ⟨e'.b, off, none⟩) n n, _, ?_, .win n l q off n e' he hg ⟨Nat.le_refl _, hel.2⟩, h⟩
    simp only [Instr.sliceAt, Sem.run_bind, F.run_underlying, Result.andThen_ok, Instr.sureAddr, Sem.run_pure, Instr.sliceBounds, hs]
    simp
    intro hn; rw [addr_add]; rfl
   ·exact h.elim
  ·exact h.elim
 ·rename_i e hk
  split at h
  ·rename_i sz xs he
   obtain ⟨a, cap, rfl, hxd⟩ := elems_rel hx he
   have hcap := hxd.toOs.row.2.1
   split at h
   ·rename_i hs
    have hs := Nat.eq_of_beq_eq_true hs
    subst hs
    obtain ⟨l, k, h1, h2, h3, h4, h5⟩ := h
    split at h5
    ·cases hmx
     refine ⟨_, _, run_sliceAt_slice F hk (lok h1) (hik h2) h3 (by omega), .d _ _ (hxd.sub h3 h4 (by omega) (by omega)), h5⟩
    ·obtain ⟨rfl, rfl, h5⟩ := h5
     have hhi' : hi = some (.int .i64 k) := by
      cases hhi with | some v x hv => cases hv with | d _ _ hv => cases hv; rfl
     have hmx' : mx = some (.int .i64 k) := by
      cases hmx with | some v x hv => cases hv with | d _ _ hv => cases hv; rfl
     subst hhi'; subst hmx'
     have hd := hxd.sub (m := k) h3 h4 (Nat.le_refl _) (by omega)
     have hlen : ((xs.take k).drop l).length = k - l := by simp; omega
     refine ⟨_, _, run_sliceAt_full F hk (lok h1) h3 (by omega), ?_, h5⟩
     rw [← hlen] at hd ⊢
     exact .full _ _ _ hd
   ·exact h.elim
  ·split at h
   ·cases hx with | d _ _ hx =>
    obtain ⟨a, cap, rfl, hxd⟩ := elemsO_rel (VRel.d _ _ hx) (x := .d (.os _ _)) rfl
    have hcap := hxd.row.2.1
    split at h
    ·rename_i hs
     have hs := Nat.eq_of_beq_eq_true hs
     subst hs
     obtain ⟨l, k, h1, h2, h3, h4, h5⟩ := h
     split at h5
     ·cases hmx
      exact ⟨_, _, run_sliceAt_slice F hk (lok h1) (hik h2) h3 (by omega), .d _ _ (hxd.subO h3 h4 (by omega) (by omega)), h5⟩
     ·obtain ⟨rfl, rfl, he0, h5⟩ := h5
      have hhi' : hi = some (.int .i64 k) := by
       cases hhi with | some v x hv => cases hv with | d _ _ hv => cases hv; rfl
      have hmx' : mx = some (.int .i64 k) := by
       cases hmx with | some v x hv => cases hv with | d _ _ hv => cases hv; rfl
      subst hhi'; subst hmx'
      refine ⟨_, _, run_sliceAt_full F hk (lok h1) h3 (by omega), ?_, h5⟩
      have hkl : k - l = 0 := by
       have := congrArg List.length he0
       simp at this; omega
      rw [hkl]
      exact .full _ _ [] (DRel.zero0 _ _)
    ·exact h.elim
   ·exact h.elim
 ·exact h.elim
/-! ### make, literals -/
theorem zeroD_rel (F : TFacts P t ti i d z) (w : World) {x0 : D} (h : zeroD ti = some x0) : Fit ti x0 ∧ ∃ vs : List Value, z.cells = vs.toArray ∧ vs.length = x0.cells.length ∧ ∀ H j (hj : j < x0.cells.length), DRel H (vs.getD j default) (x0.cells[j]) := by
 have hz := F.zcells
 have hs := F.zsize
 have hsz := F.size
 unfold zeroD at h
 split at h
 ·rename_i hagg
  split at h
  ·rename_i cs hcs
   injection h with h
   subst h
   rw [pure_go] at hcs
   obtain ⟨h1, h2⟩ := pures_some hcs
   have hlen : z.cells.toList.length = ti.zero.length := (zrsB_rel (c := ⟨0, [], w, ⟨fun _ _ => none, fun _ => none, fun _ => false, 0, fun _ => false⟩, []⟩) hz).1
   refine ⟨⟨by rw [hagg]; rfl, ?_, fun q hq => ?_⟩, z.cells.toList, by simp, by simp only [D.cells]; omega, fun H j hj => ?_⟩
   ·simp only [D.cells]; rw [h1, ← hlen]; simpa using hs.trans hsz
   ·obtain ⟨j, hj, rfl⟩ := List.mem_iff_getElem.1 hq
    simp only [D.cells] at hj ⊢
    rw [pure_leaf (h2 j (by omega) hj)]
    exact (zrsB_rel (c := ⟨0, [], w, ⟨fun _ _ => none, fun _ => none, fun _ => false, 0, fun _ => false⟩, []⟩) hz).2.1 _ (List.getElem_mem _)
   ·simp only [D.cells] at hj ⊢
    exact ((zrsB_rel (c := ⟨0, [], w, H, []⟩) hz).2.2 j (by omega)).pure _ (h2 j (by omega) hj)
  ·cases h
 ·rename_i hagg
  split at h
  ·rename_i x hx
   have hr := fun H => zrsB_rel (c := ⟨0, [], w, H, []⟩) hz
   rw [hx] at hr
   have h0 := hr ⟨fun _ _ => none, fun _ => none, fun _ => false, 0, fun _ => false⟩
   have hlf : x0.leaf = true := by rw [pure_leaf h]; exact h0.2.1 x (by simp)
   have hc : x0.cells = [x0] := by cases x0 <;> first | rfl | (simp [D.leaf] at hlf)
   have hag : x0.isAgg = false := by cases x0 <;> first | rfl | (simp [D.leaf] at hlf)
   refine ⟨⟨by rw [hag, hagg], ?_, fun q hq => ?_⟩, z.cells.toList, by simp, by rw [hc]; exact h0.1, fun H j hj => ?_⟩
   ·rw [hc, ← hsz, ← hs]; have := h0.1; simpa using this.symm
   ·rw [hc] at hq; simp at hq; subst hq; exact hlf
   ·have hj0 : j = 0 := by rw [hc] at hj; simpa using hj
    subst hj0
    have := ((hr H).2.2 0 (by simp)).pure _ h
    simpa [hc] using this
  ·cases h
theorem cells_mod {vs : List Value} {sz : Nat} (hs : vs.length = sz) (h0 : 0 < sz) (n : Nat) : ((Array.range (n * sz)).map fun k => vs.toArray[k % vs.toArray.size]!).toList = (List.replicate n vs).flatten := by
 apply List.ext_getElem?
 intro j
 have hlen : ((List.replicate n vs).flatten).length = n * sz := by simp [hs]
 by_cases hj : j < n * sz
 ·have hm : j % sz < vs.length := by rw [hs]; exact Nat.mod_lt _ h0
  have e1 : (List.replicate n vs).flatten[j]? = vs[j % sz]? := by
   clear hlen
   induction n generalizing j with
   | zero => simp at hj
   | succ n ih =>
    simp only [List.replicate_succ, List.flatten_cons]
    by_cases hjs : j < sz
    ·rw [List.getElem?_append_left (by omega), Nat.mod_eq_of_lt hjs]
    ·rw [List.getElem?_append_right (by omega), hs]
     have := ih (j - sz) (by rw [Nat.add_mul] at hj; omega) (by rw [hs]; exact Nat.mod_lt _ h0)
     rw [this, ← Nat.mod_eq_sub_mod (by omega)]
  rw [e1]
  simp [hj, hs, List.getElem?_eq_getElem hm]
 ·rw [List.getElem?_eq_none (by simpa using hj), List.getElem?_eq_none (by omega)]
theorem run_makeSlice (F : TFacts P t ti i d z) {e : TypeId} (hk : ti.kind = .slice e) {tie : TI} {ie : TypeInfo} {de : TypeDesc} {ze : Value} (Fe : TFacts P e tie ie de ze) (n m : Nat) (hn : n ≤ m) (hm : m < 4294967296) :
  (Instr.makeSlice t (.int .i64 n) (.int .i64 m)).run P w = .ok (.slice (some ⟨w.heap.size, 0, none⟩) n m) (w.alloc (.cells ((Array.range (m * ti.esz)).map (ze.cells[· % ze.cells.size]!)) e)) := by
 have hd := F.slice hk
 subst hd
 obtain ⟨j, zz, q1, q2, q3, q4, q5, q6, q7, q8⟩ := F.elemInfo hk
 have hj : j = ie := by have := Fe.info; rw [q1] at this; injection this
 subst hj
 have hzz : zz = ze := by have := Fe.zero; rw [q7] at this; injection this
 subst hzz
 have hw1 : IntKind.i64.wrap (n : Int) = n := by simp [IntKind.wrap, IntKind.bits, IntKind.signed]; omega
 have hw2 : IntKind.i64.wrap (m : Int) = m := by simp [IntKind.wrap, IntKind.bits, IntKind.signed]; omega
 have hb : (j.bytes : Int) * (m : Int) ≤ 281474976710656 := by
  have : j.bytes * m ≤ 4096 * 4294967296 := Nat.mul_le_mul q5 (by omega)
  have h2 : ((j.bytes * m : Nat) : Int) ≤ ((4096 * 4294967296 : Nat) : Int) := Int.ofNat_le.2 this
  rw [Int.natCast_mul] at h2
  omega
 have hroom : (askRoom (m * j.bytes)).run P w = .ok () w := by unfold askRoom; split <;> simp [mark, Sem.run]
 unfold Instr.makeSlice
 simp only [Sem.run_bind, F.run_underlying, Result.andThen_ok, asInt, asIntOf, Sem.run_pure, Fe.run_typeInfo, hw1, hw2]
 have c1 : ¬ ((decide ((m : Int) < 0) || decide ((j.bytes : Int) * (m : Int) > 2 ^ 48) || decide ((n : Int) < 0) || decide ((n : Int) > (m : Int))) = true) := by
  simp; omega
 rw [if_neg c1]
 simp only [Sem.run_bind, Sem.run_pure, Result.andThen_ok, Int.toNat_natCast, hroom, Fe.run_sizeOf]
 have hsz : tie.sz = ti.esz := by rw [← Fe.size, q2]
 rw [hsz]
 by_cases h0 : m * ti.esz = 0
 ·have hz0 : ∀ f : Nat → Value, Array.map f (Array.range 0) = #[] := fun f => by simp
  simp only [h0, if_true, Sem.run_bind, Sem.run_pure, Result.andThen_ok, hz0]
  rfl
 ·simp only [h0, if_false, Sem.run_bind, Fe.run_zeroValue, Result.andThen_ok, Sem.run_pure]
  rfl
theorem s_make (F : TFacts P t ti i d z) {e : TypeId} (hk : ti.kind = .slice e) {tie : TI} {ie : TypeInfo} {de : TypeDesc} {ze : Value} (Fe : TFacts P e tie ie de ze) (hok : Ok c fr w) (hB : c.B ≤ w.heap.size) {vx vy : Value} {x y : AV} (hx : VRel c vx x) (hy : VRel c vy y) {K : AV → Frs → Prop} (h : amake ti tie fr x y K) :
  Does P c w (Instr.makeSlice t vx vy) K := by
 obtain ⟨n, m, rfl, rfl, hn, hm, h⟩ := h
 cases hx with | d _ _ hx =>
 cases hx
 cases hy with | d _ _ hy =>
 cases hy
 obtain ⟨j, zz, q1, q2, q3, q4, q5, q6, q7, q8⟩ := F.elemInfo hk
 have hj : j = ie := by have := Fe.info; rw [q1] at this; injection this
 subst hj
 have hzz : zz = ze := by have := Fe.zero; rw [q7] at this; injection this
 subst hzz
 have hrun := run_makeSlice (w := w) F hk Fe n m hn hm
 have hzs : zz.cells.toList.length = ti.esz := by rw [← q2, ← q8]; simp
 have hcells := cells_mod (vs := zz.cells.toList) hzs (by omega) m
 simp only [Array.toArray_toList] at hcells
 have hcl : ((Array.range (m * ti.esz)).map (zz.cells[· % zz.cells.size]!)) = ((List.replicate m zz.cells.toList).flatten).toArray := by
  apply Array.ext'; rw [hcells]
 rw [hcl] at hrun
 rcases h with h | h | ⟨rfl, h⟩
 rotate_right
 ·split at h
  ·rename_i x0 hx0
   obtain ⟨ys, hys, h⟩ := h
   obtain ⟨hfit, vs, hv, hvl, hrel⟩ := zeroD_rel Fe w hx0
   have hx0l : x0.cells.length = ti.esz := by rw [hfit.2.1, ← Fe.size, q2]
   have hfl : ∀ q ∈ ys, q.cells.length = ti.esz := fun q hq => by rw [hys] at hq; rw [(List.mem_replicate.1 hq).2, hx0l]
   have hlen : (flat ys).length = n * ti.esz := by rw [flat_len hfl, hys]; simp
   have hnl : n = ys.length := by rw [hys]; simp
   have hlf : ∀ q ∈ flat ys, q.leaf = true := fun q hq => by
    obtain ⟨p, hp, hq⟩ := List.mem_flatMap.1 hq
    rw [hys] at hp
    rw [(List.mem_replicate.1 hp).2] at hq
    exact hfit.2.2 q hq
   have hul : ((List.replicate n zz.cells.toList).flatten).length = (flat ys).length := by rw [hlen]; simp [hzs]
   have hb := alloc_below w (.cells ((List.replicate n zz.cells.toList).flatten).toArray e)
   have hfree : ∀ j v, c.H.cell w.heap.size j ≠ some v := fun j v hc => by have := hok.mod.cell_lt hc; omega
   have hle : c.H.le (c.H.row w.heap.size 0 ((List.replicate n zz.cells.toList).flatten)) := Imm.row_le fun j v _ => hfree j v
   have hext : c.H.ext (c.H.row w.heap.size 0 ((List.replicate n zz.cells.toList).flatten)) (since w.heap.size) := ⟨hle, fun b j v hc => by
    rcases Imm.row_cell hc with hc | hc
    ·exact .inl hc
    ·exact .inr (Nat.le_of_eq hc.1.symm), fun _ _ h => .inl h, fun _ h => .inl h⟩
   have hmod : Models (w.alloc (.cells ((List.replicate n zz.cells.toList).flatten).toArray e)) (c.H.row w.heap.size 0 ((List.replicate n zz.cells.toList).flatten)) :=
    models_row (cur := (List.replicate n zz.cells.toList).flatten) (hok.mod.below hb) (heap_alloc_new w _) fun j hj => by rw [Nat.zero_add]; exact getD_some hj
   have hd : DRel (c.H.row w.heap.size 0 ((List.replicate n zz.cells.toList).flatten)) (.slice (some ⟨w.heap.size, 0, none⟩) ys.length ys.length) (.slice ti.esz ys) :=
    row_rel ⟨Nat.le_refl _, by omega⟩ hfl hlf hul (Imm.row_yg (hok.young hB)) (fun j hj => Imm.row_at hj) fun j hj => by
     have h0 : 0 < ti.esz := by omega
     have hjm : j % ti.esz < ti.esz := Nat.mod_lt _ h0
     have hjd : j / ti.esz < n := (Nat.div_lt_iff_lt_mul h0).2 (by omega)
     have hjj : j / ti.esz * ti.esz + j % ti.esz = j := by rw [Nat.mul_comm]; exact Nat.div_add_mod j ti.esz
     have e1 := flat_get hfl (j / ti.esz) (j % ti.esz) x0 (by rw [hys]; simp [hjd]) hjm
     rw [hjj, List.getElem?_eq_getElem hj, List.getElem?_eq_getElem (by omega)] at e1
     injection e1 with e1
     rw [e1]
     have e3 : ((List.replicate n zz.cells.toList).flatten).getD j default = vs.getD (j % ti.esz) default := by
      rw [List.getD_eq_getElem?_getD, ← hcells]
      have hj' : j < n * ti.esz := by omega
      have hsz : zz.cells.size = ti.esz := by simpa using hzs
      simp [hj', hsz, hv, List.getD_eq_getElem?_getD, List.getElem?_eq_getElem (show j % ti.esz < vs.length by omega)]
      have hvl' : j % vs.length = j % ti.esz := by rw [show vs.length = ti.esz by omega]
      simp only [hvl', List.getElem?_eq_getElem (show j % ti.esz < vs.length by omega), Option.getD_some]
     rw [e3]
     exact hrel _ _ (by omega)
   refine ⟨_, _, _, fr, _, hrun, by simp, Ctx.le_H (hext.weak (Ctx.free_new hB)), hok.calls hb hB hext hmod, ?_, h⟩
   have := VRel.full (c := { c with H := c.H.row w.heap.size 0 ((List.replicate n zz.cells.toList).flatten) }) (some ⟨w.heap.size, 0, none⟩) ti.esz ys hd
   rw [← hnl] at this
   exact this
  ·exact h.elim
 all_goals
 cases fr with
 | nil =>
  first
  | exact h.2.elim
  | (obtain ⟨_, h⟩ := h; split at h <;> exact h.elim)
 | cons l r =>
  replace h : (n = 0 ∧ newK (l :: r) (.grow ti.esz 0) fun i fr => K (.own 0 i ti.esz []) fr) ∨ (n = m ∧ match zeroD tie with | some x0 => newK (l :: r) (.arr ti.esz (List.replicate n x0)) fun i fr => K (.arr 0 i 0 n ti.esz) fr | none => False) := by first | exact .inl h | exact .inr h
  rcases h with ⟨rfl, h⟩ | ⟨rfl, h⟩
  ·by_cases hm0 : m = 0
   ·subst hm0
    have hb := alloc_below w (.cells ((List.replicate 0 zz.cells.toList).flatten).toArray e)
    obtain ⟨c', k1, k2, k3, _, k4⟩ := (hok.calls hb hB (Imm.ext.refl _ _) (hok.mod.below hb)).hold ti.esz
    exact ⟨_, _, c', _, _, hrun, by simp, k1, k4, .own0 _ 0 _ _, h⟩
   ·obtain ⟨c', k1, k2, k3, k4⟩ := s_grown (vs := []) (rest := (List.replicate m zz.cells.toList).flatten) hok hB (sz := ti.esz) (cap := m) (zs := []) e (by simp) (by simp) (by simp [flat]) (by simp [flat]) (by simp [flat]) (by simp [hzs]) (by omega)
    exact ⟨_, _, c', _, _, hrun, by simp, k1, k3, k4, h⟩
  ·split at h
   ·rename_i x0 hx0
    obtain ⟨hfit, vs, hv, hvl, hrel⟩ := zeroD_rel Fe w hx0
    have hfl : ∀ q ∈ List.replicate n x0, q.cells.length = ti.esz := fun q hq => by rw [(List.mem_replicate.1 hq).2, hfit.2.1, ← Fe.size, q2]
    have hvs : zz.cells.toList = vs := by rw [hv]
    have hx0l : x0.cells.length = ti.esz := by rw [hfit.2.1, ← Fe.size, q2]
    obtain ⟨c', k1, k2, k3, _, k4, k5⟩ := hok.new (o := .cells ((List.replicate n zz.cells.toList).flatten).toArray e) (b := .arr ti.esz (List.replicate n x0)) hB ⟨w.heap.size, false, ti.esz, 0, 0⟩ rfl rfl fun c' hle => by
     refine .arr ti.esz _ _ e ⟨rfl, rfl⟩ rfl (heap_alloc_new w _) (by rw [flat_len hfl]; simp [hzs]) hfl (fun q hq => ?_) fun j hj => ?_
     ·obtain ⟨p, hp, hq⟩ := List.mem_flatMap.1 hq
      rw [(List.mem_replicate.1 hp).2] at hq
      exact hfit.2.2 q hq
     ·have hlen : (flat (List.replicate n x0)).length = n * ti.esz := by rw [flat_len hfl]; simp
      have h0 : 0 < ti.esz := by omega
      have hjm : j % ti.esz < ti.esz := Nat.mod_lt _ h0
      have hjd : j / ti.esz < n := (Nat.div_lt_iff_lt_mul h0).2 (by omega)
      have hjj : j / ti.esz * ti.esz + j % ti.esz = j := by rw [Nat.mul_comm]; exact Nat.div_add_mod j ti.esz
      have e1 := flat_get hfl (j / ti.esz) (j % ti.esz) x0 (by simp [hjd]) hjm
      rw [hjj, List.getElem?_eq_getElem hj, List.getElem?_eq_getElem (by omega)] at e1
      injection e1 with e1
      rw [e1]
      have e2 := congrArg (fun l : List Value => l[j]?) hcells
      have e3 : ((List.replicate n zz.cells.toList).flatten).getD j default = vs.getD (j % ti.esz) default := by
       rw [List.getD_eq_getElem?_getD, ← hcells]
       have hj' : j < n * ti.esz := by omega
       have hsz : zz.cells.size = ti.esz := by simpa using hzs
       simp [hj', hsz, hv, List.getD_eq_getElem?_getD, List.getElem?_eq_getElem (show j % ti.esz < vs.length by omega)]
       have hvl' : j % vs.length = j % ti.esz := by rw [show vs.length = ti.esz by omega]
       simp only [hvl', List.getElem?_eq_getElem (show j % ti.esz < vs.length by omega), Option.getD_some]
      rw [e3]
      exact hrel c'.H _ (by omega)
    exact ⟨_, _, c', _, _, hrun, by simp, k1, k5, by have := VRel.arr (c := c') n 0 l.length 0 n ti.esz _ k4 rfl rfl ⟨Nat.le_refl _, by omega⟩; simpa using this, h⟩
   ·exact h.elim
end
end Go.Proofs.Ytemfpemejagndaa.Fw

