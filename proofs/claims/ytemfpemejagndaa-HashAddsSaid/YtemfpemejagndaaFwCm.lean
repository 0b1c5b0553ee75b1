/- Maps. -/
import Derived.Test.YtemfpemejagndaaFwC
set_option autoImplicit false
set_option linter.unusedVariables false
set_option linter.unusedSimpArgs false
namespace Go.Proofs.Ytemfpemejagndaa.Fw
open Go Go.RowKit Go.WideShapes

open Classical in
noncomputable def idxD (k : D) : List (D × D) → Option Nat
 | [] => none
 | q :: r => if k = q.1 then some 0 else (idxD k r).map (· + 1)
open Classical in
noncomputable def findD (k : D) : List (D × D) → Option D
 | [] => none
 | q :: r => if k = q.1 then some q.2 else findD k r
open Classical in
noncomputable def updD (k x : D) : List (D × D) → List (D × D)
 | [] => [(k, x)]
 | q :: r => if k = q.1 then (k, x) :: r else q :: updD k x r
theorem idxD_find (k : D) : ∀ es, match idxD k es with | none => findD k es = none ∧ (∀ x, updD k x es = es ++ [(k, x)]) | some j => j < es.length ∧ ∃ x0, es[j]? = some (k, x0) ∧ findD k es = some x0 ∧ ∀ x, updD k x es = es.set j (k, x)
 | [] => by simp [idxD, findD, updD]
 | q :: r => by
  have ih := idxD_find k r
  unfold idxD
  by_cases h : k = q.1
  ·rw [if_pos h]
   refine ⟨by simp, q.2, by simp [h], by simp [findD, h], fun x => by simp [updD, h]⟩
  ·rw [if_neg h]
   cases hi : idxD k r with
   | none =>
    rw [hi] at ih
    exact ⟨by simp [findD, h, ih.1], fun x => by simp [updD, h, ih.2 x]⟩
   | some j =>
    rw [hi] at ih
    obtain ⟨h1, x0, h2, h3, h4⟩ := ih
    exact ⟨by simp; exact h1, x0, by simpa using h2, by simp [findD, h, h3], fun x => by simp [updD, h, h4 x]⟩
open Classical in
/-- keys of this type, of this domain, are compared as data -/
structure KeyT (P : Program) (t : TypeId) (K : D → Prop) : Prop where
 eq : ∀ H v v' x x' w, DRel H v x → DRel H v' x' → K x → K x' → (Op.equal t v v').run P w = .ok (decide (x = x')) w
 chk : ∀ H v x w b, DRel H v x → K x → (Instr.checkKey b 10000 t v).run P w = .ok () w
 same : ∀ H v v' x, DRel H v x → DRel H v' x → K x → Instr.sameBits 10000 v v' = true
structure mlook (P : Program) (kt : TypeId) (es : List (D × D)) (kd : D) (Y : D → Prop) (N : Prop) : Prop where mk ::
 key : ∃ KK, KeyT P kt KK ∧ KK kd ∧ ∀ q ∈ es, KK q.1
 out : (∀ x, findD kd es = some x → Y x) ∧ (findD kd es = none → N)
structure mupd (P : Program) (kt : TypeId) (es : List (D × D)) (kd : D) (X : Prop) : Prop where mk ::
 key : ∃ KK, KeyT P kt KK ∧ KK kd ∧ ∀ q ∈ es, KK q.1
 out : X
section
variable {P : Program} {c : Ctx} {fr : Frs} {w : World}

theorem bstr_eq (a b : ByteArray) : (a == b) = true ↔ a = b := by
 cases a; rename_i x; cases b; rename_i y
 have h1 : ((ByteArray.mk x == ByteArray.mk y) = true) ↔ (x == y) = true := Iff.rfl
 rw [h1, beq_iff_eq]
 exact ⟨fun h => by rw [h], fun h => by injection h⟩
theorem sameNow_spec {H : Imm} {td : TypeDesc} {v v' : Value} {x x' : D} (h : DRel H v x) (h' : DRel H v' x') {b : Bool} (e : Instr.sameNow td v v' = some b) : b = true ↔ x = x' := by
 unfold Instr.sameNow at e
 split at e
 ·rename_i k a k' b'
  cases h; cases h'
  split at e
  ·rename_i hk
   subst hk
   injection e with e; subst e
   simp
  ·cases e
 ·cases h; cases h'
  injection e with e; subst e
  simp [bstr_eq]
 ·cases h; cases h'
  injection e with e; subst e
  simp
 ·cases e
def shifted (r : Option Nat) (ms : List MapEntry) (i : Nat) : Option (Nat × Value) := r.map fun j => (i + j, (ms.getD j default).val)
theorem shifted_succ (r : Option Nat) (m : MapEntry) (ms : List MapEntry) (i : Nat) : shifted (r.map (· + 1)) (m :: ms) i = shifted r ms (i + 1) := by
 cases r with
 | none => rfl
 | some j => simp [shifted]; omega
theorem findNow_spec {H : Imm} {td : TypeDesc} {v : Value} {kd : D} (hv : DRel H v kd) : ∀ (ms : List MapEntry) (es : List (D × D)) (i : Nat) {r : Option (Nat × Value)}, ms.length = es.length → (∀ j (h : j < es.length), DRel H (ms.getD j default).key es[j].1) →
  Instr.findNow td v ms i = some r → r = shifted (idxD kd es) ms i
 | [], [], i, r, hn, hk, e => by injection e with e; subst e; rfl
 | m :: ms, q :: es, i, r, hn, hk, e => by
  have h0 := hk 0 (by simp)
  simp only [List.getD_cons_zero, List.getElem_cons_zero] at h0
  unfold Instr.findNow at e
  unfold idxD
  split at e
  ·rename_i hs
   have := (sameNow_spec hv h0 hs).1 rfl
   rw [if_pos this]
   injection e with e; subst e
   simp [shifted]
  ·rename_i hs
   have hne : ¬ kd = q.1 := fun h => by have := (sameNow_spec hv h0 hs).2 h; cases this
   rw [if_neg hne, shifted_succ]
   exact findNow_spec hv ms es (i + 1) (by simpa using hn) (fun j h => by have := hk (j + 1) (by simpa using h); simpa using this) e
  ·cases e
 | [], _ :: _, _, _, hn, _, _ => by simp at hn
 | _ :: _, [], _, _, hn, _, _ => by simp at hn
theorem findAsking_spec {H : Imm} {kt : TypeId} {KK : D → Prop} (hK : KeyT P kt KK) {v : Value} {kd : D} (hv : DRel H v kd) (hkd : KK kd) : ∀ (ms : List MapEntry) (es : List (D × D)) (i : Nat), ms.length = es.length → (∀ j (h : j < es.length), DRel H (ms.getD j default).key es[j].1) → (∀ q ∈ es, KK q.1) →
  (Instr.findAsking kt v ms i).run P w = .ok (shifted (idxD kd es) ms i) w
 | [], [], i, hn, hk, he => rfl
 | m :: ms, q :: es, i, hn, hk, he => by
  have h0 := hk 0 (by simp)
  simp only [List.getD_cons_zero, List.getElem_cons_zero] at h0
  unfold Instr.findAsking idxD
  simp only [Sem.run_bind, hK.eq H v m.key kd q.1 w hv h0 hkd (he q (by simp)), Result.andThen_ok]
  by_cases h : kd = q.1
  ·rw [if_pos h]; simp [h, shifted]
  ·rw [if_neg h, shifted_succ]
   simp only [h, decide_false, Bool.false_eq_true, if_false]
   exact findAsking_spec hK hv hkd ms es (i + 1) (by simpa using hn) (fun j h => by have := hk (j + 1) (by simpa using h); simpa using this) fun q hq => he q (by simp [hq])
 | [], _ :: _, _, hn, _, _ => by simp at hn
 | _ :: _, [], _, hn, _, _ => by simp at hn
theorem run_findKey {H : Imm} {kt : TypeId} {KK : D → Prop} (hK : KeyT P kt KK) {kdsc : TypeDesc} (hu : P.underlying kt = some kdsc) {v : Value} {kd : D} (hv : DRel H v kd) (hkd : KK kd) (ms : List MapEntry) (es : List (D × D)) (hn : ms.length = es.length) (hk : ∀ j (h : j < es.length), DRel H (ms.getD j default).key es[j].1) (he : ∀ q ∈ es, KK q.1) :
  (Instr.findKey kt v ms).run P w = .ok (shifted (idxD kd es) ms 0) w := by
 unfold Instr.findKey
 simp only [Sem.run_bind, Go.run_underlying hu, Result.andThen_ok]
 split
 ·rename_i r hr
  rw [findNow_spec hv ms es 0 hn hk hr]; rfl
 ·exact findAsking_spec hK hv hkd ms es 0 hn hk he
/-- the entries of a map that is read -/
def amapOf (fr : Frs) (v : AV) (K : List (D × D) → Prop) : Prop := match v with
 | .map l i => match blk fr l i with | some (.map es) => K es | _ => False
 | .d (.map es) => K es
 | .d .nilmap => K []
 | _ => False
def okv (ok : Bool) (v : AV) (b : Bool) : AV := match ok with | true => .tuple [v, .d (.bool b)] | false => v
def zeroV (te : TI) : AV := match te.agg with | true => .agg te.zero | false => match te.zero with | [x] => x | _ => .undef
theorem s_mapOf (hok : Ok c fr w) {v : Value} {x : AV} (hx : VRel c v x) {K : List (D × D) → Prop} (h : amapOf fr x K) :
  ∃ es, K es ∧ ((v = .map none ∧ es = []) ∨ ∃ b ms clock, v = .map (some b) ∧ w.heap[b]? = some (.map ms clock) ∧ ms.toList.length = es.length ∧ (∀ j (h : j < es.length), DRel c.H (ms.toList.getD j default).key es[j].1) ∧ ∀ j (h : j < es.length), DRel c.H (ms.toList.getD j default).val es[j].2) := by
 unfold amapOf at h
 split at h
 ·rename_i l i
  split at h
  ·rename_i es hb
   rw [blk_bind] at hb
   obtain ⟨e, he, hbr⟩ := hok.ent hb
   cases hx with | map _ _ e' he' hg =>
   rw [he] at he'; injection he' with he'; subst he'
   cases hbr with | map _ ms clock hg' hw hn hk hv =>
   exact ⟨es, h, .inr ⟨e.b, ms.toArray, clock, rfl, hw, by simpa using hn, hk, hv⟩⟩
  ·exact h.elim
 ·rename_i es
  cases hx with | d _ _ hx =>
  cases hx with | map b ms clock kv hn hH hk hv =>
  exact ⟨es, h, .inr ⟨b, ms.toArray, clock, rfl, (hok.mod.2.1 _ _ hH).1, by simpa using hn, by simpa using hk, by simpa using hv⟩⟩
 ·cases hx with | d _ _ hx =>
  cases hx
  exact ⟨[], h, .inl ⟨rfl, rfl⟩⟩
 ·exact h.elim
theorem TFacts.map {t : TypeId} {ti : TI} {i : TypeInfo} {d : TypeDesc} {z : Value} (F : TFacts P t ti i d z) {k e : TypeId} (hk : ti.kind = .map k e) : d = .map k e := by
 have h := F.kind; rw [hk] at h; cases d <;> simp [kindB] at h; rw [h.1, h.2]
theorem zeroV_rel {t : TypeId} {ti : TI} {i : TypeInfo} {d : TypeDesc} {z : Value} (F : TFacts P t ti i d z) (c : Ctx) : VRel c z (zeroV ti) := by
 obtain ⟨h1, h2, h3⟩ := zrsB_rel (c := c) F.zcells
 have hz := F.zshape
 unfold zeroV
 cases ha : ti.agg with
 | true =>
  simp only
  cases z with
  | agg cs =>
   have : VRel c (.agg (cs.toList).toArray) (.agg ti.zero) := .agg cs.toList ti.zero h1 h2 h3
   simpa using this
  | _ => simp [zeroB, ha] at hz
 | false =>
  simp only
  have hone : z.cells = #[z] := by
   cases z with
   | agg cs => simp [zeroB, ha] at hz
   | tuple cs => simp [zeroB] at hz
   | _ => rfl
  rw [hone] at h1 h3
  match hzz : ti.zero, h1 with
  | [x], _ =>
   have := h3 0 (by rw [hzz]; simp)
   simpa [hzz] using this
section
variable {t : TypeId} {ti : TI} {i : TypeInfo} {d : TypeDesc} {z : Value}

theorem okv_rel {v : Value} {x : AV} (h : VRel c v x) (ok b : Bool) : VRel c (if ok then .tuple #[v, .bool b] else v) (okv ok x b) := by
 cases ok with
 | false => exact h
 | true =>
  show VRel c (.tuple [v, .bool b].toArray) (.tuple [x, .d (.bool b)])
  refine .tuple _ _ rfl fun j hj => ?_
  match j, hj with
  | 0, _ => exact h
  | 1, _ => exact .d _ _ (.bool b)
theorem s_lookup (F : TFacts P t ti i d z) {kt et : TypeId} (hk : ti.kind = .map kt et) {te : TI} {ie : TypeInfo} {de : TypeDesc} {ze : Value} (Fe : TFacts P et te ie de ze) {dk : TypeDesc} (hku : P.underlying kt = some dk) (hok : Ok c fr w) {vm vk : Value} {m k : AV} (hm : VRel c vm m) (hkv : VRel c vk k) {kd : D} (hkd : pure? k = some kd) (ok : Bool) {K : AV → Prop}
  (h : amapOf fr m fun es => mlook P kt es kd (fun x => K (okv ok (.d x) true)) (K (okv ok (zeroV te) false))) :
  ∃ v r, (Instr.lookup t vm vk ok).run P w = .ok v w ∧ VRel c v r ∧ K r := by
 have hkr := hkv.pure _ hkd
 obtain ⟨es, ⟨⟨KK, hK, hKd, hKe⟩, hy, hn⟩, hmv⟩ := s_mapOf hok hm h
 have hd := F.map hk
 subst hd
 have hzero : (zeroValue et).run P w = .ok ze w := Fe.run_zeroValue w
 rcases hmv with ⟨rfl, rfl⟩ | ⟨b, ms, clock, rfl, hw, hlen, hks, hvs⟩
 ·have h0 := hn (by simp [findD])
  refine ⟨_, _, ?_, okv_rel (zeroV_rel Fe c) ok false, h0⟩
  unfold Instr.lookup
  simp only [Sem.run_bind, F.run_underlying, Result.andThen_ok, Sem.run_pure, hK.chk _ _ _ w _ hkr hKd, Array.toList_empty]
  rw [run_findKey hK hku hkr hKd [] [] rfl (by simp) (by simp)]
  simp [idxD, shifted, hzero]
 ·have hgo : (getObj b).run P w = .ok (.map ms clock) w := by simp [getObj, Sem.run, hw]
  have hf := run_findKey (w := w) hK hku hkr hKd ms.toList es hlen hks hKe
  have hi := idxD_find kd es
  cases hidx : idxD kd es with
  | none =>
   rw [hidx] at hi hf
   refine ⟨_, _, ?_, okv_rel (zeroV_rel Fe c) ok false, hn hi.1⟩
   unfold Instr.lookup
   simp only [Sem.run_bind, F.run_underlying, Result.andThen_ok, Sem.run_pure, hgo, hK.chk _ _ _ w _ hkr hKd, hf]
   simp [shifted, hzero]
  | some j =>
   rw [hidx] at hi hf
   obtain ⟨hj, x0, hx0, hfd, _⟩ := hi
   have hx : es[j] = (kd, x0) := by rw [List.getElem?_eq_getElem hj] at hx0; injection hx0
   have hv := hvs j hj
   rw [hx] at hv
   refine ⟨_, _, ?_, okv_rel (.d _ _ hv) ok true, hy x0 hfd⟩
   unfold Instr.lookup
   simp only [Sem.run_bind, F.run_underlying, Result.andThen_ok, Sem.run_pure, hgo, hK.chk _ _ _ w _ hkr hKd, hf]
   simp [shifted]
theorem s_mapUpdate (F : TFacts P t ti i d z) {kt et : TypeId} (hk : ti.kind = .map kt et) {te : TI} (hku : ∃ dk, P.underlying kt = some dk) (hok : Ok c fr w) {l q : Nat} {vm vk vx : Value} {k x : AV} (hm : VRel c vm (.map l q)) (hkv : VRel c vk k) {kd xd : D} (hkd : pure? k = some kd) (hxv : VRel c vx x) (hxd : pure? (fixNil te x) = some xd) {es : List (D × D)} (hb : blk fr l q = some (.map es)) {K : Frs → Prop}
  (h : mupd P kt es kd (setBlkK fr l q (.map (updD kd xd es)) K)) : ∃ w' fr', (Instr.mapUpdate t vm vk vx).run P w = .ok () w' ∧ Ok c fr' w' ∧ K fr' ∧ w.heap.size = w'.heap.size := by
 obtain ⟨⟨KK, hK, hKd, hKe⟩, h⟩ := h
 obtain ⟨r, hr, hi, hKf⟩ := setBlkK_spec h
 obtain ⟨dk, hku⟩ := hku
 have hkr := hkv.pure _ hkd
 have hxr := (fixNil_rel (ti := te) hxv).pure _ hxd
 have hd := F.map hk
 subst hd
 rw [blk_bind] at hb
 obtain ⟨e, he, hbr⟩ := hok.ent hb
 cases hm with | map _ _ e' he' hg =>
 rw [he] at he'; injection he' with he'; subst he'
 cases hbr with | map _ ms clock hg' hw hn hks hvs =>
 have hgo : (getObj e.b).run P w = .ok (.map ms.toArray clock) w := by simp [getObj, Sem.run, hw]
 have hf := run_findKey (w := w) hK hku hkr hKd ms es hn hks hKe
 have hii := idxD_find kd es
 have hfin : ∀ (ms' : List MapEntry) (clock' : Nat), (Instr.mapUpdate t (.map (some e.b)) vk vx).run P w = (setObj e.b (.map ms'.toArray clock')).run P w → ms'.length = (updD kd xd es).length →
   (∀ j (h : j < (updD kd xd es).length), DRel c.H (ms'.getD j default).key (updD kd xd es)[j].1) → (∀ j (h : j < (updD kd xd es).length), DRel c.H (ms'.getD j default).val (updD kd xd es)[j].2) →
   ∃ w' fr', (Instr.mapUpdate t (.map (some e.b)) vk vx).run P w = .ok () w' ∧ Ok c fr' w' ∧ K fr' ∧ w.heap.size = w'.heap.size := by
  intro ms' clock' hrun hn' hk' hv'
  have hlt : e.b < w.heap.size := hok.lt he
  refine ⟨{ w with heap := w.heap.setIfInBounds e.b (.map ms'.toArray clock') }, _, hrun.trans ?_, ?_, hKf, by simp⟩
  ·simp [setObj, Sem.run, hw]
  ·refine hok.upd (hok.ge _ _ _ he) he hg' (fun b hb => ?_) (by simp) rfl rfl rfl ?_ hr hi
   ·simp [Array.getElem?_setIfInBounds, Ne.symm hb]
   ·exact .map _ ms' clock' hg' (by simp [Array.getElem?_setIfInBounds, hlt]) hn' hk' hv'
 cases hidx : idxD kd es with
 | none =>
  rw [hidx] at hii hf
  obtain ⟨_, hu⟩ := hii
  rw [hu xd] at hfin
  refine hfin (ms ++ [{ key := vk, val := vx, born := clock }]) (clock + 1) ?_ (by simp [hn]) (fun j hj => ?_) fun j hj => ?_
  ·unfold Instr.mapUpdate
   simp only [Sem.run_bind, F.run_underlying, Result.andThen_ok, hgo, hK.chk _ _ _ w _ hkr hKd, hf]
   simp [shifted]
  ·by_cases hjl : j < es.length
   ·have := hks j hjl
    rw [List.getElem_append_left hjl, List.getD_eq_getElem?_getD, List.getElem?_append_left (by omega), ← List.getD_eq_getElem?_getD]; exact this
   ·have : j = es.length := by simp at hj; omega
    subst this
    rw [List.getElem_append_right (by omega), List.getD_eq_getElem?_getD, List.getElem?_append_right (by omega)]
    simp [hn]; exact hkr
  ·by_cases hjl : j < es.length
   ·have := hvs j hjl
    rw [List.getElem_append_left hjl, List.getD_eq_getElem?_getD, List.getElem?_append_left (by omega), ← List.getD_eq_getElem?_getD]; exact this
   ·have : j = es.length := by simp at hj; omega
    subst this
    rw [List.getElem_append_right (by omega), List.getD_eq_getElem?_getD, List.getElem?_append_right (by omega)]
    simp [hn]; exact hxr
 | some p =>
  rw [hidx] at hii hf
  obtain ⟨hp, x0, hx0, _, hu⟩ := hii
  have hxp : es[p] = (kd, x0) := by rw [List.getElem?_eq_getElem hp] at hx0; injection hx0
  have hkp := hks p hp
  rw [hxp] at hkp
  rw [hu xd] at hfin
  have hpm : p < ms.length := by omega
  have hsame : Instr.sameBits 10000 (ms.getD p default).key vk = true := hK.same c.H _ _ kd hkp hkr hKd
  refine hfin (ms.set p { ms.getD p default with key := vk, val := vx }) clock ?_ (by simp [hn]) (fun j hj => ?_) fun j hj => ?_
  ·unfold Instr.mapUpdate
   simp only [Sem.run_bind, F.run_underlying, Result.andThen_ok, hgo, hK.chk _ _ _ w _ hkr hKd, hf]
   have hms : ms[p]? = some (ms.getD p default) := getD_some hpm
   simp only [shifted, Option.map_some, Nat.zero_add]
   have hkt : (Instr.keyThatStays (((ms.toArray[p]?).map (·.key)).getD vk) vk).run P w = .ok vk w := by
    have : ((ms.toArray[p]?).map (·.key)).getD vk = (ms.getD p default).key := by rw [List.getElem?_toArray, hms]; rfl
    rw [this]
    unfold Instr.keyThatStays
    rw [if_pos hsame]; rfl
   simp only [Sem.run_bind, hkt, Result.andThen_ok]
   congr 2
   congr 1
   apply Array.ext'
   apply List.ext_getElem?
   intro q
   simp only [Array.toList_modify, List.getElem?_modify, List.getElem?_set]
   by_cases hq : p = q
   ·subst hq; rw [hms]; simp [hpm]
   ·simp [hq]
  ·have hjl : j < es.length := by simpa using hj
   rw [List.getElem_set, List.getD_eq_getElem?_getD, List.getElem?_set]
   split
   ·rename_i hjp; subst hjp; simp [hpm]; exact hkr
   ·rename_i hjp; rw [← List.getD_eq_getElem?_getD]; exact hks j hjl
  ·have hjl : j < es.length := by simpa using hj
   rw [List.getElem_set, List.getD_eq_getElem?_getD, List.getElem?_set]
   split
   ·rename_i hjp; subst hjp; simp [hpm]; exact hxr
   ·rename_i hjp; rw [← List.getD_eq_getElem?_getD]; exact hvs j hjl
theorem s_makeMap {l : List Blk} {r : Frs} (hok : Ok c (l :: r) w) (hB : c.B ≤ w.heap.size) (t : TypeId) {K : AV → Frs → Prop} (h : newK (l :: r) (.map []) fun i fr => K (.map 0 i) fr) :
  Does P c w (Instr.makeMap t none) K := by
 obtain ⟨c', h1, h2, h3, _, h4, h5⟩ := hok.new (o := .map #[] 0) (b := .map []) hB ⟨w.heap.size, false, 0, 0, 0⟩ rfl rfl fun c' hle =>
  .map [] [] 0 ⟨rfl, rfl⟩ (heap_alloc_new w _) rfl (fun j h => absurd h (Nat.not_lt_zero j)) fun j h => absurd h (Nat.not_lt_zero j)
 refine ⟨.map (some w.heap.size), w.alloc (.map #[] 0), c', _, .map 0 l.length, rfl, ?_, h1, h5, .map 0 l.length _ h4 rfl, h⟩
 exact (alloc_below w _).size
end
end
end Go.Proofs.Ytemfpemejagndaa.Fw
namespace Go.Proofs.Ytemfpemejagndaa.Fw
open Go Go.RowKit Go.WideShapes
/-! ### copy into an array -/
/-- cells from off on, len of them: what ys has, else as they are -/
def overD : List AV → Nat → Nat → List D → Nat → Option (List AV)
 | [], 0, 0, _, _ => some []
 | [], _, _, _, _ => none
 | x :: r, 0, 0, _, _ => some (x :: r)
 | x :: r, 0, len + 1, ys, j => match x with
  | .d o => match overD r 0 len ys (j + 1) with | some r => some (.d (ys.getD j o) :: r) | none => none
  | _ => none
 | x :: r, off + 1, len, ys, j => match overD r off len ys j with | some r => some (x :: r) | none => none
theorem overD_spec : ∀ {cs : List AV} {off len : Nat} {ys : List D} {j : Nat} {cs' : List AV}, overD cs off len ys j = some cs' → off + len ≤ cs.length ∧ cs'.length = cs.length ∧
  ∀ k (h : k < cs.length) (h' : k < cs'.length), if off ≤ k ∧ k < off + len then ∃ o, cs[k] = .d o ∧ cs'[k] = .d (ys.getD (j + (k - off)) o) else cs'[k] = cs[k]
 | [], 0, 0, ys, j, cs', h => by simp only [overD] at h; injection h with h; subst h; simp
 | [], off + 1, len, ys, j, cs', h => by simp [overD] at h
 | [], 0, len + 1, ys, j, cs', h => by simp [overD] at h
 | x :: r, 0, 0, ys, j, cs', h => by
  simp only [overD] at h; injection h with h; subst h
  refine ⟨by simp, rfl, fun k h h' => ?_⟩
  rw [if_neg (by omega)]
 | x :: r, 0, len + 1, ys, j, cs', h => by
  simp only [overD] at h
  split at h
  ·rename_i o
   split at h
   ·rename_i r' hr
    injection h with h; subst h
    obtain ⟨h1, h2, h3⟩ := overD_spec hr
    refine ⟨by simp; omega, by simp [h2], fun k hk hk' => ?_⟩
    cases k with
    | zero => rw [if_pos (by omega)]; exact ⟨o, rfl, by simp⟩
    | succ k =>
     have := h3 k (by simpa using hk) (by simpa using hk')
     by_cases hin : k < len
     ·rw [if_pos (by omega)] at this ⊢
      obtain ⟨o', q1, q2⟩ := this
      refine ⟨o', by simpa using q1, ?_⟩
      simp only [List.getElem_cons_succ]
      rw [q2]; congr 2; omega
     ·rw [if_neg (by omega)] at this ⊢
      simpa using this
   ·cases h
  ·cases h
 | x :: r, off + 1, len, ys, j, cs', h => by
  simp only [overD] at h
  split at h
  ·rename_i r' hr
   injection h with h; subst h
   obtain ⟨h1, h2, h3⟩ := overD_spec hr
   refine ⟨by simp; omega, by simp [h2], fun k hk hk' => ?_⟩
   cases k with
   | zero => rw [if_neg (by omega)]; rfl
   | succ k =>
    have := h3 k (by simpa using hk) (by simpa using hk')
    by_cases hin : off ≤ k ∧ k < off + len
    ·rw [if_pos hin] at this; rw [if_pos (by omega)]
     obtain ⟨o', q1, q2⟩ := this
     refine ⟨o', by simpa using q1, ?_⟩
     simp only [List.getElem_cons_succ]
     rw [q2]; congr 2; omega
    ·rw [if_neg hin] at this; rw [if_neg (by omega)]
     simpa using this
  ·cases h
def acopy (ti : TI) (fr : Frs) (x y : AV) (K : AV → Frs → Prop) : Prop := match ti.kind with
 | .slice _ => match Nat.beq ti.esz 1 with
  | true => match x with
   | .win l i off len => match elemsO y, blk fr l i with
    | some (sy, ys), some (.cells cs) => match overD cs off len ys 0 with
     | some cs' => (sy = 1 ∧ ∀ q ∈ ys, q.isAgg = false) ∧ setBlkK fr l i (.cells cs') fun fr => K (.d (.int .i64 (min ys.length len : Nat))) fr
     | none => False
    | _, _ => False
   | _ => False
  | false => False
 | _ => False
theorem noagg_cells {x : D} (h : x.isAgg = false) : x.cells = [x] := by cases x <;> first | rfl | cases h
theorem flat_one : ∀ {xs : List D}, (∀ q ∈ xs, q.isAgg = false) → flat xs = xs
 | [], _ => rfl
 | x :: r, h => by
  have := flat_one (xs := r) fun q hq => h q (by simp [hq])
  simp only [flat, List.flatMap_cons] at this ⊢
  rw [this, noagg_cells (h x (by simp))]; rfl
theorem setBlkK_cs {fr : Frs} {l i : Nat} {cs cs' : List AV} {K : Frs → Prop} (e : cs = cs') (h : setBlkK fr l i (.cells cs') K) : setBlkK fr l i (.cells cs) K := e ▸ h
section
variable {P : Program} {t : TypeId} {ti : TI} {i : TypeInfo} {d : TypeDesc} {z : Value} {c : Ctx} {fr : Frs} {w : World}
theorem s_copy (F : TFacts P t ti i d z) (hok : Ok c fr w) {u : TypeId} {vx vy : Value} {x y : AV} (hx : VRel c vx x) (hy : VRel c vy y) (ty : TypeId) {K : AV → Frs → Prop} (h : acopy ti fr x y K) :
  Does P c w (Builtin.copy_ #[t, u] ty #[vx, vy]) K := by
 unfold acopy at h
 split at h
 case h_2 => exact h.elim
 rename_i e hk
 split at h
 case h_2 => exact h.elim
 rename_i hesz
 have hesz := Nat.eq_of_beq_eq_true hesz
 split at h
 case h_2 => exact h.elim
 rename_i l q off len
 split at h
 case h_2 => exact h.elim
 rename_i sy ys cs hel hb
 split at h
 case h_2 => exact h.elim
 rename_i cs' hov
 obtain ⟨⟨rfl, hag⟩, h⟩ := h
 obtain ⟨r, hr, hi, hK⟩ := setBlkK_spec h
 obtain ⟨o1, o2, o3⟩ := overD_spec hov
 have hd := F.slice hk
 subst hd
 obtain ⟨j, zz, q1, q2, q3, q4, q5, q6, q7, q8⟩ := F.elemInfo hk
 have hs : (sizeOf e).run P w = .ok 1 w := by simp [sizeOf, typeInfo, q1, q2, hesz]
 obtain ⟨a, cap, rfl, hyd⟩ := elemsO_rel hy hel
 rw [blk_bind] at hb
 obtain ⟨e1, he, hbr⟩ := hok.ent hb
 cases hx with | win cap' _ _ _ _ e' he' hg' hc =>
 rw [he] at he'; injection he' with he'; subst he'
 cases hbr with | cells _ vs ut hg hw hn hl hrel =>
 -- the first cells of the source
 let m := min ys.length len
 have hm : m ≤ ys.length := Nat.min_le_left _ _
 have hml : m ≤ len := Nat.min_le_right _ _
 obtain ⟨hn0, hcap, ysz, yl, _⟩ := hyd.row
 have hpre : DRel c.H (.slice a m (m + (cap - m))) (.os 1 (ys.take m)) := by
  have := hyd.subO (l := 0) (k := m) (m := cap) (Nat.zero_le _) hm (by omega) (by intro h0; have : cap = 0 := h0; omega)
  have hz : (if cap = 0 then a else a.map (·.add (0 * 1))) = a := by
   split
   ·rfl
   ·cases a with
    | none => rfl
    | some a => simp [Addr.add]
  rw [hz] at this
  simp only [Nat.sub_zero, List.drop_zero] at this
  have hcm : m + (cap - m) = cap := by omega
  rw [hcm]; exact this
 obtain ⟨yv, y1, y2, y3⟩ := run_firstCells (P := P) hok.mod hpre
 have y1' : (Builtin.firstCells 1 m (.slice a ys.length cap)).run P w = .ok yv.toArray w := by
  have e0 : ∀ n c, Builtin.firstCells 1 m (.slice a n c) = Builtin.firstCells 1 m (.slice a m (m + (cap - m))) := fun n c => by cases a <;> rfl
  rw [e0]; exact y1
 have hfl : flat (ys.take m) = ys.take m := flat_one fun q hq => hag q (List.mem_of_mem_take hq)
 have hyl : yv.length = m := by rw [y2, hfl, List.length_take]; omega
 have hone : ∀ q ∈ yv, q.oneCell' = true := fun q hq => by
  obtain ⟨k, hk', rfl⟩ := List.mem_iff_getElem.1 hq
  have hkf : k < (flat (ys.take m)).length := by omega
  have hlf : ((flat (ys.take m))[k]).leaf = true := yl _ (by
   have h1 : (flat (ys.take m))[k] ∈ flat (ys.take m) := List.getElem_mem _
   rw [flat_one hag]
   have h2 := h1
   generalize (flat (ys.take m))[k] = z at h2 ⊢
   rw [hfl] at h2
   exact List.mem_of_mem_take h2)
  have := (y3 k hkf).leaf_value hlf
  rw [List.getD_eq_getElem?_getD, List.getElem?_eq_getElem hk'] at this
  exact oneCell_of this
 have hle : off + yv.length ≤ vs.length := by omega
 have hst := run_storeCells_at (P := P) e1.b off ut yv 0 vs.toArray w hw (by simpa using hle) hone
 simp only [Nat.add_zero] at hst
 have hrun : (Builtin.copy_ #[t, u] ty #[.slice (some ⟨e1.b, off, none⟩) len cap', .slice a ys.length cap]).run P w = .ok (.int .i64 (m : Nat)) (w.setRow e1.b (vs.take off ++ yv ++ vs.drop (off + yv.length)).toArray) := by
  simp only [Builtin.copy_, List.getElem?_toArray, List.getElem?_cons_zero, List.getElem?_cons_succ, Sem.run_bind, F.run_underlying, Result.andThen_ok, hs, Builtin.lenOf, Sem.run_pure]
  have : Nat.min ys.length len = m := rfl
  rw [this, y1']
  simp only [Result.andThen_ok, hst]
  rfl
 refine ⟨_, _, c, _, _, hrun, by simp [World.setRow], Ctx.le.refl c, hok.upd (hok.ge _ _ _ he) he hg (fun b hb => setRow_other w _ b _ hb) (by simp [World.setRow]) rfl rfl rfl ?_ hr hi, .d _ _ (.int _ _), hK⟩
 refine .cells cs' _ ut hg (setRow_heap w _ _ _ ut _ hw) (by simp; omega) (fun x hx => ?_) fun k hk' => ?_
 ·obtain ⟨k, hk', rfl⟩ := List.mem_iff_getElem.1 hx
  have hkc : k < cs.length := by omega
  have := o3 k hkc hk'
  split at this
  ·obtain ⟨o, p1, p2⟩ := this
   rw [p2]
   show D.leaf _ = true
   have hol : (AV.d o).leaf = true := by rw [← p1]; exact hl _ (List.getElem_mem _)
   rw [List.getD_eq_getElem?_getD]
   cases hy0 : ys[0 + (k - off)]? with
   | none => exact hol
   | some y0 =>
    have hmem := List.mem_of_getElem? hy0
    refine yl y0 ?_
    rw [flat_one hag]; exact hmem
  ·rw [this]; exact hl _ (List.getElem_mem _)
 ·have hkc : k < cs.length := by omega
  have hold := hrel k hkc
  have hcase := o3 k hkc hk'
  have hgd := getD_mid (vs := yv) (cur := vs) (off := off) (j := k) (by omega)
  rw [hgd]
  by_cases hin : off ≤ k ∧ k < off + len
  ·rw [if_pos hin] at hcase
   obtain ⟨o, p1, p2⟩ := hcase
   rw [p1] at hold
   simp only [p2]
   rw [if_neg (by omega), List.getD_eq_getElem?_getD (l := ys)]
   by_cases hkm : k < off + yv.length
   ·rw [List.getElem?_eq_getElem (show 0 + (k - off) < ys.length by omega), Option.getD_some, if_pos hkm]
    have hb1 : k - off < (flat (ys.take m)).length := by omega
    have h3 := y3 (k - off) hb1
    have hel : (flat (ys.take m))[k - off]'hb1 = ys[0 + (k - off)]'(by omega) := by
     apply Option.some.inj
     rw [← List.getElem?_eq_getElem, ← List.getElem?_eq_getElem, hfl, List.getElem?_take, if_pos (by omega)]
     congr 1; omega
    rw [hel] at h3
    exact .d _ _ h3
   ·rw [List.getElem?_eq_none (by omega), Option.getD_none, if_neg hkm]
    exact hold
  ·rw [if_neg hin] at hcase
   simp only [hcase]
   by_cases hlo : k < off
   ·rw [if_pos hlo]; exact hold
   ·rw [if_neg hlo, if_neg (by omega)]; exact hold
end
end Go.Proofs.Ytemfpemejagndaa.Fw
namespace Go.Proofs.Ytemfpemejagndaa.Fw
open Go Go.RowKit Go.WideShapes
theorem DRel.nonil {H : Imm} {n cap sz : Nat} {xs : List D} (h : DRel H (.slice none n cap) (.os sz xs)) : xs = [] := by
 cases h with | os _ _ _ _ b o vals hcap hsz haa =>
 by_cases hne : xs = []
 ·exact hne
 ·have := haa hne; cases this
/-- a slice that is compared with nil -/
structure snil (xs : List D) (neg : Bool) (K : AV → Prop) : Prop where mk ::
 out : (xs = [] → K (.d (.bool (!neg)))) ∧ K (.d (.bool neg))
def snilOf (ti : TI) (op : BinOp) (x y : AV) : Option (List D × Bool) := match ti.kind with
 | .slice _ => match elemsO x, y with
  | some (_, xs), .nil 0 => match op with
   | .eql => some (xs, false)
   | .neq => some (xs, true)
   | _ => none
  | _, _ => none
 | _ => none
def abinP (ti : TI) (op : BinOp) (x y : AV) (K : AV → Prop) : Prop := match snilOf ti op x y with
 | some (xs, neg) => snil xs neg K
 | none => abin ti op x y K
theorem abinP_of {ti : TI} {op : BinOp} {x y : AV} {K : AV → Prop} (h : abin ti op x y K) : abinP ti op x y K := by
 unfold abinP
 cases hs : snilOf ti op x y with
 | none => exact h
 | some q =>
  exfalso
  unfold snilOf at hs
  split at hs
  ·rename_i e hk
   split at hs
   ·rename_i hx
    have hno : ∀ x : AV, aeq ti.kind x (.nil 0) = none := fun x => by simp [aeq, hk]
    cases x <;> simp [elemsO, elems] at hx
    ·rename_i x0
     cases x0 <;> simp [elems] at hx
     all_goals (cases op <;> simp at hs <;> simp [abin, hno] at h)
    all_goals (cases op <;> simp at hs <;> simp [abin, hno] at h)
   ·cases hs
  ·cases hs
def alenM (ti : TI) (fr : Frs) (x : AV) (K : AV → Prop) : Prop := match ti.kind with
 | .map _ _ => amapOf fr x fun es => K (.d (.int .i64 es.length))
 | _ => alen ti x K
theorem alenM_of {ti : TI} {fr : Frs} {x : AV} {K : AV → Prop} (h : alen ti x K) : alenM ti fr x K := by
 unfold alenM
 split
 ·rename_i hk; unfold alen at h; rw [hk] at h; exact h.elim
 ·exact h
section
variable {P : Program} {t : TypeId} {ti : TI} {i : TypeInfo} {d : TypeDesc} {z : Value} {c : Ctx} {fr : Frs} {w : World}
theorem s_lenM (F : TFacts P t ti i d z) (hok : Ok c fr w) {v : Value} {x : AV} (hx : VRel c v x) (ty : TypeId) {K : AV → Prop} (h : alenM ti fr x K) :
  ∃ v' r, (Builtin.len_ #[t] ty #[v]).run P w = .ok v' w ∧ VRel c v' r ∧ K r := by
 unfold alenM at h
 split at h
 ·rename_i k e hk
  have hd := F.map hk
  subst hd
  obtain ⟨es, hK, hm⟩ := s_mapOf hok hx h
  rcases hm with ⟨rfl, rfl⟩ | ⟨b, ms, clock, rfl, hw, hn, _, _⟩
  ·refine ⟨_, _, ?_, .d _ _ (.int _ _), hK⟩
   simp [Builtin.len_, F.run_underlying, goInt]
  ·refine ⟨_, _, ?_, .d _ _ (.int _ _), hK⟩
   have hms : ms.size = es.length := by simpa using hn
   simp [Builtin.len_, F.run_underlying, goInt, getObj, Sem.run, hw, hms]
 ·exact s_len F hx ty h
theorem s_abinP (F : TFacts P t ti i d z) (op : BinOp) {vx vy : Value} {x y : AV} (hx : VRel c vx x) (hy : VRel c vy y) (ox oy : Operand) {K : AV → Prop} (h : abinP ti op x y K) :
  ∃ v r, (do eqGuard op t ox oy vx vy; binOp op t vx vy : Sem Value).run P w = .ok v w ∧ VRel c v r ∧ K r := by
 unfold abinP at h
 split at h
 ·rename_i xs neg hp
  unfold snilOf at hp
  split at hp
  ·rename_i e hk
   split at hp
   ·rename_i sz xs' hel
    have he : elemsO x = some (sz, xs') := by first | exact hel | assumption
    obtain ⟨a, cap, rfl, hxd⟩ := elemsO_rel hx he
    cases hy with | nil _ =>
    have hd := F.slice hk
    have hu : P.underlying t = some (.slice e) := by rw [F.und, hd]
    have heq : (Op.equal t (.slice a xs'.length cap) (.slice none 0 0)).run P w = .ok a.isNone w := eq_deep fun n => by
     cases a <;> simp [Op.equalIn, hu, underlying]
    have hnil : a.isNone = true → xs' = [] := fun ha => by
     cases a with
     | some a => cases ha
     | none =>
      exact hxd.nonil
    have hg := eqGuard_pure op t ox oy (vx := .slice a xs'.length cap) (vy := .slice none 0 0) (by simp) (.inl (by simp))
    cases op <;> simp at hp
    ·obtain ⟨rfl, rfl⟩ := hp
     refine ⟨.bool a.isNone, _, ?_, .d _ _ (.bool _), ?_⟩
     ·rw [hg]; simp [Go.binOp, heq]
     ·cases ha : a.isNone with
      | true => exact h.out.1 (hnil ha)
      | false => exact h.out.2
    ·obtain ⟨rfl, rfl⟩ := hp
     refine ⟨.bool (!a.isNone), _, ?_, .d _ _ (.bool _), ?_⟩
     ·rw [hg]; simp [Go.binOp, heq]
     ·cases ha : a.isNone with
      | true => exact h.out.1 (hnil ha)
      | false => exact h.out.2
   ·cases hp
  ·cases hp
 ·exact s_abin F op hx hy ox oy h
end
end Go.Proofs.Ytemfpemejagndaa.Fw

