/- Keys of maps: data without addresses. -/
import Derived.Test.YtemfpemejagndaaFwW
import Derived.ChangeKeysEq
set_option autoImplicit false
set_option linter.unusedVariables false
set_option linter.unusedSimpArgs false
namespace Go.Proofs.Ytemfpemejagndaa.Fw
open Go Go.RowKit
attribute [local instance] Classical.propDecidable
/-- a datum of one cell that holds no address -/
def D.pv : D → Value
 | .bool b => .bool b
 | .int k n => .int k n
 | .str s => .string s
 | _ => default
def D.pl : D → Bool
 | .bool _ => true
 | .int _ _ => true
 | .str _ => true
 | _ => false
def fitK (d : TypeDesc) (c : D) : Bool := match d, c with
 | .bool, .bool _ => true
 | .int k, .int k' _ => k == k'
 | .string, .str _ => true
 | _, _ => false
def goK (P : Program) (k : TypeId → List D → Bool) (cs : List D) : Nat → List Field → Bool
 | off, [] => off == cs.length
 | off, f :: r => (f.offset == off) && (f.name != "_") && k f.type ((cs.drop off).take (P.cellsOf f.type)) && goK P k cs (off + P.cellsOf f.type) r
/-- cells as the type has them -/
def keyC (P : Program) : Nat → TypeId → List D → Bool
 | 0, _, _ => false
 | m + 1, t, cs => match P.underlying t with
  | some .bool => match cs with | [c] => fitK .bool c | _ => false
  | some (.int k) => match cs with | [c] => fitK (.int k) c | _ => false
  | some .string => match cs with | [c] => fitK .string c | _ => false
  | some (.array n e) => (P.info? e).isSome && (cs.length == P.cellsOf t) && (cs.length == n * P.cellsOf e) && (List.range' 0 n).all fun i => keyC P m e ((cs.drop (i * P.cellsOf e)).take (P.cellsOf e))
  | some (.struct fs) => (cs.length == P.cellsOf t) && !P.stoodInHeld t && goK P (keyC P m) cs 0 fs.toList
  | _ => false
/-- the value of these cells -/
def wrapK (P : Program) (t : TypeId) (cs : List D) : Value := match P.underlying t with
 | some (.array _ _) => .agg (cs.map D.pv).toArray
 | some (.struct _) => .agg (cs.map D.pv).toArray
 | _ => match cs with | [c] => c.pv | _ => default
section
variable {P : Program} (w : World)
theorem run_partK {m : Nat} {e : TypeId} {cs : List D} {off : Nat} (h : keyC P m e ((cs.drop off).take (P.cellsOf e)) = true) :
  (part e (cs.map D.pv).toArray off).run P w = .ok (wrapK P e ((cs.drop off).take (P.cellsOf e))) w := by
 cases m with
 | zero => simp [keyC] at h
 | succ m =>
  unfold keyC at h
  have one : ∀ {dk : TypeDesc} {c : D}, P.plainKey e = true → (cs.drop off).take (P.cellsOf e) = [c] → (part e (cs.map D.pv).toArray off).run P w = .ok c.pv w := by
   intro dk c hp hc
   refine run_part_plain w hp ?_
   have h1 : (cs.drop off)[0]? = some c := by
    have h2 : ((cs.drop off).take (P.cellsOf e))[0]? = some c := by rw [hc]; rfl
    rw [List.getElem?_take] at h2
    split at h2
    ·exact h2
    ·cases h2
   rw [List.getElem?_drop] at h1
   simp only [Nat.add_zero] at h1
   simp [h1]
  have agg : (∃ n e', P.underlying e = some (.array n e')) ∨ (∃ fs, P.underlying e = some (.struct fs)) → (part e (cs.map D.pv).toArray off).run P w = .ok (.agg (((cs.drop off).take (P.cellsOf e)).map D.pv).toArray) w := by
   intro hk
   have hu : ∃ d, P.underlying e = some d := by rcases hk with ⟨n, e', h⟩ | ⟨fs, h⟩ <;> exact ⟨_, h⟩
   obtain ⟨d, hu⟩ := hu
   obtain ⟨i, hi⟩ := info_of_underlying hu
   have hl : (cs.map D.pv).toArray.extract off (off + P.cellsOf e) = (((cs.drop off).take (P.cellsOf e)).map D.pv).toArray := by
    apply Array.ext'
    rw [Array.toList_extract]
    simp [List.extract, List.map_take, List.map_drop]
   rcases hk with ⟨n, e', h⟩ | ⟨fs, h⟩ <;> (rw [h] at hu; injection hu with hu; subst hu; simp [part, isAgg, run_underlying h, run_sizeOf w hi, hl])
  unfold wrapK
  cases hu : P.underlying e with
  | none => simp [hu] at h
  | some d =>
   cases d <;> simp only [hu] at h ⊢ <;> first | (cases h; done) | skip
   case bool =>
    split at h
    ·rename_i c hc
     have := one (dk := .bool) (by simp [Program.plainKey, hu]) hc
     simpa [hc] using this
    ·cases h
   case int k =>
    split at h
    ·rename_i c hc
     have := one (dk := .bool) (by simp [Program.plainKey, hu]) hc
     simpa [hc] using this
    ·cases h
   case string =>
    split at h
    ·rename_i c hc
     have := one (dk := .bool) (by simp [Program.plainKey, hu]) hc
     simpa [hc] using this
    ·cases h
   case array n e' => exact agg (.inl ⟨n, e', hu⟩)
   case struct fs => exact agg (.inr ⟨fs, hu⟩)
theorem bstr_beq (a b : ByteArray) : (a == b) = decide (a = b) := by
 have := bstr_eq a b
 by_cases h : a = b
 ·rw [this.2 h]; simp [h]
 ·cases hb : a == b
  ·simp [h]
  ·exact absurd (this.1 hb) h
theorem dec_two {α : Type} [DecidableEq α] (l l' : List α) (a b : Nat) : (decide ((l.drop a).take b = (l'.drop a).take b) && decide (l.drop (a + b) = l'.drop (a + b))) = decide (l.drop a = l'.drop a) := by
 rw [Bool.eq_iff_iff]
 simp only [Bool.and_eq_true, decide_eq_true_eq]
 constructor
 ·rintro ⟨h1, h2⟩
  rw [← List.take_append_drop b (l.drop a), ← List.take_append_drop b (l'.drop a), h1, List.drop_drop, List.drop_drop, h2]
 ·intro h
  rw [h, ← List.drop_drop, ← List.drop_drop, h]; simp
theorem run_equalK (n : Nat) : ∀ (m : Nat) (t : TypeId) (cs cs' : List D), keyC P m t cs = true → keyC P m t cs' = true → (Op.equalIn (n + m) t (wrapK P t cs) (wrapK P t cs')).run P w = .ok (decide (cs = cs')) w
 | 0, t, cs, cs', h, h' => by simp [keyC] at h
 | m + 1, t, cs, cs', h, h' => by
  have IH := run_equalK n m
  unfold keyC at h h'
  unfold wrapK
  rw [show n + (m + 1) = (n + m) + 1 from rfl]
  cases hu : P.underlying t with
  | none => simp [hu] at h
  | some d =>
   cases d <;> simp only [hu] at h h' ⊢ <;> first | (cases h; done) | skip
   case bool =>
    split at h <;> first | (simp at h; done) | skip
    split at h' <;> first | (simp at h'; done) | skip
    rename_i _ c _ c'
    cases c <;> first | (simp [fitK] at h; done) | skip
    cases c' <;> first | (simp [fitK] at h'; done) | skip
    rename_i a b
    show (Op.equalIn (n + m + 1) t (.bool a) (.bool b)).run P w = _
    rw [run_equalIn_bool' w _ t a b hu]
    congr 1
    cases a <;> cases b <;> simp
   case int k =>
    split at h <;> first | (simp at h; done) | skip
    split at h' <;> first | (simp at h'; done) | skip
    rename_i _ c _ c'
    cases c <;> first | (simp [fitK] at h; done) | skip
    cases c' <;> first | (simp [fitK] at h'; done) | skip
    rename_i k1 a k2 b
    have h : k = k1 := by simpa [fitK] using h
    have h' : k = k2 := by simpa [fitK] using h'
    subst h; subst h'
    show (Op.equalIn (n + m + 1) t (.int k a) (.int k b)).run P w = _
    rw [run_equalIn_int w _ t k k a b hu]
    congr 1
    rw [Bool.eq_iff_iff]; simp
   case string =>
    split at h <;> first | (simp at h; done) | skip
    split at h' <;> first | (simp at h'; done) | skip
    rename_i _ c _ c'
    cases c <;> first | (simp [fitK] at h; done) | skip
    cases c' <;> first | (simp [fitK] at h'; done) | skip
    rename_i a b
    show (Op.equalIn (n + m + 1) t (.string a) (.string b)).run P w = _
    rw [run_equalIn_string w _ t a b hu, ← beq_toListBytes, bstr_beq]
    congr 1
    rw [Bool.eq_iff_iff]; simp
   case array k e =>
    simp only [Bool.and_eq_true, List.all_eq_true, beq_iff_eq] at h h'
    obtain ⟨⟨⟨h0, h1⟩, h2⟩, h3⟩ := h
    obtain ⟨⟨⟨_, h1'⟩, h2'⟩, h3'⟩ := h'
    have key : ∀ (k s : Nat), (∀ i ∈ List.range' s k, keyC P m e ((cs.drop (i * P.cellsOf e)).take (P.cellsOf e)) = true) → (∀ i ∈ List.range' s k, keyC P m e ((cs'.drop (i * P.cellsOf e)).take (P.cellsOf e)) = true) → cs.length = (s + k) * P.cellsOf e → cs'.length = (s + k) * P.cellsOf e →
      (Op.eqItems (n + m) e (P.cellsOf e) (cs.map D.pv).toArray (cs'.map D.pv).toArray (List.range' s k)).run P w = .ok (decide (cs.drop (s * P.cellsOf e) = cs'.drop (s * P.cellsOf e))) w := by
     intro k
     induction k with
     | zero =>
      intro s _ _ hl hl'
      rw [List.drop_eq_nil_of_le (by simp at hl; omega), List.drop_eq_nil_of_le (by simp at hl'; omega)]
      simp [Op.eqItems]
     | succ k ih =>
      intro s a1 a2 hl hl'
      have b1 := a1 s (by simp [List.range'_succ])
      have b2 := a2 s (by simp [List.range'_succ])
      have hi := ih (s + 1) (fun i hi => a1 i (by simp [List.range'_succ] at hi ⊢; omega)) (fun i hi => a2 i (by simp [List.range'_succ] at hi ⊢; omega)) (by rw [hl]; congr 1; omega) (by rw [hl']; congr 1; omega)
      rw [List.range'_succ]
      simp only [Op.eqItems, Sem.run_bind, run_partK w b1, run_partK w b2, Result.andThen_ok, IH e _ _ b1 b2]
      have := dec_two cs cs' (s * P.cellsOf e) (P.cellsOf e)
      rw [← this]
      rw [Nat.succ_mul] at hi
      cases hd : decide (((cs.drop (s * P.cellsOf e)).take (P.cellsOf e)) = (cs'.drop (s * P.cellsOf e)).take (P.cellsOf e)) with
      | false => simp
      | true => simp [hi]
    have hk := Option.isSome_iff_exists.1 h0
    obtain ⟨i, hi⟩ := hk
    rw [run_equalIn_array w (n + m) _ _ hu hi, List.range_eq_range', key k 0 h3 h3' (by simpa using h2) (by simpa using h2')]
    simp
   case struct fs =>
    simp only [Bool.and_eq_true, Bool.not_eq_true', beq_iff_eq] at h h'
    obtain ⟨⟨h1, h2⟩, h3⟩ := h
    obtain ⟨⟨h1', _⟩, h3'⟩ := h'
    have hf : P.fieldsOf t = fs := by simp [Program.fieldsOf, hu]
    rw [run_equalIn_struct w (n + m) t _ _ (by rw [hf]; exact hu) h2, hf]
    have key : ∀ (L : List Field) (off : Nat), goK P (keyC P m) cs off L = true → goK P (keyC P m) cs' off L = true →
      (Op.eqFields (n + m) (cs.map D.pv).toArray (cs'.map D.pv).toArray L).run P w = .ok (decide (cs.drop off = cs'.drop off)) w := by
     intro L
     induction L with
     | nil =>
      intro off a a'
      simp only [goK, beq_iff_eq] at a a'
      rw [List.drop_eq_nil_of_le (by omega), List.drop_eq_nil_of_le (by omega)]
      simp [Op.eqFields]
     | cons f L ih =>
      intro off a a'
      simp only [goK, Bool.and_eq_true, bne_iff_ne, ne_eq, beq_iff_eq] at a a'
      obtain ⟨⟨⟨ho, hn⟩, b1⟩, r1⟩ := a
      obtain ⟨⟨⟨_, _⟩, b2⟩, r2⟩ := a'
      have hi := ih _ r1 r2
      simp only [Op.eqFields, hn, ne_eq, not_false_eq_true, if_true, Sem.run_bind, ho, run_partK w b1, run_partK w b2, Result.andThen_ok, IH f.type _ _ b1 b2]
      rw [← dec_two cs cs' off (P.cellsOf f.type)]
      cases hd : decide (((cs.drop off).take (P.cellsOf f.type)) = (cs'.drop off).take (P.cellsOf f.type)) with
      | false => simp
      | true => simp [hi]
    have := key fs.toList 0 h3 h3'
    simpa using this
theorem run_checkK (em : Bool) (n : Nat) : ∀ (m : Nat) (t : TypeId) (cs : List D), keyC P m t cs = true → (Instr.checkKey em (n + m) t (wrapK P t cs)).run P w = .ok () w
 | 0, t, cs, h => by simp [keyC] at h
 | m + 1, t, cs, h => by
  have IH := run_checkK em n m
  unfold keyC at h
  unfold wrapK
  rw [show n + (m + 1) = (n + m) + 1 from rfl]
  cases hu : P.underlying t with
  | none => simp [hu] at h
  | some d =>
   cases d <;> simp only [hu] at h ⊢ <;> first | (cases h; done) | skip
   case bool => simp [Instr.checkKey, run_underlying hu]
   case int k => simp [Instr.checkKey, run_underlying hu]
   case string => simp [Instr.checkKey, run_underlying hu]
   case array k e =>
    simp only [Bool.and_eq_true, List.all_eq_true, beq_iff_eq] at h
    obtain ⟨⟨⟨h0, h1⟩, h2⟩, h3⟩ := h
    obtain ⟨i, hi⟩ := Option.isSome_iff_exists.1 h0
    rw [Instr.checkKey]
    simp only [Sem.run_bind, run_underlying hu, Result.andThen_ok]
    simp only [Std.Legacy.Range.forIn_eq_forIn_range', Std.Legacy.Range.size, Nat.sub_zero, Nat.add_one_sub_one, Nat.div_one]
    clear h2
    generalize List.range' 0 k = is at h3
    induction is with
    | nil => simp
    | cons j is ih =>
     have b1 := h3 j (by simp)
     simp only [List.forIn_cons, Sem.run_bind, run_sizeOf w hi, Result.andThen_ok, run_partK w b1, IH e _ b1, Sem.run_pure]
     exact ih (fun y hy => h3 y (by simp [hy]))
   case struct fs =>
    simp only [Bool.and_eq_true, Bool.not_eq_true', beq_iff_eq] at h
    obtain ⟨⟨h1, h2⟩, h3⟩ := h
    rw [Instr.checkKey]
    simp only [Sem.run_bind, run_underlying hu, Result.andThen_ok]
    rw [← Array.forIn_toList]
    have key : ∀ (L : List Field) (off : Nat), goK P (keyC P m) cs off L = true →
      (forIn L PUnit.unit fun f (_ : PUnit) => (do if f.name ≠ "_" then (do Instr.checkKey em (n + m) f.type (← part f.type (cs.map D.pv).toArray f.offset); pure (ForInStep.yield PUnit.unit)) else pure (ForInStep.yield PUnit.unit) : Sem (ForInStep PUnit))).run P w = .ok PUnit.unit w := by
     intro L
     induction L with
     | nil => intro off a; simp
     | cons f L ih =>
      intro off a
      simp only [goK, Bool.and_eq_true, bne_iff_ne, ne_eq, beq_iff_eq] at a
      obtain ⟨⟨⟨ho, hn⟩, b1⟩, r1⟩ := a
      have hi := ih _ r1
      simp only [List.forIn_cons, Sem.run_bind, hn, ne_eq, not_false_eq_true, if_true, ho, run_partK w b1, IH f.type _ b1, Result.andThen_ok, Sem.run_pure]
      exact hi
    have := key fs.toList 0 h3
    simp at this
    simp [this]
end

theorem pv_of {H : Imm} {v : Value} {c : D} (h : DRel H v c) (hp : c.pl = true) : v = c.pv := by
 cases h <;> first | rfl | cases hp
theorem sameBits_pv : ∀ (c : D) (n : Nat), c.pl = true → Instr.sameBits n c.pv c.pv = true
 | .bool b, n, _ => by show Instr.sameBits n (.bool b) (.bool b) = true; simp [Instr.sameBits]
 | .int k b, n, _ => by show Instr.sameBits n (.int k b) (.int k b) = true; simp [Instr.sameBits]
 | .str s, n, _ => by show Instr.sameBits n (.string s) (.string s) = true; simp [Instr.sameBits, bstr_beq]
 | .slice _ _, n, h => by simp [D.pl] at h
 | .agg _, n, h => by simp [D.pl] at h
 | .tuple _, n, h => by simp [D.pl] at h
 | .ptr _, n, h => by simp [D.pl] at h
 | .nilptr, n, h => by simp [D.pl] at h
 | .func _ _ _, n, h => by simp [D.pl] at h
 | .nilfunc, n, h => by simp [D.pl] at h
 | .iface _ _, n, h => by simp [D.pl] at h
 | .nilIface, n, h => by simp [D.pl] at h
 | .nilmap, n, h => by simp [D.pl] at h
 | .map _, n, h => by simp [D.pl] at h
/-- a datum as a key of this type -/
def keyD (P : Program) (m : Nat) (t : TypeId) (x : D) : Bool :=
 (match P.underlying t with | some (.array _ _) => x.isAgg | some (.struct _) => x.isAgg | _ => !x.isAgg) && x.cells.all D.pl && keyC P m t x.cells
theorem wrap_of {P : Program} {m : Nat} {t : TypeId} {H : Imm} {v : Value} {x : D} (hv : DRel H v x) (h : keyD P m t x = true) : v = wrapK P t x.cells := by
 simp only [keyD, Bool.and_eq_true, List.all_eq_true] at h
 obtain ⟨⟨h1, h2⟩, h3⟩ := h
 have agg : x.isAgg = true → v = .agg (x.cells.map D.pv).toArray := fun ha => by
  cases hv <;> first | (cases ha; done) | skip
  rename_i vs cs hn hl hr
  congr 2
  refine List.ext_getElem (by simpa [D.cells] using hn) fun i g1 g2 => ?_
  have g3 : i < cs.length := by omega
  have := pv_of (hr i g3) (h2 _ (List.getElem_mem _))
  rw [List.getD_eq_getElem?_getD, List.getElem?_eq_getElem g1] at this
  simpa [D.cells] using this
 have plain : x.isAgg = false → v = (match x.cells with | [c] => c.pv | _ => default) := fun ha => by
  have hc := noagg_cells ha
  rw [hc] at h2 ⊢
  exact pv_of hv (h2 x (by simp))
 unfold wrapK
 cases hu : P.underlying t with
 | none => rw [hu] at h1; exact plain (by simpa using h1)
 | some d =>
  rw [hu] at h1
  cases d <;> first | exact agg h1 | exact plain (by simpa using h1)
theorem cells_inj {x y : D} (h : x.isAgg = y.isAgg) (e : x.cells = y.cells) : x = y := by
 cases hx : x.isAgg with
 | false => rw [hx] at h; rw [noagg_cells hx, noagg_cells h.symm] at e; injection e
 | true =>
  rw [hx] at h
  cases x <;> first | (cases hx; done) | skip
  cases y <;> first | (cases h; done) | skip
  simp only [D.cells] at e; rw [e]
theorem keyT_of {P : Program} {m : Nat} (hm : m ≤ 10000) {t : TypeId} {K : D → Prop} (hK : ∀ x, K x → keyD P m t x = true) : KeyT P t K where
 eq := fun H v v' x x' w hv hv' k k' => by
  have a := hK x k
  have a' := hK x' k'
  rw [wrap_of hv a, wrap_of hv' a']
  have hag : x.isAgg = x'.isAgg := by
   simp only [keyD, Bool.and_eq_true] at a a'
   have b := a.1.1; have b' := a'.1.1
   split at b <;> simp_all
  simp only [keyD, Bool.and_eq_true] at a a'
  have := run_equalK w (10000 - m) m t _ _ a.2 a'.2
  rw [show 10000 - m + m = 10000 by omega] at this
  show (Op.equalIn 10000 t _ _).run P w = _
  rw [this]
  congr 1
  rw [Bool.eq_iff_iff]
  simp only [decide_eq_true_eq]
  exact ⟨fun e => cells_inj hag e, fun e => by rw [e]⟩
 chk := fun H v x w b hv k => by
  have a := hK x k
  rw [wrap_of hv a]
  simp only [keyD, Bool.and_eq_true] at a
  have := run_checkK w b (10000 - m) m t _ a.2
  rwa [show 10000 - m + m = 10000 by omega] at this
 same := fun H v v' x hv hv' k => by
  have a := hK x k
  rw [wrap_of hv a, wrap_of hv' a]
  simp only [keyD, Bool.and_eq_true, List.all_eq_true] at a
  have agg : Instr.sameBits 10000 (.agg (x.cells.map D.pv).toArray) (.agg (x.cells.map D.pv).toArray) = true := by
   show Instr.sameBits (9999 + 1) _ _ = true
   simp only [Instr.sameBits, beq_self_eq_true, Bool.true_and, List.all_eq_true]
   intro p hp
   obtain ⟨i, hi, e⟩ := List.getElem_of_mem hp
   rw [List.getElem_zip] at e
   rw [← e]
   simp only [List.getElem_map]
   exact sameBits_pv _ _ (a.1.2 _ (List.getElem_mem _))
  have plain : x.isAgg = false → Instr.sameBits 10000 (match x.cells with | [c] => c.pv | _ => default) (match x.cells with | [c] => c.pv | _ => default) = true := fun ha => by
   have hc := noagg_cells ha
   have h2 := a.1.2
   rw [hc] at h2 ⊢
   exact sameBits_pv _ _ (h2 x (by simp))
  have h1 := a.1.1
  unfold wrapK
  cases hu : P.underlying t with
  | none => rw [hu] at h1; exact plain (by simpa using h1)
  | some d =>
   rw [hu] at h1
   cases d <;> first | exact agg | exact plain (by simpa using h1)
theorem keyF_of {P : Program} {m : Nat} (hm : m ≤ 10000) {t : TypeId} {α : Type} {f : α → D} (inj : ∀ a b, f a = f b → a = b) (hK : ∀ a, keyD P m t (f a) = true) : KeyF P t f :=
 ⟨inj, keyT_of hm fun x ⟨a, e⟩ => e ▸ hK a⟩
end Go.Proofs.Ytemfpemejagndaa.Fw

