/- The orders of a region: what `linearise` may give. -/
import Derived.Test.YtjkbljgolcdhhaaGreatDoorCE
set_option autoImplicit false
set_option linter.unusedVariables false
set_option linter.constructorNameAsVariable false
set_option linter.unusedSimpArgs false
namespace Go.Proofs.YtjkbljgolcdhhaaGreatDoor.Fw.Cm
open Go Go.RowKit Go.WideShapes
theorem sNat_eq' (n : Nat) (k : Nat → R) : sNat n k = k n := by cases n <;> rfl
/-- all operations that are not yet listed, each behind those that bind it -/
inductive Lin (ops : Array Oper) : (Nat → Prop) → List Nat → Prop
  | nil {L : Nat → Prop} (h : ∀ i, i < ops.size → L i) : Lin ops L []
  | cons {L L' : Nat → Prop} {i : Nat} {o : Oper} {σ : List Nat} (ho : ops[i]? = some o) (hn : ¬ L i) (he : ∀ e ∈ o.after, Region.binds .any e = true → L e.on) (hL : ∀ j, L' j ↔ L j ∨ j = i) (h : Lin ops L' σ) : Lin ops L (i :: σ)
/-- no operation is bound by a later one -/
def fwd (ops : Array Oper) : Prop := ∀ i o, ops[i]? = some o → ∀ e ∈ o.after, Region.binds .any e = true → e.on < i
theorem go_lin {ops : Array Oper} (hf : fwd ops) : ∀ (fuel t : Nat) (listed : Array Bool) (acc : List Nat), listed.size = ops.size → (∀ m : Nat, (((List.range ops.size).filter fun i => !listed.getD i true).length ≤ fuel)) →
    ∃ σ, Region.linearise.go .any ops fuel t listed acc = acc.reverse ++ σ ∧ Lin ops (fun i => listed.getD i false = true) σ := by
  intro fuel
  induction fuel with
  | zero =>
    intro t listed acc hs hm
    refine ⟨[], by simp [Region.linearise.go], .nil fun i hi => ?_⟩
    have h0 := List.eq_nil_of_length_eq_zero (Nat.le_zero.1 (hm 0))
    rw [List.filter_eq_nil_iff] at h0
    have := h0 i (by simpa using hi)
    simp [Array.getD_eq_getD_getElem?, Array.getElem?_eq_getElem (hs ▸ hi : i < listed.size)] at this ⊢
    exact this
  | succ fuel ih =>
    intro t listed acc hs hm
    unfold Region.linearise.go
    simp only
    split
    · rename_i i hi
      have hmem := List.mem_of_getElem? hi
      rw [List.mem_filter] at hmem
      obtain ⟨h1, h2⟩ := hmem
      have h1 : i < ops.size := by simpa using h1
      have hil : i < listed.size := hs ▸ h1
      simp only [Bool.and_eq_true, Bool.not_eq_true'] at h2
      obtain ⟨h2, h3⟩ := h2
      have ho : ops[i]? = some ops[i] := Array.getElem?_eq_getElem h1
      rw [ho] at h3
      simp only [Option.map_some, Option.getD_some] at h3
      have hli : listed[i] = false := by simpa [Array.getD_eq_getD_getElem?, Array.getElem?_eq_getElem hil] using h2
      have hL : ∀ j, (listed.setIfInBounds i true).getD j false = true ↔ (listed.getD j false = true ∨ j = i) := by
        intro j
        rw [Array.getD_eq_getD_getElem?, Array.getD_eq_getD_getElem?, Array.getElem?_setIfInBounds]
        by_cases hji : i = j
        · subst hji; simp [hil]
        · rw [if_neg hji]; constructor
          · exact .inl
          · rintro (h | h)
            · exact h
            · exact absurd h.symm hji
      have hm' : ∀ m : Nat, ((List.range ops.size).filter fun j => !(listed.setIfInBounds i true).getD j true).length ≤ fuel := by
        intro _
        have hlt : ((List.range ops.size).filter fun j => !(listed.setIfInBounds i true).getD j true).length < ((List.range ops.size).filter fun j => !listed.getD j true).length := by
          have hsub : ∀ (l : List Nat), i ∈ l → l.Nodup → (l.filter fun j => !(listed.setIfInBounds i true).getD j true).length + 1 ≤ (l.filter fun j => !listed.getD j true).length := by
            intro l hil' hnd
            have e1 : (l.filter fun j => !(listed.setIfInBounds i true).getD j true) = (l.filter fun j => !listed.getD j true).filter fun j => j != i := by
              rw [List.filter_filter]
              apply List.filter_congr
              intro j _
              rw [Array.getD_eq_getD_getElem?, Array.getD_eq_getD_getElem?, Array.getElem?_setIfInBounds]
              by_cases hji : i = j
              · subst hji; simp [hil]
              · have : (j != i) = true := by simpa using fun h : j = i => hji h.symm
                rw [if_neg hji, this]; simp
            rw [e1]
            have hin : i ∈ l.filter fun j => !listed.getD j true := List.mem_filter.2 ⟨hil', by simp [Array.getD_eq_getD_getElem?, Array.getElem?_eq_getElem hil, hli]⟩
            generalize (l.filter fun j => !listed.getD j true) = q at hin
            have : ∀ (q : List Nat), i ∈ q → (q.filter fun j => j != i).length + 1 ≤ q.length := by
              intro q
              induction q with
              | nil => intro h; cases h
              | cons a q ihq =>
                intro h
                by_cases ha : a = i
                · subst ha
                  simp only [List.filter_cons, bne_self_eq_false, Bool.false_eq_true, if_false, List.length_cons]
                  have := List.length_filter_le (fun j => j != a) q
                  omega
                · have hi' : i ∈ q := by
                    rcases List.mem_cons.1 h with h | h
                    · exact absurd h.symm ha
                    · exact h
                  have hb : (a != i) = true := by simpa using ha
                  simp only [List.filter_cons, hb, if_true, List.length_cons]
                  have := ihq hi'
                  omega
            exact this q hin
          exact hsub _ (by simpa using h1) List.nodup_range
        have := hm 0
        omega
      obtain ⟨σ, h4, h5⟩ := ih (t / ((List.range ops.size).filter fun i => !listed.getD i true && ((ops[i]?).map (·.after.all fun e => !Region.binds .any e || listed.getD e.on false)).getD false).length) (listed.setIfInBounds i true) (i :: acc) (by simpa using hs) hm'
      refine ⟨i :: σ, by rw [h4]; simp, .cons ho ?_ ?_ hL h5⟩
      · simp [Array.getD_eq_getD_getElem?, Array.getElem?_eq_getElem hil, hli]
      · intro e he hb
        rw [Array.all_eq_true'] at h3
        have := h3 e he
        simpa [hb] using this
    · rename_i hnone
      -- none is ready: then none is left
      refine ⟨[], by simp, .nil fun i hi => ?_⟩
      have hemp : ((List.range ops.size).filter fun i => !listed.getD i true && ((ops[i]?).map (·.after.all fun e => !Region.binds .any e || listed.getD e.on false)).getD false) = [] := by
        cases hq : ((List.range ops.size).filter fun i => !listed.getD i true && ((ops[i]?).map (·.after.all fun e => !Region.binds .any e || listed.getD e.on false)).getD false) with
        | nil => rfl
        | cons a q =>
          rw [hq] at hnone
          have : t % (a :: q).length < (a :: q).length := Nat.mod_lt _ (by simp)
          rw [List.getElem?_eq_getElem this] at hnone
          cases hnone
      rw [List.filter_eq_nil_iff] at hemp
      induction i using Nat.strongRecOn with
      | _ i ihi =>
        have hil : i < listed.size := hs ▸ hi
        have := hemp i (by simpa using hi)
        by_cases hli : listed[i] = true
        · simp [Array.getD_eq_getD_getElem?, Array.getElem?_eq_getElem hil, hli]
        · exfalso
          apply this
          have ho : ops[i]? = some ops[i] := Array.getElem?_eq_getElem hi
          rw [ho]
          simp only [Bool.and_eq_true, Bool.not_eq_true', Option.map_some, Option.getD_some]
          refine ⟨by simp [Array.getD_eq_getD_getElem?, Array.getElem?_eq_getElem hil]; simpa using hli, ?_⟩
          rw [Array.all_eq_true']
          intro e he
          by_cases hb : Region.binds .any e = true
          · have hlt := hf i _ ho e he hb
            have := ihi e.on hlt (by omega)
            simp [hb, this]
          · simp [hb]
theorem lin_schedule {ops : Array Oper} (hf : fwd ops) (t : Nat) : Lin ops (fun _ => False) (Region.schedule true ops t) := by
  unfold Region.schedule
  simp only [Bool.true_or, if_true]
  unfold Region.linearise
  obtain ⟨σ, h1, h2⟩ := go_lin hf ops.size t (Array.replicate ops.size false) [] (by simp) (fun _ => by
    have := List.length_filter_le (fun i => !(Array.replicate ops.size false).getD i true) (List.range ops.size)
    simpa using this)
  rw [h1]
  simp only [List.reverse_nil, List.nil_append]
  have e : (fun i => (Array.replicate ops.size false).getD i false = true) = fun _ => False := by
    funext i
    rw [Array.getD_eq_getD_getElem?, Array.getElem?_replicate]
    split <;> simp
  rw [← e]; exact h2
end Go.Proofs.YtjkbljgolcdhhaaGreatDoor.Fw.Cm

/- What an operation does depends on its operands alone. -/
namespace Go.Proofs.YtjkbljgolcdhhaaGreatDoor.Fw.Cm
open Go Go.RowKit Go.WideShapes
variable {P : Program} {T : TT}
/-- two environments agree at an operand -/
def agr (e e' : E) (x : Operand) : Prop := ∀ g, evb x = .mk g → g e = g e'
theorem evl_congr {e e' : E} : ∀ {l : List Operand} {g : E → (W → R) → R}, evl l = .mk g → (∀ x ∈ l, agr e e' x) → ∀ k, g e k = g e' k
  | [], g, h, _ => by injection h with h; subst h; intro k; rfl
  | x :: l, g, h, hx => by
    have h' : GBo.rec (motive := fun _ => GL) (fun f => GL.rec (motive := fun _ => GL) (fun g => .mk fun e k => g e fun r => k (.tu (f e) r)) .no (evl l)) .no (evb x) = GL.mk g := h
    cases hf : evb x with
    | no => rw [hf] at h'; cases h'
    | mk f0 =>
      rw [hf] at h'
      cases hl : evl l with
      | no => rw [hl] at h'; cases h'
      | mk g0 =>
        rw [hl] at h'; injection h' with h'; subst h'
        intro k
        show g0 e _ = g0 e' _
        rw [hx x (List.mem_cons_self ..) f0 hf, evl_congr hl (fun y hy => hx y (List.mem_cons_of_mem _ hy))]
theorem optN_congr {e e' : E} {x : Option Operand} {o : Option (E → W)} (h : OptO x o) (hx : ∀ y ∈ x.toArray, agr e e' y) (d : Nat) (k : Nat → R) : optN o d e k = optN o d e' k := by
  cases h with
  | none => rfl
  | some y f hy =>
    have := hx y (by simp) f hy
    show (f e).v _ = (f e').v _
    rw [this]
theorem binB_congr {t : TypeId} {ti : TI} {op : BinOp} {a b : E → W} {f : Op'} (h : binB P t ti op a b = .mk f) {e e' : E} (ha : a e = a e') (hb : b e = b e') : ∀ rc h top K, f rc e h top K = f rc e' h top K := by
  have eqn : ∀ {op : BinOp} {g : Bool → Op'} {f : Op'}, (∀ n rc h top K, g n rc e h top K = g n rc e' h top K) → eqneq op g = .mk f → ∀ rc h top K, f rc e h top K = f rc e' h top K := by
    intro op g f hg h
    unfold eqneq at h
    split at h <;> first | (injection h with h; subst h; exact hg _) | cases h
  have eqo : ∀ cmp (n : Bool) rc h top K, eqO cmp n a b rc e h top K = eqO cmp n a b rc e' h top K := by
    intro cmp n rc h top K; simp only [eqO, two, ha, hb]
  unfold binB at h
  split at h
  · unfold binI at h
    split at h <;> first | (injection h with h; subst h; intro rc h top K; simp only [intA, intD, intC, two2, two, ha, hb]; done) | cases h
  · unfold binS at h
    split at h <;> first | (injection h with h; subst h; intro rc h top K; simp only [strC, strA, two, ha, hb]; done) | cases h
  · exact eqn (eqo _) h
  · split at h
    · split at h
      · cases h
      · exact eqn (eqo _) h
    · cases h
  · exact eqn (eqo _) h
  · exact eqn (eqo _) h
  · exact eqn (eqo _) h
  · split at h
    · split at h
      · rename_i ks _ _ _
        cases hq : eqFs ks with
        | mk q =>
          rw [hq] at h
          refine eqn ?_ h
          intro n rc h top K
          simp only [eqA, ha, hb]
      · cases h
    · cases h
  · split at h
    · split at h
      · exact eqn (eqo _) h
      · cases h
    · cases h
  · cases h
theorem partB_congr {n : Nat} {place : Nat → Option (Nat × Nat)} {e e' : E} : ∀ {ps : List (Nat × Operand)} {g : E → L → (L → R) → R}, partB n place ps = .mk g → (∀ q ∈ ps, agr e e' q.2) → ∀ l k, g e l k = g e' l k
  | [], g, h, _ => by injection h with h; subst h; intro l k; rfl
  | q :: ps, g, h, hx => by
    have h' : Option.rec (motive := fun _ => PB) .no (fun os => Bool.rec (motive := fun _ => PB) .no (GBo.rec (motive := fun _ => PB) (fun f => PB.rec (motive := fun _ => PB) (fun g => .mk fun e l k => (f e).cells fun cs => gd (Nat.beq cs.len os.2) (g e (cs.put os.1 l) k)) .no (partB n place ps)) .no (evb q.2)) (Nat.ble (os.1 + os.2) n)) (place q.1) = .mk g := h
    cases hp : place q.1 with
    | none => rw [hp] at h'; cases h'
    | some os =>
      rw [hp] at h'
      simp only at h'
      cases hb : Nat.ble (os.1 + os.2) n with
      | false => rw [hb] at h'; cases h'
      | true =>
        rw [hb] at h'
        simp only at h'
        cases hf : evb q.2 with
        | no => rw [hf] at h'; cases h'
        | mk f0 =>
          rw [hf] at h'
          simp only at h'
          cases hl : partB n place ps with
          | no => rw [hl] at h'; cases h'
          | mk g0 =>
            rw [hl] at h'; injection h' with h'; subst h'
            intro l k
            have h1 := hx q (List.mem_cons_self ..) f0 hf
            have h2 := partB_congr hl (fun y hy => hx y (List.mem_cons_of_mem _ hy))
            simp only [h1, h2]
set_option maxHeartbeats 2000000 in
theorem op_congr (hT : T.okB P = true) {o : Oper} {f : Op'} (h : opB P T o = .mk f) {e e' : E} (hx : ∀ x ∈ o.op.operands, agr e e' x) : ∀ rc h top K, f rc e h top K = f rc e' h top K := by
  obtain ⟨dst, op, ty, pos, after, guard⟩ := o
  replace hx : ∀ x ∈ op.operands, agr e e' x := hx
  unfold opB at h
  split at h
  all_goals rename_i hop
  all_goals (try (have hop : op = _ := hop; subst hop))
  · obtain ⟨g, h1, h⟩ := oB_ok h; injection h with h; subst h
    have a1 := hx _ (by simp [Op.operands]) _ h1
    intro rc h top K; simp only [oMove, a1]
  · obtain ⟨g, h1, h⟩ := oB_ok h; injection h with h; subst h
    have a1 := hx _ (by simp [Op.operands]) _ h1
    intro rc h top K; simp only [oMove, a1]
  · rename_i c a b
    obtain ⟨g1, h1, h⟩ := oB_ok h; obtain ⟨g2, h2, h⟩ := oB_ok h; obtain ⟨g3, h3, h⟩ := oB_ok h; injection h with h; subst h
    have a1 := hx c (by simp [Op.operands]) _ h1
    have a2 := hx a (by simp [Op.operands]) _ h2
    have a3 := hx b (by simp [Op.operands]) _ h3
    intro rc h top K; simp only [oPick, a1, a2, a3]
  · obtain ⟨ti, i, d, z, F, h⟩ := tB_ok hT h; obtain ⟨l, hl, h⟩ := zl_ok h; injection h with h; subst h
    intro rc h top K; rfl
  · obtain ⟨g, h1, h⟩ := oB_ok h; injection h with h; subst h
    have a1 := hx _ (by simp [Op.operands]) _ h1
    intro rc h top K; simp only [oBox, a1]
  · obtain ⟨ti, i, d, z, F, h⟩ := tB_ok hT h; obtain ⟨g, h1, h⟩ := oB_ok h; injection h with h; subst h
    have a1 := hx _ (by simp [Op.operands]) _ h1
    intro rc h top K; simp only [oLoad, a1]
  · rename_i t a v
    obtain ⟨ti, i, d, z, F, h⟩ := tB_ok hT h; obtain ⟨g1, h1, h⟩ := oB_ok h; obtain ⟨g2, h2, h⟩ := oB_ok h; injection h with h; subst h
    have a1 := hx a (by simp [Op.operands]) _ h1
    have a2 := hx v (by simp [Op.operands]) _ h2
    intro rc h top K; simp only [oStore, a1, a2]
  · obtain ⟨ti, i, d, z, F, h⟩ := tB_ok hT h; obtain ⟨g, h1, h⟩ := oB_ok h
    have a1 := hx _ (by simp [Op.operands]) _ h1
    split at h
    · split at h
      · cases h
      · injection h with h; subst h; intro rc h top K; simp only [oFieldAddr, a1]
    · cases h
  · obtain ⟨ti, i, d, z, F, h⟩ := tB_ok hT h; obtain ⟨g, h1, h⟩ := oB_ok h
    have a1 := hx _ (by simp [Op.operands]) _ h1
    split at h
    · injection h with h; subst h; intro rc h top K; simp only [oField, a1]
    · cases h
  · rename_i t x i
    obtain ⟨ti, _, d, z, F, h⟩ := tB_ok hT h; obtain ⟨g1, h1, h⟩ := oB_ok h; obtain ⟨g2, h2, h⟩ := oB_ok h
    have a1 := hx x (by simp [Op.operands]) _ h1
    have a2 := hx i (by simp [Op.operands]) _ h2
    split at h
    · injection h with h; subst h; intro rc h top K; simp only [oIndexAddr, two, a1, a2]
    · cases h
  · rename_i t x i
    obtain ⟨ti, _, d, z, F, h⟩ := tB_ok hT h; obtain ⟨g1, h1, h⟩ := oB_ok h; obtain ⟨g2, h2, h⟩ := oB_ok h
    have a1 := hx x (by simp [Op.operands]) _ h1
    have a2 := hx i (by simp [Op.operands]) _ h2
    split at h
    · injection h with h; subst h; intro rc h top K; simp only [oIndex, two, a1, a2]
    · cases h
  · obtain ⟨g, h1, h⟩ := oB_ok h; injection h with h; subst h
    have a1 := hx _ (by simp [Op.operands]) _ h1
    intro rc h top K; simp only [oExtract, a1]
  · obtain ⟨g, h1, h⟩ := oB_ok h; injection h with h; subst h
    have a1 := hx _ (by simp [Op.operands]) _ h1
    intro rc h top K; simp only [oNot, a1]
  · obtain ⟨ti, i, d, z, F, h⟩ := tB_ok hT h; obtain ⟨g, h1, h⟩ := oB_ok h
    have a1 := hx _ (by simp [Op.operands]) _ h1
    split at h
    · injection h with h; subst h; intro rc h top K; simp only [oNeg, a1]
    · cases h
  · rename_i op t x y _
    obtain ⟨ti, i, d, z, F, h⟩ := tB_ok hT h; obtain ⟨g1, h1, h⟩ := oB_ok h; obtain ⟨g2, h2, h⟩ := oB_ok h
    exact binB_congr h (hx x (by simp [Op.operands]) _ h1) (hx y (by simp [Op.operands]) _ h2)
  · obtain ⟨g, h1, h⟩ := oB_ok h; injection h with h; subst h
    have a1 := hx _ (by simp [Op.operands]) _ h1
    intro rc h top K; simp only [oNil, a1]
  · rename_i t ps
    obtain ⟨ti, i, d, z, F, h⟩ := tB_ok hT h
    split at h
    · obtain ⟨l, hl, h⟩ := zl_ok h; obtain ⟨g, hg, h⟩ := PB_ok h
      injection h with h; subst h
      have a1 := partB_congr (e := e) (e' := e') hg fun q hq => hx q.2 (by simp [Op.operands]; exact ⟨q.1, by simpa using hq⟩)
      intro rc h top K; simp only [oBuild, a1]
    · cases h
  · rename_i t n ps
    obtain ⟨ti, i, d, z, F, h⟩ := tB_ok hT h
    split at h
    · obtain ⟨tie, ie, de, ze, Fe, h⟩ := tB_ok hT h
      obtain ⟨l, hl, h⟩ := zl_ok h
      split at h
      · obtain ⟨g, hg, h⟩ := PB_ok h
        injection h with h; subst h
        have a1 := partB_congr (e := e) (e' := e') hg fun q hq => hx q.2 (by simp [Op.operands]; exact ⟨q.1, by simpa using hq⟩)
        intro rc h top K; simp only [oBuildSlice, a1]
      · cases h
    · cases h
  · rename_i t a c
    obtain ⟨ti, i, d, z, F, h⟩ := tB_ok hT h
    split at h
    · obtain ⟨tie, ie, de, ze, Fe, h⟩ := tB_ok hT h
      obtain ⟨l, hl, h⟩ := zl_ok h
      obtain ⟨g1, h1, h⟩ := oB_ok h; obtain ⟨g2, h2, h⟩ := oB_ok h
      injection h with h; subst h
      have a1 := hx a (by simp [Op.operands]) _ h1
      have a2 := hx c (by simp [Op.operands]) _ h2
      intro rc h top K; simp only [oMakeSlice, two, a1, a2]
    · cases h
  · rename_i t x lo hi mx
    obtain ⟨ti, i, d, z, F, h⟩ := tB_ok hT h; obtain ⟨g, h1, h⟩ := oB_ok h
    obtain ⟨lo', hlo, h⟩ := optO h; obtain ⟨hi', hhi, h⟩ := optO h; obtain ⟨mx', hmx, h⟩ := optO h
    have a1 := hx x (by simp [Op.operands]) _ h1
    have al := optN_congr (e := e) (e' := e') hlo fun y hy => hx y (by simp [Op.operands] at hy ⊢; simp [hy])
    have ah := optN_congr (e := e) (e' := e') hhi fun y hy => hx y (by simp [Op.operands] at hy ⊢; simp [hy])
    have am := optN_congr (e := e) (e' := e') hmx fun y hy => hx y (by simp [Op.operands] at hy ⊢; simp [hy])
    have am' : ∀ f', mx' = some f' → f' e = f' e' := by
      intro f' hf'
      cases hmx with
      | none => cases hf'
      | some y f hy => injection hf' with hf'; subst hf'; exact hx y (by simp [Op.operands]) _ hy
    split at h
    · cases h
    · injection h with h; subst h
      intro rc h top K
      cases hmx with
      | none => simp only [oSlice, a1, al, ah, am]
      | some y f' hy => have am'' := am' f' rfl; simp only [oSlice, a1, al, ah, am, am'']
    · injection h with h; subst h
      intro rc h top K; simp only [oSliceS, a1, al, ah]
    · cases h
  · rename_i fn a c
    obtain ⟨ga, ha, h⟩ := GL_ok h; obtain ⟨gc, hc', h⟩ := GL_ok h; injection h with h; subst h
    have a1 := evl_congr (e := e) (e' := e') ha fun y hy => hx y (by simp [Op.operands]; exact .inl (by simpa using hy))
    have a2 := evl_congr (e := e) (e' := e') hc' fun y hy => hx y (by simp [Op.operands]; exact .inr (by simpa using hy))
    intro rc h top K; simp only [oFunc, a1, a2]
  · obtain ⟨ts, is, ds, zs, Fs, h⟩ := tB_ok hT h; obtain ⟨ti, i, d, z, F, h⟩ := tB_ok hT h; obtain ⟨g, h1, h⟩ := oB_ok h
    have a1 := hx _ (by simp [Op.operands]) _ h1
    split at h
    · injection h with h; subst h; intro rc h top K; simp only [oConv, a1]
    · cases h
  · rename_i t m k ok
    obtain ⟨ti, i, d, z, F, h⟩ := tB_ok hT h
    split at h
    · obtain ⟨tk, ik, dk, zk, Fk, h⟩ := tB_ok hT h
      obtain ⟨te, ie, de, ze, Fe, h⟩ := tB_ok hT h
      obtain ⟨kf, D, h, hkf⟩ := kfB_ok Fk h
      obtain ⟨l, hl, h⟩ := zl_ok h
      obtain ⟨g1, h1, h⟩ := oB_ok h; obtain ⟨g2, h2, h⟩ := oB_ok h
      have a1 := hx m (by simp [Op.operands]) _ h1
      have a2 := hx k (by simp [Op.operands]) _ h2
      split at h
      · injection h with h; subst h
        intro rc h top K; simp only [oLookup, two, a1, a2]
      · cases ho : ofList l with
        | nil => rw [ho] at h; cases h
        | cons a q =>
          rw [ho] at h
          injection h with h; subst h
          intro rc h top K; simp only [oLookup, two, a1, a2]
    · cases h
  · rename_i t m k x
    obtain ⟨ti, i, d, z, F, h⟩ := tB_ok hT h
    split at h
    · obtain ⟨tk, ik, dk, zk, Fk, h⟩ := tB_ok hT h
      obtain ⟨te, ie, de, ze, Fe, h⟩ := tB_ok hT h
      obtain ⟨kf, D, h, hkf⟩ := kfB_ok Fk h
      obtain ⟨g1, h1, h⟩ := oB_ok h; obtain ⟨g2, h2, h⟩ := oB_ok h; obtain ⟨g3, h3, h⟩ := oB_ok h
      injection h with h; subst h
      have a1 := hx m (by simp [Op.operands]) _ h1
      have a2 := hx k (by simp [Op.operands]) _ h2
      have a3 := hx x (by simp [Op.operands]) _ h3
      intro rc h top K; simp only [oUpdate, two, a1, a2, a3]
    · cases h
  · rename_i t m k x
    obtain ⟨ti, i, d, z, F, h⟩ := tB_ok hT h
    split at h
    · obtain ⟨tk, ik, dk, zk, Fk, h⟩ := tB_ok hT h
      obtain ⟨te, ie, de, ze, Fe, h⟩ := tB_ok hT h
      obtain ⟨kf, D, h, hkf⟩ := kfB_ok Fk h
      obtain ⟨g1, h1, h⟩ := oB_ok h; obtain ⟨g2, h2, h⟩ := oB_ok h; obtain ⟨g3, h3, h⟩ := oB_ok h
      injection h with h; subst h
      have a1 := hx m (by simp [Op.operands]) _ h1
      have a2 := hx k (by simp [Op.operands]) _ h2
      have a3 := hx x (by simp [Op.operands]) _ h3
      intro rc h top K; simp only [oUpdate, two, a1, a2, a3]
    · cases h
  · injection h with h; subst h; intro rc h top K; rfl
  · rename_i c
    obtain ⟨callee, args, ats⟩ := c
    unfold callOb at h
    split at h
    · rename_i hcal; have hcal : callee = _ := hcal; subst hcal
      obtain ⟨g, h1, h⟩ := GL_ok h; injection h with h; subst h
      have a1 := evl_congr (e := e) (e' := e') h1 fun y hy => hx y (by simp [Op.operands, Call.operands]; exact .inr (by simpa using hy))
      intro rc h top K; simp only [oCallF, a1]
    · rename_i y _ hcal; have hcal : callee = _ := hcal; subst hcal
      obtain ⟨g0, h0, h⟩ := oB_ok h; obtain ⟨g, h1, h⟩ := GL_ok h; injection h with h; subst h
      have a0 := hx y (by simp [Op.operands, Call.operands]) _ h0
      have a1 := evl_congr (e := e) (e' := e') h1 fun y hy => hx y (by simp [Op.operands, Call.operands]; exact .inr (by simpa using hy))
      intro rc h top K; simp only [oCallV, a0, a1]
    · rename_i hcal; have hcal : callee = _ := hcal; subst hcal
      split at h
      · rename_i x t hx0 ht
        have hx0 := arr1 hx0; have ht := arr1 ht
        have hx0 : args = _ := hx0; have ht : ats = _ := ht
        subst hx0; subst ht
        obtain ⟨ti, i, d, z, F, h⟩ := tB_ok hT h; obtain ⟨g, h1, h⟩ := oB_ok h
        have a1 := hx _ (by simp [Op.operands, Call.operands]) _ h1
        split at h
        · injection h with h; subst h; intro rc h top K; simp only [bLenS, a1]
        · injection h with h; subst h; intro rc h top K; simp only [bLenStr, a1]
        · injection h with h; subst h; intro rc h top K; simp only [bLenM, a1]
        · cases h
      · cases h
    · rename_i hcal; have hcal : callee = _ := hcal; subst hcal
      split at h
      · rename_i x t hx0 ht
        have hx0 := arr1 hx0; have ht := arr1 ht
        have hx0 : args = _ := hx0; have ht : ats = _ := ht
        subst hx0; subst ht
        obtain ⟨ti, i, d, z, F, h⟩ := tB_ok hT h; obtain ⟨g, h1, h⟩ := oB_ok h
        have a1 := hx _ (by simp [Op.operands, Call.operands]) _ h1
        split at h
        · injection h with h; subst h; intro rc h top K; simp only [bCap, a1]
        · cases h
      · cases h
    · rename_i hcal; have hcal : callee = _ := hcal; subst hcal
      split at h
      · rename_i x y t u hx0 ht
        have hx0 := arr2 hx0; have ht := arr2 ht
        have hx0 : args = _ := hx0; have ht : ats = _ := ht
        subst hx0; subst ht
        obtain ⟨ti, i, d, z, F, h⟩ := tB_ok hT h; obtain ⟨g1, h1, h⟩ := oB_ok h; obtain ⟨g2, h2, h⟩ := oB_ok h
        have a1 := hx x (by simp [Op.operands, Call.operands]) _ h1
        have a2 := hx y (by simp [Op.operands, Call.operands]) _ h2
        split at h
        · split at h
          · injection h with h; subst h; intro rc h top K; simp only [bApp, two, a1, a2]
          · obtain ⟨tu, iu, du, zu, Fu, h⟩ := tB_ok hT h
            split at h
            · obtain ⟨te, ie, de, ze, Fe, h⟩ := tB_ok hT h
              obtain ⟨l, hl, h⟩ := zl_ok h
              injection h with h; subst h; intro rc h top K; simp only [bAppN, two, a1, a2]
            · cases h
        · cases h
      · cases h
    · rename_i hcal; have hcal : callee = _ := hcal; subst hcal
      split at h
      · rename_i x t hx0 ht
        have hx0 := arr1 hx0; have ht := arr1 ht
        have hx0 : args = _ := hx0; have ht : ats = _ := ht
        subst hx0; subst ht
        obtain ⟨ti, i, d, z, F, h⟩ := tB_ok hT h; obtain ⟨g, h1, h⟩ := oB_ok h
        have a1 := hx _ (by simp [Op.operands, Call.operands]) _ h1
        split at h
        · obtain ⟨te, ie, de, ze, Fe, h⟩ := tB_ok hT h
          obtain ⟨l, hl, h⟩ := zl_ok h
          injection h with h; subst h; intro rc h top K; simp only [bClear, a1]
        · cases h
      · cases h
    · rename_i hcal; have hcal : callee = _ := hcal; subst hcal
      split at h
      · rename_i x y hx0
        have hx0 := arr2 hx0
        have hx0 : args = _ := hx0
        subst hx0
        obtain ⟨g1, h1, h⟩ := oB_ok h; obtain ⟨g2, h2, h⟩ := oB_ok h
        have a1 := hx x (by simp [Op.operands, Call.operands]) _ h1
        have a2 := hx y (by simp [Op.operands, Call.operands]) _ h2
        injection h with h; subst h; intro rc h top K; simp only [intM, two, a1, a2]
      · rename_i x y z u hx0
        have hx0 := arr4 hx0
        have hx0 : args = _ := hx0
        subst hx0
        obtain ⟨g1, h1, h⟩ := oB_ok h; obtain ⟨g2, h2, h⟩ := oB_ok h; obtain ⟨g3, h3, h⟩ := oB_ok h; obtain ⟨g4, h4, h⟩ := oB_ok h
        have a1 := hx x (by simp [Op.operands, Call.operands]) _ h1
        have a2 := hx y (by simp [Op.operands, Call.operands]) _ h2
        have a3 := hx z (by simp [Op.operands, Call.operands]) _ h3
        have a4 := hx u (by simp [Op.operands, Call.operands]) _ h4
        injection h with h; subst h; intro rc h top K; simp only [intM4, two, a1, a2, a3, a4]
      · cases h
    · rename_i hcal; have hcal : callee = _ := hcal; subst hcal
      split at h
      · rename_i x y hx0
        have hx0 := arr2 hx0
        have hx0 : args = _ := hx0
        subst hx0
        obtain ⟨g1, h1, h⟩ := oB_ok h; obtain ⟨g2, h2, h⟩ := oB_ok h
        have a1 := hx x (by simp [Op.operands, Call.operands]) _ h1
        have a2 := hx y (by simp [Op.operands, Call.operands]) _ h2
        injection h with h; subst h; intro rc h top K; simp only [intM, two, a1, a2]
      · cases h
    · cases h
  · cases h
end Go.Proofs.YtjkbljgolcdhhaaGreatDoor.Fw.Cm

/- Values compared; correspondences cut at an object's number; a block is taken in. -/
namespace Go.Proofs.YtjkbljgolcdhhaaGreatDoor.Fw.Cm
open Go Go.RowKit Go.WideShapes
theorem eqS_ok : ∀ {x y : List Nat}, eqS x y = true → x = y
  | [], [], _ => rfl
  | [], _ :: _, h => by cases h
  | _ :: _, [], h => by cases h
  | a :: r, b :: q, h => by
    unfold eqS at h
    rw [cmpS_cons] at h
    split at h
    · rename_i e; subst e; rw [eqS_ok (x := r) (y := q) h]
    · split at h <;> cases h
theorem eqI_ok : ∀ {x y : Int}, eqI x y = true → x = y
  | .ofNat a, .ofNat b, h => by have := beq_iff.1 (show Nat.beq a b = true from h); subst this; rfl
  | .negSucc a, .negSucc b, h => by have := beq_iff.1 (show Nat.beq a b = true from h); subst this; rfl
  | .ofNat _, .negSucc _, h => by cases h
  | .negSucc _, .ofNat _, h => by cases h
theorem eqB_ok {x y : Bool} (h : eqB x y = true) : x = y := by cases x <;> cases y <;> first | rfl | cases h
theorem and'_iff {a b : Bool} : and' a b = true ↔ a = true ∧ b = true := by cases a <;> cases b <;> simp [and']
theorem eqV_ok {x y : V} (h : eqV x y = true) : x = y := by
  cases x <;> cases y <;> first
    | rfl
    | (cases h; done)
    | (rw [eqB_ok h]; done)
    | (rw [eqS_ok h]; done)
    | (rw [beq_iff.1 h]; done)
    | (obtain ⟨h1, h2⟩ := and'_iff.1 h; rw [beq_iff.1 h1, eqI_ok h2]; done)
    | (obtain ⟨h1, h2⟩ := and'_iff.1 h; rw [beq_iff.1 h1, beq_iff.1 h2]; done)
    | (obtain ⟨h1, h⟩ := and'_iff.1 h; obtain ⟨h2, h3⟩ := and'_iff.1 h; rw [beq_iff.1 h1, beq_iff.1 h2, beq_iff.1 h3]; done)
    | (obtain ⟨h1, h⟩ := and'_iff.1 h; obtain ⟨h2, h⟩ := and'_iff.1 h; obtain ⟨h3, h⟩ := and'_iff.1 h; obtain ⟨h4, h5⟩ := and'_iff.1 h; rw [beq_iff.1 h1, beq_iff.1 h2, beq_iff.1 h3, beq_iff.1 h4, beq_iff.1 h5]; done)
theorem eqL_ok : ∀ {x y : L}, eqL x y = true → x = y
  | .nil, .nil, _ => rfl
  | .nil, .cons _ _, h => by cases h
  | .cons _ _, .nil, h => by cases h
  | .cons a r, .cons b q, h => by
    obtain ⟨h1, h2⟩ := and'_iff.1 (show and' (eqV a b) (eqL r q) = true from h)
    rw [eqV_ok h1, eqL_ok h2]
theorem eqW_ok : ∀ {x y : W}, eqW x y = true → x = y
  | .o _, .o _, h => by rw [eqV_ok h]
  | .ag _, .ag _, h => by rw [eqL_ok h]
  | .tn, .tn, _ => rfl
  | .tu a b, .tu c d, h => by
    obtain ⟨h1, h2⟩ := and'_iff.1 (show and' (eqW a c) (eqW b d) = true from h)
    rw [eqW_ok h1, eqW_ok h2]
  | .un, _, h => by cases h
  | .o _, .ag _, h => by cases h
  | .o _, .tn, h => by cases h
  | .o _, .tu _ _, h => by cases h
  | .o _, .un, h => by cases h
  | .ag _, .o _, h => by cases h
  | .ag _, .tn, h => by cases h
  | .ag _, .tu _ _, h => by cases h
  | .ag _, .un, h => by cases h
  | .tn, .o _, h => by cases h
  | .tn, .ag _, h => by cases h
  | .tn, .tu _ _, h => by cases h
  | .tn, .un, h => by cases h
  | .tu _ _, .o _, h => by cases h
  | .tu _ _, .ag _, h => by cases h
  | .tu _ _, .tn, h => by cases h
  | .tu _ _, .un, h => by cases h

/-! ### Cut at a number -/
def Kap.below (κ : Kap) (n : Nat) : Kap := ⟨fun o g => if o < n then κ.m o g else none, fun o => if o < n then κ.x o else none, fun o => if o < n then κ.q o else none⟩
theorem Kap.below_le (κ : Kap) (n : Nat) : (κ.below n).le κ := by
  refine ⟨fun o g r h => ?_, fun o r h => ?_, fun o r h => ?_⟩ <;> (simp only [Kap.below] at h; split at h <;> first | exact h | cases h)
theorem Kap.below_m {κ : Kap} {n o g : Nat} (h : o < n) : (κ.below n).m o g = κ.m o g := by simp [Kap.below, h]
theorem Kap.below_x {κ : Kap} {n o : Nat} (h : o < n) : (κ.below n).x o = κ.x o := by simp [Kap.below, h]
theorem Kap.below_q {κ : Kap} {n o : Nat} (h : o < n) : (κ.below n).q o = κ.q o := by simp [Kap.below, h]
theorem Kap.below_mono {κ : Kap} {n m : Nat} (h : n ≤ m) : (κ.below n).le (κ.below m) := by
  refine ⟨fun o g r h1 => ?_, fun o r h1 => ?_, fun o r h1 => ?_⟩ <;> (simp only [Kap.below] at h1 ⊢; split at h1 <;> first | (rw [if_pos (by omega)]; exact h1) | cases h1)
theorem blt_iff {a b : Nat} : Nat.blt a b = true ↔ a < b := by rw [Nat.blt_eq]
theorem VR.cut {κ : Kap} {n : Nat} {x : V} {v : Value} (hb : blV n x = true) (h : VR κ x v) : VR (κ.below n) x v := by
  cases x with
  | p o g off => obtain ⟨b, d, m, h1, h2⟩ := h; exact ⟨b, d, m, (Kap.below_m (blt_iff.1 hb)).trans h1, h2⟩
  | sl o g off len cap => obtain ⟨b, d, m, h1, h2⟩ := h; exact ⟨b, d, m, (Kap.below_m (blt_iff.1 hb)).trans h1, h2⟩
  | gl o g off len sz => obtain ⟨b, d, m, c, h1, h2⟩ := h; exact ⟨b, d, m, c, (Kap.below_m (blt_iff.1 hb)).trans h1, h2⟩
  | f fn o => obtain ⟨us, cs, h1, h2⟩ := h; exact ⟨us, cs, (Kap.below_x (blt_iff.1 hb)).trans h1, h2⟩
  | y o => obtain ⟨b, h1, h2⟩ := h; exact ⟨b, (Kap.below_q (blt_iff.1 hb)).trans h1, h2⟩
  | m o => obtain ⟨b, h1, h2⟩ := h; exact ⟨b, (Kap.below_q (blt_iff.1 hb)).trans h1, h2⟩
  | _ => exact h
theorem blL_get {n : Nat} : ∀ {l : L} {j : Nat} {x : V}, blL n l = true → l.list[j]? = some x → blV n x = true
  | .nil, j, x, _, h => by cases j <;> cases h
  | .cons a r, 0, x, hb, h => by
    obtain ⟨h1, _⟩ := and'_iff.1 (show and' (blV n a) (blL n r) = true from hb)
    injection h with h; subst h; exact h1
  | .cons a r, j + 1, x, hb, h => blL_get (and'_iff.1 (show and' (blV n a) (blL n r) = true from hb)).2 h
theorem both.cut {κ : Kap} {n : Nat} : ∀ (w : W), blW n w = true → (∀ v, (both κ w).1 v → (both (κ.below n) w).1 v) ∧ ∀ vs, (both κ w).2 vs → (both (κ.below n) w).2 vs
  | .o x, hb => ⟨fun v h => VR.cut hb h, fun _ h => h⟩
  | .ag l, hb => ⟨fun v ⟨vs, h1, h2⟩ => ⟨vs, h1, h2.1, fun j x v hx hv => VR.cut (blL_get hb hx) (h2.2 j x v hx hv)⟩, fun _ h => h⟩
  | .tn, _ => ⟨fun _ h => h, fun _ h => h⟩
  | .tu a r, hb => by
    obtain ⟨h1, h2⟩ := and'_iff.1 (show and' (blW n a) (blW n r) = true from hb)
    exact ⟨fun v ⟨u, us, k1, k2, k3⟩ => ⟨u, us, k1, (both.cut a h1).1 _ k2, (both.cut r h2).2 _ k3⟩, fun vs ⟨u, us, k1, k2, k3⟩ => ⟨u, us, k1, (both.cut a h1).1 _ k2, (both.cut r h2).2 _ k3⟩⟩
  | .un, _ => ⟨fun _ h => h, fun _ h => h⟩
theorem WR.cut {κ : Kap} {n : Nat} {w : W} {v : Value} (hb : blW n w = true) (h : WR κ w v) : WR (κ.below n) w v := (both.cut w hb).1 v h
end Go.Proofs.YtjkbljgolcdhhaaGreatDoor.Fw.Cm

/- Drawn regions: blocks that were made ahead of the listed order. -/
namespace Go.Proofs.YtjkbljgolcdhhaaGreatDoor.Fw.Cm
open Go Go.RowKit Go.WideShapes
variable {B : Nat} {κ : Kap} {h : H} {top : Nat} {w : World}
theorem Kap.ext' {a b : Kap} (h1 : ∀ o g, a.m o g = b.m o g) (h2 : ∀ o, a.x o = b.x o) (h3 : ∀ o, a.q o = b.q o) : a = b := by
  cases a; cases b
  simp only [Kap.mk.injEq]
  exact ⟨funext fun o => funext fun g => h1 o g, funext h2, funext h3⟩
/-- a block is taken in as a new object -/
theorem HR.adopt (hr : HR B κ h top w) {o b : Nat} {l : L} {vs : Array Value} {t : TypeId} (ho : top ≤ o) (hb : B ≤ b) (hi : ¬ κ.im b) (hw : w.heap[b]? = some (.cells vs t (0, 0))) (hl : LR κ l.list vs.toList) :
    HR B (κ.put o vs.size (b, 0, vs.size)) (seto o (.c 0 vs.size l) h) (o + 1) w := by
  have hno : κ.m o vs.size = none := by
    cases hm : κ.m o vs.size with
    | none => rfl
    | some r => have := hr.topm o _ _ hm; omega
  have hle : κ.le (κ.put o vs.size (b, 0, vs.size)) := Kap.put_le (.inl hno)
  have hbs : b < w.heap.size := by
    rcases Nat.lt_or_ge b w.heap.size with h | h
    · exact h
    · rw [Array.getElem?_eq_none h] at hw; cases hw
  refine hr.upd hle (κ.put_m o _ _) rfl rfl (.inr ho) (by omega) (by omega) (fun k _ _ => rfl) (Nat.le_refl _) ⟨hb, hbs⟩ (fun o2 hq => hi (.inr ⟨o2, hq⟩)) (fun o2 g2 d2 n2 _ hm => (hi (.inl ⟨o2, g2, d2, n2, hm⟩)).elim)
    (fun g2 d2 n2 hm _ => (hi (.inl ⟨o, g2, d2, n2, hm⟩)).elim) (by rw [hl.1]; simp) ?_
  intro g2 b2 d2 n2 hm2 _ _
  rcases κ.put_m o _ _ o g2 _ hm2 with hm2 | ⟨_, rfl, e⟩
  · have := hr.topm o g2 _ hm2; omega
  · injection e with e1 e2
    injection e2 with e2 e3
    subst e1; subst e2; subst e3
    refine ⟨Nat.zero_le _, vs, t, hw, rfl, by omega, fun j x _ j2 hx => ?_⟩
    have hj : j < vs.toList.length := by simpa using j2
    refine ⟨vs.toList[j], by simp, ?_⟩
    exact (hl.2 j x _ hx (by simp)).mono hle
theorem HR.rise (hr : HR B κ h top w) {n : Nat} (hn : top ≤ n) : HR B κ h n w :=
  ⟨hr.cell, hr.inj, hr.ge, hr.clo, hr.que, hr.qinj, fun o g r hm => Nat.lt_of_lt_of_le (hr.topm o g r hm) hn, fun o r hx => Nat.lt_of_lt_of_le (hr.topx o r hx) hn, fun o b hq => Nat.lt_of_lt_of_le (hr.topq o b hq) hn⟩
/-- what was made ahead: a block, or a closure -/
def Mde (κ : Kap) (B : Nat) (w : World) (o b : Nat) : Ob → Prop
  | .c lo g l => lo = 0 ∧ κ.x o = none ∧ ∃ (vs : Array Value) (t : TypeId), vs.size = g ∧ κ.m o g = some (b, 0, g) ∧ (∀ g', g' ≠ g → κ.m o g' = none) ∧ w.heap[b]? = some (.cells vs t (0, 0)) ∧ LR (κ.below o) l.list vs.toList ∧ ¬ (κ.below o).im b ∧ B ≤ b
  | .bx _ u => (∀ g, κ.m o g = none) ∧ ∃ (a c : W) (us cs : List Value), u = .tu a c ∧ κ.x o = some (us.toArray, cs.toArray) ∧ TR (κ.below o) a us ∧ TR (κ.below o) c cs
  | _ => False
/-- what was made ahead: number of the object, block, object; numbers rise -/
def Ex (n : Nat) (κ : Kap) (B : Nat) (w : World) : List (Nat × Nat × Ob) → Prop
  | [] => ∀ o, n ≤ o → (∀ g, κ.m o g = none) ∧ κ.x o = none ∧ κ.q o = none
  | (o, b, ob) :: xs => n ≤ o ∧ (∀ o', n ≤ o' → o' < o → (∀ g, κ.m o' g = none) ∧ κ.x o' = none ∧ κ.q o' = none) ∧ κ.q o = none ∧ Mde κ B w o b ob ∧ Ex (o + 1) κ B w xs
theorem below_skip {n o : Nat} (hno : n ≤ o) (h : ∀ o', n ≤ o' → o' < o → (∀ g, κ.m o' g = none) ∧ κ.x o' = none ∧ κ.q o' = none) : κ.below o = κ.below n := by
  refine Kap.ext' (fun p g => ?_) (fun p => ?_) (fun p => ?_) <;> simp only [Kap.below]
  · by_cases h1 : p < n
    · rw [if_pos h1, if_pos (by omega)]
    · rw [if_neg h1]; split
      · exact (h p (by omega) (by assumption)).1 g
      · rfl
  · by_cases h1 : p < n
    · rw [if_pos h1, if_pos (by omega)]
    · rw [if_neg h1]; split
      · exact (h p (by omega) (by assumption)).2.1
      · rfl
  · by_cases h1 : p < n
    · rw [if_pos h1, if_pos (by omega)]
    · rw [if_neg h1]; split
      · exact (h p (by omega) (by assumption)).2.2
      · rfl
/-- the first of them is taken in -/
theorem Ex.first {n o b : Nat} {ob : Ob} {xs : List (Nat × Nat × Ob)} (hr : HR B (κ.below n) h top w) (ht : top ≤ n) (hx : Ex n κ B w ((o, b, ob) :: xs)) :
    HR B (κ.below (o + 1)) (seto o ob h) (o + 1) w ∧ Ex (o + 1) κ B w xs := by
  obtain ⟨h1, h2, h4, h6, h5⟩ := hx
  refine ⟨?_, h5⟩
  rw [← below_skip h1 h2] at hr
  cases ob with
  | c lo g l =>
    obtain ⟨rfl, h3, vs, t, rfl, k1, k2, k3, k4, k5, k6⟩ := h6
    have := hr.adopt (o := o) (by omega) k6 k5 k3 k4
    have he : κ.below (o + 1) = (κ.below o).put o vs.size (b, 0, vs.size) := by
      refine Kap.ext' (fun p g => ?_) (fun p => ?_) (fun p => ?_)
      · simp only [Kap.below, Kap.put]
        by_cases hp : p = o
        · subst hp
          by_cases hg : g = vs.size
          · subst hg; simp [k1]
          · simp [hg, k2 g hg]
        · by_cases hlt : p < o
          · have a1 : p < o + 1 := by omega
            simp [hp, hlt, a1]
          · have a1 : ¬ p < o + 1 := by omega
            simp [hp, hlt, a1]
      · simp only [Kap.below, Kap.put]
        by_cases hp : p = o
        · subst hp; simp [h3]
        · by_cases hlt : p < o
          · have a1 : p < o + 1 := by omega
            simp [hp, hlt, a1]
          · have a1 : ¬ p < o + 1 := by omega
            simp [hp, hlt, a1]
      · simp only [Kap.below, Kap.put]
        by_cases hp : p = o
        · subst hp; simp [h4]
        · by_cases hlt : p < o
          · have a1 : p < o + 1 := by omega
            simp [hp, hlt, a1]
          · have a1 : ¬ p < o + 1 := by omega
            simp [hp, hlt, a1]
    rw [he]; exact this
  | bx nf u =>
    obtain ⟨k1, a, c, us, cs, rfl, k2, k3, k4⟩ := h6
    have := ((hr.rise (n := o) (by omega)).newX (nf := nf) k3 k4).1
    have he : κ.below (o + 1) = (κ.below o).putx o (us.toArray, cs.toArray) := by
      refine Kap.ext' (fun p g => ?_) (fun p => ?_) (fun p => ?_)
      · simp only [Kap.below, Kap.putx]
        by_cases hp : p = o
        · subst hp; simp [k1]
        · by_cases hlt : p < o
          · have a1 : p < o + 1 := by omega
            simp [hlt, a1]
          · have a1 : ¬ p < o + 1 := by omega
            simp [hlt, a1]
      · simp only [Kap.below, Kap.putx]
        by_cases hp : p = o
        · subst hp; simp [k2]
        · by_cases hlt : p < o
          · have a1 : p < o + 1 := by omega
            simp [hp, hlt, a1]
          · have a1 : ¬ p < o + 1 := by omega
            simp [hp, hlt, a1]
      · simp only [Kap.below, Kap.putx]
        by_cases hp : p = o
        · subst hp; simp [h4]
        · by_cases hlt : p < o
          · have a1 : p < o + 1 := by omega
            simp [hlt, a1]
          · have a1 : ¬ p < o + 1 := by omega
            simp [hlt, a1]
    rw [he]; exact this
  | no => exact h6.elim
  | mp _ => exact h6.elim
  | lp _ _ _ _ _ _ => exact h6.elim
/-- all of them are taken in -/
theorem Ex.all : ∀ {xs : List (Nat × Nat × Ob)} {n top : Nat} {h : H}, HR B (κ.below n) h top w → top ≤ n → Ex n κ B w xs → ∃ h' top', HR B κ h' top' w
  | [], n, top, h, hr, ht, hx => by
    have he : κ.below n = κ := by
      refine Kap.ext' (fun p g => ?_) (fun p => ?_) (fun p => ?_) <;> simp only [Kap.below] <;> split <;> first | rfl | skip
      · exact ((hx p (by omega)).1 g).symm
      · exact (hx p (by omega)).2.1.symm
      · exact (hx p (by omega)).2.2.symm
    rw [he] at hr
    exact ⟨h, top, hr⟩
  | (o, b, l) :: xs, n, top, h, hr, ht, hx => by
    obtain ⟨k1, k2⟩ := Ex.first hr ht hx
    exact Ex.all k1 (Nat.le_refl _) k2
theorem Ex.lt : ∀ {xs : List (Nat × Nat × Ob)} {n : Nat}, Ex n κ B w xs → ∀ o b l, (o, b, l) ∈ xs → n ≤ o
  | (o, b, l) :: xs, n, ⟨h1, h2, h4, h6, h5⟩, o', b', l', hm => by
    rcases List.mem_cons.1 hm with e | hm
    · injection e with e1 e2
      subst e1
      exact h1
    · have := h5.lt o' b' l' hm
      omega
  | [], _, _, _, _, _, hm => by cases hm
end Go.Proofs.YtjkbljgolcdhhaaGreatDoor.Fw.Cm

/- Drawn regions: a block is made ahead; a big operation runs. -/
namespace Go.Proofs.YtjkbljgolcdhhaaGreatDoor.Fw.Cm
open Go Go.RowKit Go.WideShapes
variable {B : Nat} {κ : Kap} {h : H} {top : Nat} {w w' : World}
theorem below_put {o g m : Nat} {r : Nat × Nat × Nat} (hm : m ≤ o) : (κ.put o g r).below m = κ.below m := by
  refine Kap.ext' (fun p q => ?_) (fun p => rfl) (fun p => rfl)
  simp only [Kap.below, Kap.put]
  by_cases hp : p < m
  · have : ¬ (p = o ∧ q = g) := fun e => by omega
    simp [hp, this]
  · simp [hp]
theorem below_le {κ κ' : Kap} (h : κ.le κ') (n : Nat) : (κ.below n).le (κ'.below n) := by
  refine ⟨fun o g r h1 => ?_, fun o r h1 => ?_, fun o r h1 => ?_⟩ <;> simp only [Kap.below] at h1 ⊢ <;> split at h1
  · rename_i hn; rw [if_pos hn]; exact h.m _ _ _ h1
  · cases h1
  · rename_i hn; rw [if_pos hn]; exact h.x _ _ h1
  · cases h1
  · rename_i hn; rw [if_pos hn]; exact h.q _ _ h1
  · cases h1
theorem im_le {κ κ' : Kap} (h : κ.le κ') {k : Nat} (hi : κ.im k) : κ'.im k := by
  rcases hi with ⟨o, g, d, n, hm⟩ | ⟨o, hq⟩
  · exact .inl ⟨o, g, d, n, h.m _ _ _ hm⟩
  · exact .inr ⟨o, h.q _ _ hq⟩
/-- nothing is known of an object -/
def Kap.non (κ : Kap) (o : Nat) : Prop := (∀ g, κ.m o g = none) ∧ κ.x o = none ∧ κ.q o = none
theorem put_non {o o' g : Nat} {r : Nat × Nat × Nat} (hne : o' ≠ o) (h : κ.non o') : (κ.put o g r).non o' := by
  refine ⟨fun g' => ?_, h.2.1, h.2.2⟩
  simp only [Kap.put]
  rw [if_neg (fun e => hne e.1)]; exact h.1 g'
theorem im_put_below {o g s m k n : Nat} (hi : ((κ.put o g (s, 0, n)).below m).im k) : (κ.below m).im k ∨ k = s := by
  rcases hi with ⟨p, q, d, n', h⟩ | ⟨p, h⟩
  · simp only [Kap.below, Kap.put] at h
    split at h
    · rename_i hp
      split at h
      · injection h with h; injection h with h _; exact .inr h.symm
      · exact .inl (.inl ⟨p, q, d, n', by simp only [Kap.below]; rw [if_pos hp]; exact h⟩)
    · cases h
  · exact .inl (.inr ⟨p, h⟩)
theorem below_putx {o m : Nat} {r : Array Value × Array Value} (hm : m ≤ o) : (κ.putx o r).below m = κ.below m := by
  refine Kap.ext' (fun p q => rfl) (fun p => ?_) (fun p => rfl)
  simp only [Kap.below, Kap.putx]
  by_cases hp : p < m
  · have : ¬ p = o := fun e => by omega
    simp [hp, this]
  · simp [hp]
theorem im_putx_below {o m k : Nat} {r : Array Value × Array Value} (hi : ((κ.putx o r).below m).im k) : (κ.below m).im k := by
  rcases hi with ⟨p, q, d, n', h⟩ | ⟨p, h⟩
  · exact .inl ⟨p, q, d, n', h⟩
  · exact .inr ⟨p, h⟩
theorem heap_lt {b : Nat} {x : Obj} (h : w.heap[b]? = some x) : b < w.heap.size := by
  rcases Nat.lt_or_ge b w.heap.size with h1 | h1
  · exact h1
  · rw [Array.getElem?_eq_none h1] at h; cases h
/-- it stays made -/
theorem Mde.go {κ' : Kap} {o b : Nat} {ob : Ob} (hm : Mde κ B w o b ob) (hle : κ.le κ') (hs : (∀ g, κ'.m o g = κ.m o g) ∧ κ'.x o = κ.x o) (hw : ∀ b, b < w.heap.size → B ≤ b → ¬ (κ.below o).im b → w'.heap[b]? = w.heap[b]?)
    (him : ∀ b, b < w.heap.size → (κ'.below o).im b → (κ.below o).im b) : Mde κ' B w' o b ob := by
  cases ob with
  | c lo g l =>
    obtain ⟨e, h3, vs, t, e2, k1, k2, k3, k4, k5, k6⟩ := hm
    have hb := heap_lt k3
    exact ⟨e, hs.2.trans h3, vs, t, e2, (hs.1 g).trans k1, fun g' hg' => (hs.1 g').trans (k2 g' hg'), (hw b hb k6 k5).trans k3, k4.mono (below_le hle o), fun hi => k5 (him b hb hi), k6⟩
  | bx nf u =>
    obtain ⟨k1, a, c, us, cs, e, k2, k3, k4⟩ := hm
    exact ⟨fun g => (hs.1 g).trans (k1 g), a, c, us, cs, e, hs.2.trans k2, k3.mono (below_le hle o), k4.mono (below_le hle o)⟩
  | no => exact hm.elim
  | mp _ => exact hm.elim
  | lp _ _ _ _ _ _ => exact hm.elim
theorem Ex.go {κ' : Kap} {n0 : Nat} (hle : κ.le κ') (hs : ∀ o, n0 ≤ o → (∀ g, κ'.m o g = κ.m o g) ∧ κ'.x o = κ.x o ∧ κ'.q o = κ.q o) (hw : ∀ o b, n0 ≤ o → b < w.heap.size → B ≤ b → ¬ (κ.below o).im b → w'.heap[b]? = w.heap[b]?)
    (him : ∀ o b, n0 ≤ o → b < w.heap.size → (κ'.below o).im b → (κ.below o).im b) : ∀ {xs : List (Nat × Nat × Ob)} {m : Nat}, n0 ≤ m → Ex m κ B w xs → Ex m κ' B w' xs
  | [], m, hm, hx => fun o ho => by
    obtain ⟨a1, a2, a3⟩ := hs o (by omega)
    obtain ⟨b1, b2, b3⟩ := hx o ho
    exact ⟨fun g => (a1 g).trans (b1 g), a2.trans b2, a3.trans b3⟩
  | (o, b, ob) :: xs, m, hm, ⟨h1, h2, h4, h6, h5⟩ => by
    refine ⟨h1, fun o' q1 q2 => ?_, (hs o (by omega)).2.2.trans h4, h6.go hle ⟨(hs o (by omega)).1, (hs o (by omega)).2.1⟩ (fun b => hw o b (by omega)) (fun b => him o b (by omega)), Ex.go hle hs hw him (by omega) h5⟩
    obtain ⟨a1, a2, a3⟩ := hs o' (by omega)
    obtain ⟨b1, b2, b3⟩ := h2 o' q1 q2
    exact ⟨fun g => (a1 g).trans (b1 g), a2.trans b2, a3.trans b3⟩
/-- something is made ahead -/
theorem Ex.ins {κ' : Kap} {o b : Nat} {ob : Ob} (hno : κ.non o) (hle : κ.le κ') (hs : ∀ o', o' ≠ o → (∀ g, κ'.m o' g = κ.m o' g) ∧ κ'.x o' = κ.x o' ∧ κ'.q o' = κ.q o') (hw : ∀ b, b < w.heap.size → w'.heap[b]? = w.heap[b]?)
    (him : ∀ m b, b < w.heap.size → (κ'.below m).im b → (κ.below m).im b) (hq : κ'.q o = none) (hM : Mde κ' B w' o b ob) : ∀ {xs : List (Nat × Nat × Ob)} {n : Nat}, n ≤ o → Ex n κ B w xs → ∃ xs', Ex n κ' B w' xs' ∧ ∀ p, p ∈ xs' ↔ p = (o, b, ob) ∨ p ∈ xs
  | [], n, hn, hx => by
    have hnn : ∀ o', o' ≠ o → κ.non o' → κ'.non o' := fun o' hne hk => by
      obtain ⟨a1, a2, a3⟩ := hs o' hne
      exact ⟨fun g => (a1 g).trans (hk.1 g), a2.trans hk.2.1, a3.trans hk.2.2⟩
    exact ⟨[(o, b, ob)], ⟨hn, fun o' a1 a2 => hnn o' (by omega) (hx o' a1), hq, hM, fun o' ho' => hnn o' (by omega) (hx o' (by omega))⟩, fun p => by simp⟩
  | (o1, b1, ob1) :: xs, n, hn, ⟨h1, h2, h4, h6, h5⟩ => by
    have hnn : ∀ o', o' ≠ o → κ.non o' → κ'.non o' := fun o' hne hk => by
      obtain ⟨a1, a2, a3⟩ := hs o' hne
      exact ⟨fun g => (a1 g).trans (hk.1 g), a2.trans hk.2.1, a3.trans hk.2.2⟩
    rcases Nat.lt_trichotomy o o1 with hlt | heq | hgt
    · refine ⟨(o, b, ob) :: (o1, b1, ob1) :: xs, ⟨hn, fun o' a1 a2 => hnn o' (by omega) (h2 o' a1 (by omega)), hq, hM, ?_⟩, fun p => by simp⟩
      refine Ex.go (n0 := o + 1) hle (fun o' ho' => hs o' (by omega)) (fun o' b _ hb _ _ => hw b hb) (fun o' b _ => him o' b) (Nat.le_refl _) ?_
      exact ⟨by omega, fun o' a1 a2 => h2 o' (by omega) a2, h4, h6, h5⟩
    · subst heq
      exfalso
      cases ob1 with
      | c lo g l => obtain ⟨_, _, vs, t, _, k1, _⟩ := h6; rw [hno.1] at k1; cases k1
      | bx nf u => obtain ⟨_, a, c, us, cs, _, k2, _⟩ := h6; rw [hno.2.1] at k2; cases k2
      | no => exact h6.elim
      | mp _ => exact h6.elim
      | lp _ _ _ _ _ _ => exact h6.elim
    · obtain ⟨xs', hx', hm'⟩ := Ex.ins hno hle hs hw him hq hM (by omega : o1 + 1 ≤ o) h5
      refine ⟨(o1, b1, ob1) :: xs', ⟨h1, fun o' a1 a2 => hnn o' (by omega) (h2 o' a1 a2), (hs o1 (by omega)).2.2.trans h4, h6.go hle ⟨(hs o1 (by omega)).1, (hs o1 (by omega)).2.1⟩ (fun b hb _ _ => hw b hb) (him o1), hx'⟩, fun p => by simp only [List.mem_cons, hm']; constructor <;> rintro (h | h | h) <;> simp [h]⟩
/-- a block is made ahead -/
theorem Ex.put {o : Nat} {vs : Array Value} {t : TypeId} {l : L} (hp : Pushed w w' (.cells vs t (0, 0))) (hno : κ.non o) (him : ∀ k, κ.im k → k < w.heap.size) (hB : B ≤ w.heap.size) (hl : LR (κ.below o) l.list vs.toList)
    {xs : List (Nat × Nat × Ob)} {n : Nat} (hn : n ≤ o) (hx : Ex n κ B w xs) : ∃ xs', Ex n (κ.put o vs.size (w.heap.size, 0, vs.size)) B w' xs' ∧ ∀ p, p ∈ xs' ↔ p = (o, w.heap.size, .c 0 vs.size l) ∨ p ∈ xs := by
  have hM : Mde (κ.put o vs.size (w.heap.size, 0, vs.size)) B w' o w.heap.size (.c 0 vs.size l) := by
    refine ⟨rfl, hno.2.1, vs, t, rfl, κ.put_get _ _ _, fun g hg => ?_, hp.new, ?_, ?_, hB⟩
    · simp only [Kap.put]
      rw [if_neg (fun e => hg e.2)]; exact hno.1 g
    · rw [below_put (Nat.le_refl _)]; exact hl
    · rw [below_put (Nat.le_refl _)]
      intro hi
      have := him _ (im_le (κ.below_le o) hi)
      omega
  refine Ex.ins hno (Kap.put_le (.inl (hno.1 _))) (fun o' hne => ⟨fun g => ?_, rfl, rfl⟩) (fun b hb => hp.old hb) (fun m b hb hi => ?_) hno.2.2 hM hn hx
  · simp only [Kap.put]
    rw [if_neg (fun e => hne e.1)]
  · rcases im_put_below hi with h | h
    · exact h
    · omega
/-- a closure is made ahead -/
theorem Ex.putx {o nf : Nat} {a c : W} {us cs : List Value} (hno : κ.non o) (ha : TR (κ.below o) a us) (hc : TR (κ.below o) c cs)
    {xs : List (Nat × Nat × Ob)} {n : Nat} (hn : n ≤ o) (hx : Ex n κ B w xs) : ∃ xs', Ex n (κ.putx o (us.toArray, cs.toArray)) B w xs' ∧ ∀ p, p ∈ xs' ↔ p = (o, 0, .bx nf (.tu a c)) ∨ p ∈ xs := by
  have hM : Mde (κ.putx o (us.toArray, cs.toArray)) B w o 0 (.bx nf (.tu a c)) := by
    refine ⟨hno.1, a, c, us, cs, rfl, by simp [Kap.putx], ?_, ?_⟩
    · rw [below_putx (Nat.le_refl _)]; exact ha
    · rw [below_putx (Nat.le_refl _)]; exact hc
  refine Ex.ins hno (Kap.putx_le hno.2.1) (fun o' hne => ⟨fun g => rfl, ?_, rfl⟩) (fun b hb => rfl) (fun m b hb hi => im_putx_below hi) hno.2.2 hM hn hx
  simp only [Kap.putx]
  rw [if_neg hne]
end Go.Proofs.YtjkbljgolcdhhaaGreatDoor.Fw.Cm

/- Drawn regions: a big operation runs while blocks that were made ahead wait. -/
namespace Go.Proofs.YtjkbljgolcdhhaaGreatDoor.Fw.Cm
open Go Go.RowKit Go.WideShapes
variable {B : Nat} {κ κ2 : Kap} {h : H} {top : Nat} {w w' : World}
/-- the one below a number, the other from there on -/
def Kap.join (κ κ2 : Kap) (n : Nat) : Kap := ⟨fun o g => if o < n then κ.m o g else κ2.m o g, fun o => if o < n then κ.x o else κ2.x o, fun o => if o < n then κ.q o else κ2.q o⟩
theorem join_below (hr : HR B κ h top w) : (κ.join κ2 top).below top = κ := by
  refine Kap.ext' (fun p g => ?_) (fun p => ?_) (fun p => ?_) <;> simp only [Kap.below, Kap.join] <;> split <;> (try rfl) <;> rename_i hn
  · cases hm : κ.m p g with
    | none => rfl
    | some r => exact absurd (hr.topm _ _ _ hm) hn
  · cases hm : κ.x p with
    | none => rfl
    | some r => exact absurd (hr.topx _ _ hm) hn
  · cases hm : κ.q p with
    | none => rfl
    | some r => exact absurd (hr.topq _ _ hm) hn
theorem Ex.gap : ∀ {xs : List (Nat × Nat × Ob)} {n m : Nat}, Ex n κ B w xs → (∀ o b l, (o, b, l) ∈ xs → m ≤ o) → ∀ o, n ≤ o → o < m → κ.non o
  | [], n, m, hx, _, o, h1, _ => hx o h1
  | (o1, b1, l1) :: xs, n, m, hx, hm, o, h1, h2 => hx.2.1 o h1 (by have := hm o1 b1 l1 (List.mem_cons_self ..); omega)
theorem Ex.up : ∀ {xs : List (Nat × Nat × Ob)} {n m : Nat}, Ex n κ B w xs → n ≤ m → (∀ o b l, (o, b, l) ∈ xs → m ≤ o) → Ex m κ B w xs
  | [], n, m, hx, hnm, _ => fun o ho => hx o (by omega)
  | (o1, b1, l1) :: xs, n, m, hx, hnm, hm => ⟨hm o1 b1 l1 (List.mem_cons_self ..), fun o' a1 a2 => hx.2.1 o' (by omega) a2, hx.2.2⟩
theorem join_le {n m : Nat} (hle : (κ2.below n).le κ) (hgap : ∀ o, n ≤ o → o < m → κ2.non o) : κ2.le (κ.join κ2 m) := by
  refine ⟨fun o g r h1 => ?_, fun o r h1 => ?_, fun o r h1 => ?_⟩ <;> simp only [Kap.join] <;> split <;> (try exact h1) <;> rename_i hm
  · by_cases hn : o < n
    · exact hle.m _ _ _ ((Kap.below_m hn).trans h1)
    · have := (hgap o (by omega) hm).1 g; rw [this] at h1; cases h1
  · by_cases hn : o < n
    · exact hle.x _ _ ((Kap.below_x hn).trans h1)
    · have := (hgap o (by omega) hm).2.1; rw [this] at h1; cases h1
  · by_cases hn : o < n
    · exact hle.q _ _ ((Kap.below_q hn).trans h1)
    · have := (hgap o (by omega) hm).2.2; rw [this] at h1; cases h1
theorem join_im {n o k : Nat} (hi : ((κ.join κ2 n).below o).im k) : κ.im k ∨ (κ2.below o).im k := by
  rcases hi with ⟨p, q, d, n', h⟩ | ⟨p, h⟩
  · simp only [Kap.below, Kap.join] at h
    split at h
    · rename_i hp
      split at h
      · exact .inl (.inl ⟨p, q, d, n', h⟩)
      · exact .inr (.inl ⟨p, q, d, n', by simp only [Kap.below]; rw [if_pos hp]; exact h⟩)
    · cases h
  · simp only [Kap.below, Kap.join] at h
    split at h
    · rename_i hp
      split at h
      · exact .inl (.inr ⟨p, h⟩)
      · exact .inr (.inr ⟨p, by simp only [Kap.below]; rw [if_pos hp]; exact h⟩)
    · cases h
theorem Ex.joined {n m : Nat} (hle : κ2.le (κ.join κ2 m)) (hx : Ext (κ2.below n) κ w) (hf : Frm (κ2.below n) w w') (hnm : n ≤ m) {xs : List (Nat × Nat × Ob)} {i : Nat} (hi : m ≤ i) (h : Ex i κ2 B w xs) : Ex i (κ.join κ2 m) B w' xs := by
  refine Ex.go (n0 := m) hle (fun o ho => ?_) (fun o b ho hb _ hnb => hf.keep b hb fun hi' => hnb (im_le (Kap.below_mono (by omega)) hi')) (fun o b ho hb hi' => ?_) hi h
  · have hn : ¬ o < m := by omega
    refine ⟨fun g => ?_, ?_, ?_⟩ <;> simp only [Kap.join] <;> rw [if_neg hn]
  · rcases join_im hi' with hi' | hi'
    · rcases hx.new _ hi' with hi' | hi'
      · exact im_le (Kap.below_mono (by omega)) hi'
      · omega
    · exact hi'
/-- a big operation has run -/
theorem big_ok {n : Nat} {xs : List (Nat × Nat × Ob)} (hx : Ex n κ2 B w xs) (he : Ext (κ2.below n) κ w) (hf : Frm (κ2.below n) w w') (hr : HR B κ h top w') (hn : n ≤ top) (hxs : ∀ o b l, (o, b, l) ∈ xs → top ≤ o) :
    HR B ((κ.join κ2 top).below top) h top w' ∧ κ2.le (κ.join κ2 top) ∧ Ex top (κ.join κ2 top) B w' xs := by
  have hle := join_le (κ := κ) (m := top) he.le (hx.gap hxs)
  exact ⟨by rw [join_below hr]; exact hr, hle, Ex.joined hle he hf hn (Nat.le_refl _) (hx.up hn hxs)⟩
end Go.Proofs.YtjkbljgolcdhhaaGreatDoor.Fw.Cm

/- Drawn regions: operations that make a block. -/
namespace Go.Proofs.YtjkbljgolcdhhaaGreatDoor.Fw.Cm
open Go Go.RowKit Go.WideShapes
/-- what an operation makes: a block, or a closure -/
def Mkd (P : Program) (o : Oper) (v : W) (top : Nat) (κ : Kap) (a : Act) (w : World) : Ob → Prop
  | .c lo g l => lo = 0 ∧ ∃ (u : Value) (vs : Array Value) (t : TypeId) (w' : World), (execOp a.eval o).run P w = .ok (.value u) w' ∧ Pushed w w' (.cells vs t (0, 0)) ∧ vs.size = g ∧ LR κ l.list vs.toList ∧ ∀ κ' : Kap, κ'.m top g = some (w.heap.size, 0, g) → WR κ' v u
  | .bx _ x => ∃ (u : Value) (us cs : List Value) (a' c : W), x = .tu a' c ∧ (execOp a.eval o).run P w = .ok (.value u) w ∧ TR κ a' us ∧ TR κ c cs ∧ ∀ κ' : Kap, κ'.x top = some (us.toArray, cs.toArray) → WR κ' v u
  | _ => False
/-- an operation that makes a block or a closure, wherever it runs -/
structure AlF (P : Program) (o : Oper) (f : Op') : Prop where mk ::
  out : ∀ {rc : Rc} {e : E} {h : H} {top : Nat} {K : K} {r : R}, Good r → f rc e h top K = r → ∃ v ob, K v (seto top ob h) (top + 1) = r ∧
    ∀ {κ : Kap} {a : Act} {w : World}, ER κ e a.tmps → Mkd P o v top κ a w ob
section
variable {P : Program} {T : TT} {dst : Option Tmp} {ty : TypeId} {pos : String} {after : Array Edge} {guard : Option (Nat × Bool)}
variable {t : TypeId} {ti : TI} {i : TypeInfo} {d : TypeDesc} {z : Value}
theorem a_alloc (F : TFacts P t ti i d z) {l : List V} (hl : zVs ti.zero = some l) : AlF P ⟨dst, .alloc t, ty, pos, after, guard⟩ (oAlloc ti.sz (ofList l)) :=
  ⟨fun {rc e h top K r} hg he => by
    refine ⟨_, .c 0 ti.sz (ofList l), new_ok he, fun {κ a w} hE => ?_⟩
    obtain ⟨h1, h2⟩ := zl_rel (κ := κ) F hl
    refine ⟨rfl, .pointer (some ⟨w.heap.size, 0, none⟩), z.cells, t, _, ?_, Pushed.alloc w _, by rw [← h2, h1.1]; simp, by rw [ofList_list]; exact h1, fun κ' hm => ⟨_, _, _, hm, Nat.zero_le _, by simp⟩⟩
    simp only [execOp]
    refine val_run ?_
    simp [Instr.alloc, F.run_zeroValue, run_newVar]⟩
theorem a_box {x : Operand} {f : E → W} (hx : evb x = .mk f) : AlF P ⟨dst, .box t x, ty, pos, after, guard⟩ (oBox f) :=
  ⟨fun {rc e h top K r} hg he => by
    obtain ⟨hp, cs, hcs, he⟩ := W.cells_ok he hg
    rw [sNat_eq] at he
    refine ⟨_, .c 0 cs.len cs, new_ok he, fun {κ a w} hE => ?_⟩
    obtain ⟨us, u1, u2⟩ := (evb_rel hx hE).cells hp
    rw [← hcs] at u2
    refine ⟨rfl, .pointer (some ⟨w.heap.size, 0, none⟩), us.toArray, t, _, ?_, Pushed.alloc w _, by rw [L.len_eq, u2.1]; simp, by simpa using u2, fun κ' hm => ⟨_, _, _, hm, Nat.zero_le _, by simp⟩⟩
    simp only [execOp]
    refine val_run ?_
    simp [Instr.box, run_newVar, u1]⟩
theorem a_buildSlice (F : TFacts P t ti i d z) {el : TypeId} (hk : ti.kind = .slice el) {tie : TI} {ie : TypeInfo} {de : TypeDesc} {ze : Value} (Fe : TFacts P el tie ie de ze) {l : List V} (hl : zVs tie.zero = some l) {n : Nat} {ps : Array (Nat × Operand)} {f : E → L → (L → R) → R}
    (hb : n * ti.esz ≤ 16777216) (hf : partB (n * ti.esz) (fun i => some (i * ti.esz, ti.esz)) ps.toList = .mk f) : AlF P ⟨dst, .buildSlice t n ps, ty, pos, after, guard⟩ (oBuildSlice n (n * ti.esz) f (L.rep n (ofList l))) :=
  ⟨fun {rc e h top K r} hg he => by
    obtain ⟨j, zz, p1, p2, p3, p4, p5, p6, p7, p8⟩ := F.elemInfo hk
    have hd := F.slice hk
    subst hd
    have hj : j = ie := by have := Fe.info; rw [p1] at this; injection this
    subst hj
    have hzz : zz = ze := by have := Fe.zero; rw [p7] at this; injection this
    subst hzz
    have hsz : tie.sz = ti.esz := by rw [← Fe.size, p2]
    have hesz : 0 < ti.esz := by omega
    have hz := fun κ => zl_rel (κ := κ) Fe hl
    have hlr : ∀ κ, LR κ (L.rep n (ofList l)).list (List.replicate n zz.cells.toList).flatten := fun κ => by rw [L.list_rep, ofList_list]; exact (hz κ).1.rep n
    have hcl : zz.cells.toList.length = ti.esz := by
      have := hz ⟨fun _ _ => none, fun _ => none, fun _ => none⟩
      rw [← this.1.1, this.2, hsz]
    have hlen : (L.rep n (ofList l)).list.length = n * ti.esz := by rw [(hlr ⟨fun _ _ => none, fun _ => none, fun _ => none⟩).1]; simp [hcl]
    obtain ⟨l', he, h1, h2⟩ := partB_ok hf hg hlen he
    refine ⟨_, .c 0 (n * ti.esz) l', new_ok he, fun {κ a w} hE => ?_⟩
    obtain ⟨vs', h3, h4⟩ := h2 hE (hlr κ)
    have hs : (sizeOf el).run P w = .ok ti.esz w := by simp [sizeOf, typeInfo, p1, p2]
    have hzv : (zeroValue el).run P w = .ok zz w := by simp [zeroValue, typeInfo, p1, p7]
    have hrun : (Instr.buildSlice t n (ps.map fun (i, x) => (i, a.eval x))).run P w = .ok (.slice (some ⟨w.heap.size, 0, none⟩) n n) (w.alloc (.cells vs'.toArray el)) := by
      have hfm := flat_mod hcl n
      have e0 : (ps.map fun (i, x) => (i, a.eval x)).toList = ps.toList.map fun p => (p.1, a.eval p.2) := by simp
      unfold Instr.buildSlice
      simp only [Sem.run_bind, F.run_underlying, Result.andThen_ok, hs]
      rw [if_neg (by omega)]
      by_cases h0 : n * ti.esz = 0
      · simp only [h0, if_true, Sem.run_bind, Sem.run_pure, Result.andThen_ok] at hfm ⊢
        rw [e0]
        have : (List.replicate n zz.cells.toList).flatten = [] := by apply List.eq_nil_of_length_eq_zero; simp [hcl, h0]
        rw [this] at h3
        have hr0 : ∀ g : Nat → Value, Array.map g (Array.range 0) = #[] := fun g => by simp
        have h3 : Instr.fill (fun i => some (i * ti.esz, ti.esz)) #[] (ps.toList.map fun p => (p.1, a.eval p.2)) = some vs'.toArray := h3
        rw [hr0, h3]; rfl
      · simp only [h0, if_false, Sem.run_bind, Sem.run_pure, hzv, Result.andThen_ok] at hfm ⊢
        rw [e0]
        have : ((Array.range (n * ti.esz)).map fun x => zz.cells[x % zz.cells.size]!) = ((List.replicate n zz.cells.toList).flatten).toArray := by simpa using hfm
        rw [this, h3]; rfl
    refine ⟨rfl, _, vs'.toArray, el, _, ?_, Pushed.alloc w _, by rw [← h1, h4.1]; simp, by simpa using h4, fun κ' hm => ⟨_, _, _, hm, Nat.zero_le _, Nat.le_refl _, ?_, rfl⟩⟩
    · simp only [execOp]
      exact val_run hrun
    · have : n * 1 ≤ n * ti.esz := Nat.mul_le_mul_left _ hesz
      omega⟩
theorem a_makeFunc {fn : FuncId} {us cs : Array Operand} {ga gc : E → (W → R) → R} (ha : evl us.toList = .mk ga) (hc : evl cs.toList = .mk gc) : AlF P ⟨dst, .makeFunc (.func fn) us cs, ty, pos, after, guard⟩ (oFunc fn ga gc us.size) :=
  ⟨fun {rc e h top K r} hg he => by
    obtain ⟨fa, h1, h2⟩ := evl_rel ha
    obtain ⟨fc, h3, h4⟩ := evl_rel hc
    unfold oFunc at he
    rw [h1, h3] at he
    refine ⟨_, .bx us.size (.tu (fa e) (fc e)), new_ok he, fun {κ a w} hE => ?_⟩
    refine ⟨.func (.func fn) (us.map a.eval) (cs.map a.eval), us.toList.map a.eval, cs.toList.map a.eval, fa e, fc e, rfl, rfl, h2 hE, h4 hE, fun κ' hx => ⟨_, _, hx, ?_⟩⟩
    congr 1
    · apply Array.ext'; simp
    · apply Array.ext'; simp⟩
end
end Go.Proofs.YtjkbljgolcdhhaaGreatDoor.Fw.Cm
