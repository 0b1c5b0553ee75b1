/- Functions to which blocks are lent: their contract; what it gives in any caller. -/
import Derived.Test.YtpgecpmonaldiaaFwQ
set_option autoImplicit false
set_option linter.unusedVariables false
set_option linter.unusedSimpArgs false
namespace Go.Proofs.Ytpgecpmonaldiaa.Fw
open Go Go.RowKit

/-! ### 1. The contract -/
/-- bs: the blocks that are lent, the first ones of the frame; at its end the function hands its whole frame back. -/
structure Io (P : Program) (f : FuncId) (args : List AV) (bs : List Blk) (R : Out → List Blk → Prop) : Prop where mk ::
  out : ∀ (c : Ctx) (w : World) (vs : List Value), Ok c [bs] w → c.B ≤ w.heap.size → vs.length = args.length → (∀ j (h : j < args.length), VRel c (vs.getD j default) (args[j])) →
    CallsX P f vs.toArray w fun e w' => ∃ (o : Out) (L : List Blk) (c' : Ctx), R o L ∧ w.heap.size ≤ w'.heap.size ∧ c.out bs.length c' ∧ Ok c' [L] w' ∧
      match o with
      | .ret r => ∃ v, e = .returned v ∧ VRel c' v r
      | .pan r => ∃ v, e = .panicked [{ v, recovered := false }] ∧ VRel c' v r

def EndIo (T : TT) (rs : List ResultVar) (R : Out → List Blk → Prop) : Ex → Env → Frs → Prop
  | .normal, s, fr => match fr with | [L] => ares T fr s rs fun x => R (.ret x) L | _ => False
  | .ret, s, fr => match fr with | [L] => ares T fr s rs fun x => R (.ret x) L | _ => False
  | _, _, _ => False

section
variable {T : TT} {P : Program} {js : List Nat}
theorem io_of_awp (hT : T.okB P = true) {f : FuncId} {fn : Func} {body : Code} (hf : P.funcs[f]? = some fn) (hb : fn.body = some body) (hname : fnOk P f = true) {args : List AV} {bs : List Blk} {R : Out → List Blk → Prop} (hN : Nat.ble args.length fn.ntmps = true)
    (h : awp T P fn.ntmps ⟨[], bs.length⟩ js body (EndIo T fn.results.toList R) (argsEnv 0 args) [bs]) : Io P f args bs R := by
  have hN := Nat.le_of_ble_eq_true hN
  refine ⟨fun c w vs hok hB hn hr => .inl ⟨hname, ?_⟩⟩
  have hok0 : Ok { c with w0 := w } [bs] w := ⟨hok.len, hok.lens, fun l i e b he hb => (hok.blk l i e b he hb).mono' (Imm.le.refl _) fun _ _ e he => ⟨e, he, Ent.le.refl e⟩, hok.gho, hok.inj, hok.ge, hok.far, hok.mod, Kept.refl _ _⟩
  have hs := st_entry bs.length (c := { c with w0 := w }) (N := fn.ntmps) (xs := args) hok0 hB hn hN fun j hj => VRel.mono' (c := c) (c' := { c with w0 := w }) (Imm.le.refl _) (fun _ _ e he => ⟨e, he, Ent.le.refl e⟩) (hr j hj)
  refine calls_of_wp hf hb (wp_mono (awp_sound hT body h hs) ?_)
  rintro e a' w' ⟨ex, s', fr', c', h1, h2, h3, h4⟩
  have hw0 : c'.w0 = w := h3.1.w0
  have hBe : c'.B = c.B := h3.1.B
  have hXe : c'.X = c.X := h3.1.Xe
  have hfe : c'.free = c.free := by unfold Ctx.free; rw [hBe, hXe]
  have hk : Kept c.free w w' := by have := h4.ok.below; rwa [hfe, hw0] at this
  have fin : ∀ L, fr' = [L] → ares T fr' s' fn.results.toList (fun x => R (.ret x) L) → a'.defers = [] ∧ ∃ v, (results fn a'.tmps).run P w' = .ok v w' ∧
      ∃ (o : Out) (L : List Blk) (c2 : Ctx), R o L ∧ w.heap.size ≤ w'.heap.size ∧ c.out bs.length c2 ∧ Ok c2 [L] w' ∧
      match o with
      | .ret r => ∃ v', Ending.returned v = .returned v' ∧ VRel c2 v' r
      | .pan r => ∃ v', Ending.returned v = .panicked [{ v := v', recovered := false }] ∧ VRel c2 v' r := by
    intro L hfr hk'
    obtain ⟨v, x, k1, k2, k3⟩ := ares_spec hT h4 hk'
    have h5 := h4.ok
    rw [hfr] at h5
    refine ⟨h4.ds, v, k1, .ret x, L, { c' with w0 := c.w0 }, k3, hk.size, ⟨⟨hBe, hXe, rfl, h3.1.X, fun l i e he => h3.1.rent l i e he⟩, fun i e hi he => h3.2 i e hi he⟩, ⟨h5.len, h5.lens, fun l i e b he hb => (h5.blk l i e b he hb).mono' (Imm.le.refl _) fun _ _ e he => ⟨e, he, Ent.le.refl e⟩, h5.gho, h5.inj, h5.ge, h5.far, h5.mod, ?_⟩, v, rfl, VRel.mono' (c := c') (c' := { c' with w0 := c.w0 }) (Imm.le.refl _) (fun _ _ e he => ⟨e, he, Ent.le.refl e⟩) k2⟩
    have : Kept c.free c.w0 w' := hok.below.trans hk
    show Kept c'.free c.w0 w'
    rw [hfe]; exact this
  cases ex with
  | normal =>
    cases e <;> simp [exRel] at h1
    simp only [EndIo] at h2
    split at h2
    · exact fin _ rfl h2
    · exact h2.elim
  | ret =>
    cases e <;> simp [exRel] at h1
    simp only [EndIo] at h2
    split at h2
    · exact fin _ rfl h2
    · exact h2.elim
  | exit i => exact h2.elim
  | goto i => exact h2.elim
  | pan v => exact h2.elim
end
end Go.Proofs.Ytpgecpmonaldiaa.Fw
