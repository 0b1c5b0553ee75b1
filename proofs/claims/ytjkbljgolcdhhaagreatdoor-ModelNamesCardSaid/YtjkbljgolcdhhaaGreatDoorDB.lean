/- Drawn regions: operations that do not look at the heap. -/
import Derived.Test.YtjkbljgolcdhhaaGreatDoorDA
set_option autoImplicit false
set_option linter.unusedVariables false
set_option linter.constructorNameAsVariable false
set_option linter.unusedSimpArgs false
namespace Go.Proofs.YtjkbljgolcdhhaaGreatDoor.Fw.Cm
open Go Go.RowKit Go.WideShapes
structure HI (f : Op') : Prop where mk ::
  out : ∀ {rc : Rc} {e : E} {h : H} {top : Nat} {K : K} {r : R}, Good r → f rc e h top K = r → ∃ v, K v h top = r ∧ ∀ (rc' : Rc) (h' : H) (top' : Nat) (K' : Cm.K), f rc' e h' top' K' = K' v h' top'
/-- an operation that may run in any heap -/
structure PuF (P : Program) (o : Oper) (f : Op') : Prop where mk ::
  out : ∀ {rc : Rc} {e : E} {h : H} {top : Nat} {K : K} {r : R}, Good r → f rc e h top K = r → ∃ v, K v h top = r ∧
    ∀ {B : Nat} {κ : Kap} {a : Act} {w : World} {h' : H} {top' : Nat}, HR B κ h' top' w → ER κ e a.tmps → ∃ u, (execOp a.eval o).run P w = .ok (.value u) w ∧ WR κ v u
theorem OpP.pu {P : Program} {o : Oper} {f : Op'} (hp : OpP P o f) (hi : HI f) : PuF P o f := ⟨fun {rc e h top K r} hr he => by
  obtain ⟨v, h1, h2⟩ := hi.out hr he
  refine ⟨v, h1, fun {B κ a w h' top'} hh hE => ?_⟩
  have h3 := h2 rc h' top' (fun v h top => .fin v h top)
  have hg : Good (.fin v h' top') := by intro _ h; cases h
  obtain ⟨v', h4, h5⟩ := hp.out hg h3
  injection h4 with h4
  subst h4
  exact h5 hh hE⟩
theorem hi_move {f : E → W} : HI (oMove f) := ⟨fun {rc e h top K r} hr he => ⟨f e, he, fun _ _ _ _ => rfl⟩⟩
theorem hi_pick {c a b : E → W} : HI (oPick c a b) := ⟨fun {rc e h top K r} hr he => by
  obtain ⟨x, h1, he⟩ := W.v_ok he hr
  replace he := V.bool_ok he hr; obtain ⟨t, rfl, he⟩ := he
  cases t with
  | true => exact ⟨a e, he, fun _ _ _ _ => by simp only [oPick, h1]; rfl⟩
  | false => exact ⟨b e, he, fun _ _ _ _ => by simp only [oPick, h1]; rfl⟩⟩
theorem hi_not {f : E → W} : HI (oNot f) := ⟨fun {rc e h top K r} hr he => by
  obtain ⟨x, h1, he⟩ := W.v_ok he hr
  replace he := V.bool_ok he hr; obtain ⟨t, rfl, he⟩ := he
  cases t with
  | true => exact ⟨_, he, fun _ _ _ _ => by simp only [oNot, h1]; rfl⟩
  | false => exact ⟨_, he, fun _ _ _ _ => by simp only [oNot, h1]; rfl⟩⟩
theorem hi_nil {f : E → W} : HI (oNil f) := ⟨fun {rc e h top K r} hr he => by
  obtain ⟨x, h1, he⟩ := W.v_ok he hr
  replace he := V.some_ok he hr; obtain ⟨h2, he⟩ := he
  refine ⟨f e, he, fun _ _ _ _ => ?_⟩
  rcases h2 with ⟨o, g, off, rfl⟩ | ⟨q, o, rfl⟩ <;> (simp only [oNil, h1]; rfl)⟩
theorem hi_fieldAddr {d : Nat} {f : E → W} : HI (oFieldAddr d f) := ⟨fun {rc e h top K r} hr he => by
  obtain ⟨x, h1, he⟩ := W.v_ok he hr
  replace he := V.ptr_ok he hr; obtain ⟨o, g, off, rfl, he⟩ := he
  rw [sNat_eq'] at he
  refine ⟨_, he, fun _ _ _ _ => ?_⟩
  simp only [oFieldAddr, h1, sNat_eq']; rfl⟩
theorem nth_at' : ∀ {i : Nat} {w x : W} {k : W → R}, w.at i = some x → W.nth w i k = k x
  | 0, .tu a q, x, k, h => by injection h with h; subst h; rfl
  | i + 1, .tu a q, x, k, h => nth_at' (i := i) (w := q) h
  | 0, .o _, _, _, h => by cases h
  | 0, .ag _, _, _, h => by cases h
  | 0, .tn, _, _, h => by cases h
  | 0, .un, _, _, h => by cases h
  | i + 1, .o _, _, _, h => by cases h
  | i + 1, .ag _, _, _, h => by cases h
  | i + 1, .tn, _, _, h => by cases h
  | i + 1, .un, _, _, h => by cases h
theorem hi_extract {f : E → W} {i : Nat} : HI (oExtract f i) := ⟨fun {rc e h top K r} hr he => by
  obtain ⟨v, h1, he⟩ := nth_at he hr
  exact ⟨v, he, fun _ _ _ _ => nth_at' h1⟩⟩
theorem hi_lenS {f : E → W} : HI (bLenS f) := ⟨fun {rc e h top K r} hr he => by
  obtain ⟨x, h1, he⟩ := W.v_ok he hr
  cases x <;> first
    | exact ⟨_, he, fun _ _ _ _ => by simp only [bLenS, h1]; rfl⟩
    | (have he : R.bad 5 = r := he; subst he; exact hr.bad)⟩
theorem outI_eq (k : Nat) (n : Int) (h : H) (top : Nat) (K : K) : outI k n h top K = K (.o (.i k n)) h top := by
  unfold outI sInt
  cases n <;> exact sNat_eq' _ _
theorem outB_eq (b : Bool) (h : H) (top : Nat) (K : K) : outB b h top K = K (.o (.b b)) h top := by cases b <;> rfl
theorem hi_lenStr {f : E → W} : HI (bLenStr f) := ⟨fun {rc e h top K r} hr he => by
  obtain ⟨x, h1, he⟩ := W.v_ok he hr
  replace he := V.str_ok he hr; obtain ⟨s, rfl, he⟩ := he
  rw [outI_eq] at he
  exact ⟨_, he, fun _ h' top' K' => by simp only [bLenStr, h1]; exact (show outI 0 (.ofNat (nLen s)) h' top' K' = _ from outI_eq _ _ _ _ _)⟩⟩
theorem hi_indexAddr {sz : Nat} {x i : E → W} : HI (oIndexAddr sz x i) := ⟨fun {rc e h top K r} hr he => by
  obtain ⟨a, b, h1, h2, he⟩ := two_ok he hr
  replace he := V.nat_ok he hr; obtain ⟨c, k, rfl, he⟩ := he
  cases a with
  | sl o g off n q =>
    have he : gd (Nat.blt k n) (sNat (off + k * sz) fun q => K (.o (.p o g q)) h top) = r := he
    obtain ⟨hb, he⟩ := gd_ok he hr
    rw [sNat_eq'] at he
    refine ⟨_, he, fun _ h' top' K' => ?_⟩
    simp only [oIndexAddr, two, h1, h2]
    show gd (Nat.blt k n) (sNat (off + k * sz) fun q => K' (.o (.p o g q)) h' top') = _
    rw [hb, sNat_eq']; rfl
  | gl o g off n q =>
    have he : gd (Nat.blt k n) (sNat (off + k * sz) fun q => K (.o (.p o g q)) h top) = r := he
    obtain ⟨hb, he⟩ := gd_ok he hr
    rw [sNat_eq'] at he
    refine ⟨_, he, fun _ h' top' K' => ?_⟩
    simp only [oIndexAddr, two, h1, h2]
    show gd (Nat.blt k n) (sNat (off + k * sz) fun q => K' (.o (.p o g q)) h' top') = _
    rw [hb, sNat_eq']; rfl
  | _ => first | (have he : R.bad 30 = r := he; subst he; exact hr.bad) | (have he : R.bad 5 = r := he; subst he; exact hr.bad)⟩
theorem hi_intC {k : Nat} {f : Int → Int → Bool} {a b : E → W} : HI (intC k f a b) := ⟨fun {rc e h top K r} hr he => by
  obtain ⟨x, y, h1, h2, he⟩ := two_ok he hr
  replace he := V.int_ok he hr; obtain ⟨c, n, rfl, he⟩ := he
  replace he := V.int_ok he hr; obtain ⟨c', m, rfl, he⟩ := he
  obtain ⟨g1, he⟩ := gd_ok he hr
  obtain ⟨g2, he⟩ := gd_ok he hr
  replace he : outB (f n m) h top K = r := he
  rw [outB_eq] at he
  refine ⟨_, he, fun _ h' top' K' => ?_⟩
  simp only [intC, two2, two, h1, h2]
  show gd (Nat.beq c k) (gd (Nat.beq c' k) (outB (f n m) h' top' K')) = _
  rw [g1, g2, outB_eq]; rfl⟩
theorem hi_intA {k : Nat} {f : Int → Int → Int} {a b : E → W} : HI (intA k f a b) := ⟨fun {rc e h top K r} hr he => by
  obtain ⟨x, y, h1, h2, he⟩ := two_ok he hr
  replace he := V.int_ok he hr; obtain ⟨c, n, rfl, he⟩ := he
  replace he := V.int_ok he hr; obtain ⟨c', m, rfl, he⟩ := he
  obtain ⟨g1, he⟩ := gd_ok he hr
  obtain ⟨g2, he⟩ := gd_ok he hr
  replace he : outI k (f n m) h top K = r := he
  rw [outI_eq] at he
  refine ⟨_, he, fun _ h' top' K' => ?_⟩
  simp only [intA, two2, two, h1, h2]
  show gd (Nat.beq c k) (gd (Nat.beq c' k) (outI k (f n m) h' top' K')) = _
  rw [g1, g2, outI_eq]; rfl⟩
theorem hi_strC {f : Nat → Bool} {a b : E → W} : HI (strC f a b) := ⟨fun {rc e h top K r} hr he => by
  obtain ⟨x, y, h1, h2, he⟩ := two_ok he hr
  replace he := V.str_ok he hr; obtain ⟨s, rfl, he⟩ := he
  replace he := V.str_ok he hr; obtain ⟨q, rfl, he⟩ := he
  rw [outB_eq] at he
  refine ⟨_, he, fun _ h' top' K' => ?_⟩
  simp only [strC, two, h1, h2]
  exact (show outB (f (cmpS s q)) h' top' K' = _ from outB_eq _ _ _ _)⟩
end Go.Proofs.YtjkbljgolcdhhaaGreatDoor.Fw.Cm

/- Drawn regions: further operations that do not look at the heap. -/
namespace Go.Proofs.YtjkbljgolcdhhaaGreatDoor.Fw.Cm
open Go Go.RowKit Go.WideShapes
theorem hi_neg {k : IntKind} {f : E → W} : HI (oNeg k f) := ⟨fun {rc e h top K r} hr he => by
  obtain ⟨x, h1, he⟩ := W.v_ok he hr
  replace he := V.int_ok he hr; obtain ⟨c, n, rfl, he⟩ := he
  obtain ⟨g1, he⟩ := gd_ok he hr
  rw [outI_eq] at he
  refine ⟨_, he, fun _ h' top' K' => ?_⟩
  simp only [oNeg, h1]
  show gd (Nat.beq c (kc k)) (outI (kc k) (fit k (0 - n)) h' top' K') = _
  rw [g1, outI_eq]; rfl⟩
theorem partB_hi {n : Nat} {place : Nat → Option (Nat × Nat)} : ∀ {ps : List (Nat × Operand)} {g : E → L → (L → R) → R}, partB n place ps = .mk g → ∀ {e : E} {l : L} {k : L → R} {r : R}, Good r → g e l k = r → ∃ l', k l' = r ∧ ∀ k', g e l k' = k' l'
  | [], g, h => by
    injection h with h; subst h
    intro hr he; rename_i e l k r
    exact ⟨l, he, fun _ => rfl⟩
  | q :: ps, g, h => by
    have h' : Option.rec (motive := fun _ => PB) .no (fun os => Bool.rec (motive := fun _ => PB) .no (GBo.rec (motive := fun _ => PB) (fun f => PB.rec (motive := fun _ => PB) (fun g => .mk fun e l k => (f e).cells fun cs => gd (Nat.beq cs.len os.2) (g e (cs.put os.1 l) k)) .no (partB n place ps)) .no (evb q.2)) (Nat.ble (os.1 + os.2) n)) (place q.1) = .mk g := h
    cases hp : place q.1 with
    | none => rw [hp] at h'; cases h'
    | some os =>
      rw [hp] at h'
      simp only at h'
      cases hb : Nat.ble (os.1 + os.2) n with
      | false => rw [hb] at h'; cases h'
      | true =>
        rw [hb] at h'
        simp only at h'
        cases hf : evb q.2 with
        | no => rw [hf] at h'; cases h'
        | mk f0 =>
          rw [hf] at h'
          simp only at h'
          cases hl : partB n place ps with
          | no => rw [hl] at h'; cases h'
          | mk g0 =>
            rw [hl] at h'; injection h' with h'; subst h'
            intro hr he; rename_i e l k r
            have hcs : ∀ {w : W} {k : L → R} {r : R}, w.cells k = r → Good r → ∃ c, k c = r ∧ ∀ k', w.cells k' = k' c := by
              intro w k r h hr
              cases w with
              | o x => exact ⟨_, h, fun _ => rfl⟩
              | ag l => exact ⟨_, h, fun _ => rfl⟩
              | _ => first | (have h : R.bad 61 = r := h; subst h; exact hr.bad) | (have h : R.bad 62 = r := h; subst h; exact hr.bad) | (have h : R.bad 63 = r := h; subst h; exact hr.bad)
            obtain ⟨c, he, hc⟩ := hcs he hr
            obtain ⟨g1, he⟩ := gd_ok he hr
            obtain ⟨l', he, hl'⟩ := partB_hi hl hr he
            refine ⟨l', he, fun k' => ?_⟩
            show (f0 e).cells (fun cs => gd (Nat.beq cs.len os.2) (g0 e (cs.put os.1 l) k')) = _
            rw [hc, g1]; exact hl' k'
theorem hi_build {n : Nat} {place : Nat → Option (Nat × Nat)} {ps : List (Nat × Operand)} {g : E → L → (L → R) → R} (hg : partB n place ps = .mk g) (z : L) : HI (oBuild g z) := ⟨fun {rc e h top K r} hr he => by
  obtain ⟨l', he, hl⟩ := partB_hi hg hr he
  exact ⟨_, he, fun _ h' top' K' => hl _⟩⟩
theorem hi_eqBo {neg : Bool} {a b : E → W} : HI (eqO eqBo neg a b) := ⟨fun {rc e h top K r} hr he => by
  obtain ⟨x, y, h1, h2, he⟩ := two_ok he hr
  cases x <;> first
    | (cases y <;> first
        | (rename_i p q
           have he : sBool (eqB p q) (fun c => outB (negB neg c) h top K) = r := he
           rw [sBool_eq, outB_eq] at he
           refine ⟨_, he, fun _ h' top' K' => ?_⟩
           simp only [eqO, two, h1, h2]
           show sBool (eqB p q) (fun c => outB (negB neg c) h' top' K') = _
           rw [sBool_eq, outB_eq])
        | (have he : R.bad 9 = r := he; subst he; exact hr.bad))
    | (have he : R.bad 9 = r := he; subst he; exact hr.bad)⟩
end Go.Proofs.YtjkbljgolcdhhaaGreatDoor.Fw.Cm

/- Drawn regions: slicing does not look at the heap. -/
namespace Go.Proofs.YtjkbljgolcdhhaaGreatDoor.Fw.Cm
open Go Go.RowKit Go.WideShapes
theorem optN_hi {o : Option (E → W)} {d : Nat} {e : E} {k : Nat → R} {r : R} (h : optN o d e k = r) (hr : Good r) : ∃ n, k n = r ∧ ∀ k', optN o d e k' = k' n := by
  cases o with
  | none => exact ⟨d, h, fun _ => rfl⟩
  | some f =>
    have h : ((f e).v fun v => v.nat64 k) = r := h
    obtain ⟨x, h1, h⟩ := W.v_ok h hr
    replace h := V.nat64_ok h hr; obtain ⟨n, rfl, h⟩ := h
    refine ⟨n, h, fun k' => ?_⟩
    show ((f e).v fun v => v.nat64 k') = _
    rw [h1]; rfl
theorem slice0 (a : R) (b c : Nat → Nat → Nat → Nat → Nat → R) (d : R) : V.slice .sl0 a b c d = a := rfl
theorem slice1 (a : R) (b c : Nat → Nat → Nat → Nat → Nat → R) (d : R) (o g q n z : Nat) : V.slice (.sl o g q n z) a b c d = b o g q n z := rfl
theorem slice2 (a : R) (b c : Nat → Nat → Nat → Nat → Nat → R) (d : R) (o g q n z : Nat) : V.slice (.gl o g q n z) a b c d = c o g q n z := rfl
theorem slice3 (a : R) (b c : Nat → Nat → Nat → Nat → Nat → R) (d : R) : V.slice .ge a b c d = d := rfl
theorem gd_hi {b : Bool} (h : b = true) (k : R) : gd b k = k := by rw [h]; rfl
theorem hi_slice {sz : Nat} {lo hi mx : Option (E → W)} {x : E → W} : HI (oSlice sz lo hi mx x) := ⟨fun {rc e h top K r} hr he => by
  obtain ⟨v, hv, he⟩ := W.v_ok he hr
  obtain ⟨l, he, hl⟩ := optN_hi he hr
  have hun : ∀ rc' h' top' (K' : Cm.K), oSlice sz lo hi mx x rc' e h' top' K' = v.slice
      (optN hi 0 e fun u => optN mx 0 e fun c => gd (Nat.beq l 0) (gd (Nat.beq u 0) (gd (Nat.beq c 0) (K' (.o .sl0) h' top'))))
      (fun o g off n c => optN hi n e fun u => optN mx c e fun c' => gd (Nat.ble l u) (gd (Nat.ble u c') (gd (Nat.ble c' c) (sNat (pick' (Nat.beq c' l) off (off + l * sz)) fun off => sNat (u - l) fun n => sNat (c' - l) fun c => K' (.o (.sl o g off n c)) h' top'))))
      (fun o g off n z => optN hi n e fun u => gd (Nat.ble l u) (gd (Nat.ble u n) (gd (Nat.beq z sz) (Option.rec (motive := fun _ => R)
        (ifB (Nat.blt l n) (sNat (off + l * sz) fun off => sNat (u - l) fun n => K' (.o (.gl o g off n z)) h' top') (ifB (Nat.beq l 0) (K' (.o (.gl o g off u z)) h' top') (K' (.o .ge) h' top')))
        (fun f => (f e).v fun v => v.nat64 fun c' => gd (Nat.ble u c') (gd (Nat.ble c' n) (sNat (pick' (Nat.beq c' l) off (off + l * sz)) fun off => sNat (u - l) fun n => sNat (c' - l) fun c => K' (.o (.sl o g off n c)) h' top'))) mx))))
      (optN hi 0 e fun u => Option.rec (motive := fun _ => R) (gd (Nat.beq l 0) (gd (Nat.beq u 0) (K' (.o .ge) h' top'))) (fun _ => .bad 33) mx) := by
    intro rc' h' top' K'
    unfold oSlice
    rw [hv]
    have hW : ∀ (f : V → R), (W.o v).v f = f v := fun _ => rfl
    rw [hW, hl]
  cases v with
  | sl0 =>
    rw [slice0] at he
    obtain ⟨u, he, hu⟩ := optN_hi he hr
    obtain ⟨c, he, hc⟩ := optN_hi he hr
    obtain ⟨g1, he⟩ := gd_ok he hr
    obtain ⟨g2, he⟩ := gd_ok he hr
    obtain ⟨g3, he⟩ := gd_ok he hr
    refine ⟨_, he, fun rc' h' top' K' => ?_⟩
    rw [hun, slice0]
    exact (hu _).trans ((hc _).trans ((gd_hi g1 _).trans ((gd_hi g2 _).trans (gd_hi g3 _))))
  | sl o g off n c =>
    rw [slice1] at he
    obtain ⟨u, he, hu⟩ := optN_hi he hr
    obtain ⟨c', he, hc⟩ := optN_hi he hr
    obtain ⟨g1, he⟩ := gd_ok he hr
    obtain ⟨g2, he⟩ := gd_ok he hr
    obtain ⟨g3, he⟩ := gd_ok he hr
    rw [sNat_eq', sNat_eq', sNat_eq'] at he
    refine ⟨_, he, fun rc' h' top' K' => ?_⟩
    rw [hun, slice1]
    refine (hu _).trans ((hc _).trans ((gd_hi g1 _).trans ((gd_hi g2 _).trans ((gd_hi g3 _).trans ?_))))
    rw [sNat_eq', sNat_eq', sNat_eq']
  | gl o g off n z =>
    rw [slice2] at he
    obtain ⟨u, he, hu⟩ := optN_hi he hr
    obtain ⟨g1, he⟩ := gd_ok he hr
    obtain ⟨g2, he⟩ := gd_ok he hr
    obtain ⟨g3, he⟩ := gd_ok he hr
    have pre : ∀ rc' h' top' (K' : Cm.K) (y : R), (Option.rec (motive := fun _ => R)
        (ifB (Nat.blt l n) (sNat (off + l * sz) fun off => sNat (u - l) fun n => K' (.o (.gl o g off n z)) h' top') (ifB (Nat.beq l 0) (K' (.o (.gl o g off u z)) h' top') (K' (.o .ge) h' top')))
        (fun f => (f e).v fun v => v.nat64 fun c' => gd (Nat.ble u c') (gd (Nat.ble c' n) (sNat (pick' (Nat.beq c' l) off (off + l * sz)) fun off => sNat (u - l) fun n => sNat (c' - l) fun c => K' (.o (.sl o g off n c)) h' top'))) mx) = y → oSlice sz lo hi mx x rc' e h' top' K' = y := by
      intro rc' h' top' K' y hy
      rw [hun, slice2]
      exact (hu _).trans ((gd_hi g1 _).trans ((gd_hi g2 _).trans ((gd_hi g3 _).trans hy)))
    cases mx with
    | none =>
      have he : ifB (Nat.blt l n) (sNat (off + l * sz) fun off => sNat (u - l) fun n => K (.o (.gl o g off n z)) h top) (ifB (Nat.beq l 0) (K (.o (.gl o g off u z)) h top) (K (.o .ge) h top)) = r := he
      cases hb : Nat.blt l n with
      | true =>
        rw [hb] at he
        have he : (sNat (off + l * sz) fun off => sNat (u - l) fun n => K (.o (.gl o g off n z)) h top) = r := he
        rw [sNat_eq', sNat_eq'] at he
        refine ⟨_, he, fun rc' h' top' K' => pre _ _ _ _ _ ?_⟩
        rw [hb]
        show (sNat (off + l * sz) fun off => sNat (u - l) fun n => K' (.o (.gl o g off n z)) h' top') = _
        rw [sNat_eq', sNat_eq']
      | false =>
        rw [hb] at he
        have he : ifB (Nat.beq l 0) (K (.o (.gl o g off u z)) h top) (K (.o .ge) h top) = r := he
        cases hb2 : Nat.beq l 0 with
        | true =>
          rw [hb2] at he
          exact ⟨_, he, fun rc' h' top' K' => pre _ _ _ _ _ (by rw [hb, hb2]; rfl)⟩
        | false =>
          rw [hb2] at he
          exact ⟨_, he, fun rc' h' top' K' => pre _ _ _ _ _ (by rw [hb, hb2]; rfl)⟩
    | some f =>
      have he : ((f e).v fun v => v.nat64 fun c' => gd (Nat.ble u c') (gd (Nat.ble c' n) (sNat (pick' (Nat.beq c' l) off (off + l * sz)) fun off => sNat (u - l) fun n => sNat (c' - l) fun c => K (.o (.sl o g off n c)) h top))) = r := he
      obtain ⟨q, hq, he⟩ := W.v_ok he hr
      replace he := V.nat64_ok he hr; obtain ⟨c', rfl, he⟩ := he
      obtain ⟨g4, he⟩ := gd_ok he hr
      obtain ⟨g5, he⟩ := gd_ok he hr
      rw [sNat_eq', sNat_eq', sNat_eq'] at he
      refine ⟨_, he, fun rc' h' top' K' => pre _ _ _ _ _ ?_⟩
      show ((f e).v fun v => v.nat64 fun c' => gd (Nat.ble u c') (gd (Nat.ble c' n) (sNat (pick' (Nat.beq c' l) off (off + l * sz)) fun off => sNat (u - l) fun n => sNat (c' - l) fun c => K' (.o (.sl o g off n c)) h' top'))) = _
      rw [hq]
      refine Eq.trans (b := gd (Nat.ble u c') (gd (Nat.ble c' n) (sNat (pick' (Nat.beq c' l) off (off + l * sz)) fun off => sNat (u - l) fun n => sNat (c' - l) fun c => K' (.o (.sl o g off n c)) h' top'))) rfl ?_
      rw [gd_hi g4, gd_hi g5, sNat_eq', sNat_eq', sNat_eq']
  | ge =>
    rw [slice3] at he
    obtain ⟨u, he, hu⟩ := optN_hi he hr
    cases mx with
    | some _ => have he : R.bad 33 = r := he; subst he; exact hr.bad
    | none =>
      have he : gd (Nat.beq l 0) (gd (Nat.beq u 0) (K (.o .ge) h top)) = r := he
      obtain ⟨g1, he⟩ := gd_ok he hr
      obtain ⟨g2, he⟩ := gd_ok he hr
      refine ⟨_, he, fun rc' h' top' K' => ?_⟩
      rw [hun, slice3]
      exact (hu _).trans ((gd_hi g1 _).trans (gd_hi g2 _))
  | _ => have he : R.bad 5 = r := he; subst he; exact hr.bad⟩
end Go.Proofs.YtjkbljgolcdhhaaGreatDoor.Fw.Cm

/- Drawn regions: which operations do not look at the heap. -/
namespace Go.Proofs.YtjkbljgolcdhhaaGreatDoor.Fw.Cm
open Go Go.RowKit Go.WideShapes
theorem hi_intD {k : Nat} {f : Int → Int → Int} {a b : E → W} : HI (intD k f a b) := ⟨fun {rc e h top K r} hr he => by
  obtain ⟨x, y, h1, h2, he⟩ := two_ok he hr
  replace he := V.int_ok he hr; obtain ⟨c, n, rfl, he⟩ := he
  replace he := V.int_ok he hr; obtain ⟨c', m, rfl, he⟩ := he
  obtain ⟨g1, he⟩ := gd_ok he hr
  obtain ⟨g2, he⟩ := gd_ok he hr
  replace he : gd (not' (eqI m 0)) (outI k (f n m) h top K) = r := he
  obtain ⟨g3, he⟩ := gd_ok he hr
  rw [outI_eq] at he
  refine ⟨_, he, fun _ h' top' K' => ?_⟩
  simp only [intD, two2, two, h1, h2]
  show gd (Nat.beq c k) (gd (Nat.beq c' k) (gd (not' (eqI m 0)) (outI k (f n m) h' top' K'))) = _
  rw [g1, g2, g3, outI_eq]; rfl⟩
theorem hi_strA {a b : E → W} : HI (strA a b) := ⟨fun {rc e h top K r} hr he => by
  obtain ⟨x, y, h1, h2, he⟩ := two_ok he hr
  replace he := V.str_ok he hr; obtain ⟨s, rfl, he⟩ := he
  replace he := V.str_ok he hr; obtain ⟨q, rfl, he⟩ := he
  obtain ⟨g1, he⟩ := gd_ok he hr
  refine ⟨_, he, fun _ h' top' K' => ?_⟩
  simp only [strA, two, h1, h2]
  show gd (Nat.blt (nLen s + nLen q) 1000000000000) (K' (.o (.s (nCat s q))) h' top') = _
  rw [g1]; rfl⟩
theorem hi_sliceS {lo hi : Option (E → W)} {x : E → W} : HI (oSliceS lo hi x) := ⟨fun {rc e h top K r} hr he => by
  obtain ⟨v, hv, he⟩ := W.v_ok he hr
  replace he := V.str_ok he hr; obtain ⟨s, rfl, he⟩ := he
  obtain ⟨l, he, hl⟩ := optN_hi he hr
  obtain ⟨u, he, hu⟩ := optN_hi he hr
  obtain ⟨g1, he⟩ := gd_ok he hr
  obtain ⟨g2, he⟩ := gd_ok he hr
  refine ⟨_, he, fun _ h' top' K' => ?_⟩
  have hW : ∀ (f : V → R), (W.o (.s s)).v f = f (.s s) := fun _ => rfl
  have hS : ∀ (f : List Nat → R), V.str (.s s) f = f s := fun _ => rfl
  unfold oSliceS
  rw [hv, hW, hS, hl, hu, g1, g2]; rfl⟩
theorem hi_bin {P : Program} {t : TypeId} {ti : TI} {op : BinOp} {a b : E → W} {f : Op'} (hk : (match ti.kind with | .int _ => true | .str => true | .bool => true | _ => false) = true) (h : binB P t ti op a b = .mk f) : HI f := by
  unfold binB at h
  split at h
  all_goals first | (cases h; done) | (rename_i hkk; rw [hkk] at hk; cases hk; done) | skip
  · unfold binI at h
    split at h <;> first | (injection h with h; subst h; first | exact hi_intA | exact hi_intD | exact hi_intC) | cases h
  · unfold binS at h
    split at h <;> first | (injection h with h; subst h; first | exact hi_strC | exact hi_strA) | cases h
  · unfold eqneq at h
    split at h <;> first | (injection h with h; subst h; exact hi_eqBo) | cases h
set_option maxHeartbeats 1000000 in
theorem pure_hi {P : Program} {T : TT} (hT : T.okB P = true) {o : Oper} {f : Op'} (h : opB P T o = .mk f) (hp : pureO T o = true) : HI f := by
  obtain ⟨dst, op, ty, pos, after, guard⟩ := o
  cases op <;> first | (cases hp; done) | skip
  case move x => obtain ⟨g, h1, h⟩ := oB_ok (show oB x (fun f => .mk (oMove f)) = .mk f from h); injection h with h; subst h; exact hi_move
  case assign x => obtain ⟨g, h1, h⟩ := oB_ok (show oB x (fun f => .mk (oMove f)) = .mk f from h); injection h with h; subst h; exact hi_move
  case pick c a b =>
    obtain ⟨g1, h1, h⟩ := oB_ok (show oB c (fun c => oB a fun a => oB b fun b => .mk (oPick c a b)) = .mk f from h)
    obtain ⟨g2, h2, h⟩ := oB_ok h; obtain ⟨g3, h3, h⟩ := oB_ok h
    injection h with h; subst h; exact hi_pick
  case fieldAddr t x i =>
    unfold opB at h; simp only at h
    obtain ⟨ti, _, d, z, F, h⟩ := tB_ok hT h; obtain ⟨g, h1, h⟩ := oB_ok h
    split at h
    · split at h
      · cases h
      · injection h with h; subst h; exact hi_fieldAddr
    · cases h
  case indexAddr t x i =>
    unfold opB at h; simp only at h
    obtain ⟨ti, _, d, z, F, h⟩ := tB_ok hT h; obtain ⟨g1, h1, h⟩ := oB_ok h; obtain ⟨g2, h2, h⟩ := oB_ok h
    split at h
    · injection h with h; subst h; exact hi_indexAddr
    · cases h
  case extract x i =>
    unfold opB at h; simp only at h
    obtain ⟨g, h1, h⟩ := oB_ok h; injection h with h; subst h; exact hi_extract
  case nilCheck x =>
    unfold opB at h; simp only at h
    obtain ⟨g, h1, h⟩ := oB_ok h; injection h with h; subst h; exact hi_nil
  case unOp u t x =>
    cases u <;> unfold opB at h <;> simp only at h <;> first | (cases h; done) | skip
    all_goals first
      | (obtain ⟨g, h1, h⟩ := oB_ok h; injection h with h; subst h; exact hi_not)
      | (obtain ⟨ti, i, d, z, F, h⟩ := tB_ok hT h; obtain ⟨g, h1, h⟩ := oB_ok h
         split at h
         · injection h with h; subst h; exact hi_neg
         · cases h)
  case build t ps =>
    unfold opB at h; simp only at h
    obtain ⟨ti, i, d, z, F, h⟩ := tB_ok hT h
    split at h
    · obtain ⟨l, hl, h⟩ := zl_ok h; obtain ⟨g, hg, h⟩ := PB_ok h
      injection h with h; subst h; exact hi_build hg _
    · cases h
  case slice t x lo hi mx =>
    unfold opB at h; simp only at h
    obtain ⟨ti, i, d, z, F, h⟩ := tB_ok hT h; obtain ⟨g, h1, h⟩ := oB_ok h
    obtain ⟨lo', hlo, h⟩ := optO h; obtain ⟨hi', hhi, h⟩ := optO h; obtain ⟨mx', hmx, h⟩ := optO h
    split at h
    · cases h
    · injection h with h; subst h; exact hi_slice
    · injection h with h; subst h; exact hi_sliceS
    · cases h
  case binOp op t x y yt =>
    unfold opB at h; simp only at h
    have hp : (match T.get t with | some ti => (match ti.kind with | .int _ => true | .str => true | .bool => true | _ => false) | none => false) = true := hp
    unfold tB at h
    cases hg : T.get t with
    | none => rw [hg] at h; cases h
    | some ti =>
      rw [hg] at h hp
      obtain ⟨g1, h1, h⟩ := oB_ok h; obtain ⟨g2, h2, h⟩ := oB_ok h
      exact hi_bin hp h
  case call c =>
    obtain ⟨callee, args, ats⟩ := c
    cases callee <;> first | (cases hp; done) | skip
    rename_i b
    cases b <;> first | (cases hp; done) | skip
    have hp : (match ats.toList with | [t] => (match T.get t with | some ti => (match ti.kind with | .slice _ => true | .str => true | _ => false) | none => false) | _ => false) = true := hp
    unfold opB callOb at h
    simp only at h
    split at h
    · rename_i x t hx ht
      rw [ht] at hp
      simp only at hp
      unfold tB at h
      cases hg : T.get t with
      | none => rw [hg] at h; cases h
      | some ti =>
        rw [hg] at h hp
        obtain ⟨g1, h1, h⟩ := oB_ok h
        split at h
        · injection h with h; subst h; exact hi_lenS
        · injection h with h; subst h; exact hi_lenStr
        · rename_i hk; simp only [hk] at hp; cases hp
        · cases h
    · cases h
end Go.Proofs.YtjkbljgolcdhhaaGreatDoor.Fw.Cm

/- Drawn regions: operations that do not look at the heap may run in any heap. -/
namespace Go.Proofs.YtjkbljgolcdhhaaGreatDoor.Fw.Cm
open Go Go.RowKit Go.WideShapes
set_option maxHeartbeats 1000000 in
theorem pure_ok {P : Program} {T : TT} (hT : T.okB P = true) {o : Oper} {f : Op'} (h : opB P T o = .mk f) (hp : pureO T o = true) : PuF P o f := by
  have hh := pure_hi hT h hp
  suffices OpP P o f from this.pu hh
  clear hh
  obtain ⟨dst, op, ty, pos, after, guard⟩ := o
  cases op <;> first | (cases hp; done) | skip
  case move x => obtain ⟨g, h1, h⟩ := oB_ok (show oB x (fun f => .mk (oMove f)) = .mk f from h); injection h with h; subst h; exact s_move h1
  case assign x => obtain ⟨g, h1, h⟩ := oB_ok (show oB x (fun f => .mk (oMove f)) = .mk f from h); injection h with h; subst h; exact s_assign h1
  case pick c a b =>
    obtain ⟨g1, h1, h⟩ := oB_ok (show oB c (fun c => oB a fun a => oB b fun b => .mk (oPick c a b)) = .mk f from h)
    obtain ⟨g2, h2, h⟩ := oB_ok h; obtain ⟨g3, h3, h⟩ := oB_ok h
    injection h with h; subst h; exact s_pick h1 h2 h3
  case fieldAddr t x i =>
    unfold opB at h; simp only at h
    obtain ⟨ti, _, d, z, F, h⟩ := tB_ok hT h; obtain ⟨g, h1, h⟩ := oB_ok h
    split at h
    · rename_i q hq
      rw [nth_eq] at hq
      split at h
      · cases h
      · rename_i hn; injection h with h; subst h; exact s_fieldAddr F h1 hq hn
    · cases h
  case indexAddr t x i =>
    unfold opB at h; simp only at h
    obtain ⟨ti, _, d, z, F, h⟩ := tB_ok hT h; obtain ⟨g1, h1, h⟩ := oB_ok h; obtain ⟨g2, h2, h⟩ := oB_ok h
    split at h
    · rename_i e hk; injection h with h; subst h; exact s_indexAddr F h1 h2 hk
    · cases h
  case extract x i =>
    unfold opB at h; simp only at h
    obtain ⟨g, h1, h⟩ := oB_ok h; injection h with h; subst h; exact s_extract h1
  case nilCheck x =>
    unfold opB at h; simp only at h
    obtain ⟨g, h1, h⟩ := oB_ok h; injection h with h; subst h; exact s_nil h1
  case unOp u t x =>
    cases u <;> unfold opB at h <;> simp only at h <;> first | (cases h; done) | skip
    all_goals first
      | (obtain ⟨g, h1, h⟩ := oB_ok h; injection h with h; subst h; exact s_not h1)
      | (obtain ⟨ti, i, d, z, F, h⟩ := tB_ok hT h; obtain ⟨g, h1, h⟩ := oB_ok h
         split at h
         · rename_i k hk; injection h with h; subst h; exact s_neg F hk h1
         · cases h)
  case build t ps =>
    unfold opB at h; simp only at h
    obtain ⟨ti, i, d, z, F, h⟩ := tB_ok hT h
    split at h
    · rename_i hk
      obtain ⟨l, hl, h⟩ := zl_ok h; obtain ⟨g, hg, h⟩ := PB_ok h
      injection h with h; subst h; exact s_build F hk hl hg
    · cases h
  case slice t x lo hi mx =>
    unfold opB at h; simp only at h
    obtain ⟨ti, i, d, z, F, h⟩ := tB_ok hT h; obtain ⟨g, h1, h⟩ := oB_ok h
    obtain ⟨lo, hlo, h⟩ := optO h; obtain ⟨hi, hhi, h⟩ := optO h; obtain ⟨mx, hmx, h⟩ := optO h
    split at h
    · cases h
    · rename_i hk hn _h
      injection h with h; subst h
      refine s_slice F hk h1 hlo hhi hmx fun e => ?_
      cases hmx with
      | none => rfl
      | some y f hy => exact (hn _ e rfl).elim
    · rename_i hk _h
      injection h with h; subst h
      cases hmx
      exact s_sliceS F hk h1 hlo hhi
    · cases h
  case binOp op t x y yt =>
    unfold opB at h; simp only at h
    obtain ⟨ti, i, d, z, F, h⟩ := tB_ok hT h; obtain ⟨g1, h1, h⟩ := oB_ok h; obtain ⟨g2, h2, h⟩ := oB_ok h; exact s_binB hT F h1 h2 h
  case call c =>
    obtain ⟨callee, args, ats⟩ := c
    cases callee <;> first | (cases hp; done) | skip
    rename_i b
    cases b <;> first | (cases hp; done) | skip
    unfold opB callOb at h
    simp only at h
    split at h
    · rename_i x t hx ht
      have hx := arr1 hx; have ht := arr1 ht
      obtain ⟨ti, i, d, z, F, h⟩ := tB_ok hT h; obtain ⟨g, h1, h⟩ := oB_ok h
      subst hx; subst ht
      split at h
      · rename_i hk; injection h with h; subst h; exact s_lenS F hk h1
      · rename_i hk; injection h with h; subst h; exact s_lenStr F hk h1
      · rename_i hk; injection h with h; subst h; exact s_lenM F hk h1
      · cases h
    · cases h
end Go.Proofs.YtjkbljgolcdhhaaGreatDoor.Fw.Cm

/- Drawn regions: classes of operations. -/
namespace Go.Proofs.YtjkbljgolcdhhaaGreatDoor.Fw.Cm
open Go Go.RowKit Go.WideShapes
theorem alloc_ok {P : Program} {T : TT} (hT : T.okB P = true) {o : Oper} {f : Op'} (h : opB P T o = .mk f) (hp : allocO o = true) : AlF P o f := by
  obtain ⟨dst, op, ty, pos, after, guard⟩ := o
  cases op <;> first | (cases hp; done) | skip
  case alloc t =>
    unfold opB at h; simp only at h
    obtain ⟨ti, i, d, z, F, h⟩ := tB_ok hT h; obtain ⟨l, hl, h⟩ := zl_ok h; injection h with h; subst h; exact a_alloc F hl
  case box t x =>
    unfold opB at h; simp only at h
    obtain ⟨g, h1, h⟩ := oB_ok h; injection h with h; subst h; exact a_box h1
  case buildSlice t n ps =>
    unfold opB at h; simp only at h
    obtain ⟨ti, i, d, z, F, h⟩ := tB_ok hT h
    split at h
    · rename_i e hk
      obtain ⟨tie, ie, de, ze, Fe, h⟩ := tB_ok hT h
      obtain ⟨l, hl, h⟩ := zl_ok h
      split at h
      · rename_i hb
        obtain ⟨g, hg, h⟩ := PB_ok h
        injection h with h; subst h; exact a_buildSlice F hk Fe hl (Nat.le_of_ble_eq_true hb) hg
      · cases h
    · cases h
  case makeFunc fn a c =>
    unfold opB at h; simp only at h
    cases fn <;> first | (cases h; done) | skip
    obtain ⟨g1, h1, h⟩ := GL_ok h; obtain ⟨g2, h2, h⟩ := GL_ok h; injection h with h; subst h; exact a_makeFunc h1 h2
theorem look_ok {P : Program} {T : TT} (hT : T.okB P = true) {o : Oper} {f : Op'} (h : opB P T o = .mk f) (hp : lookO o = true) : OpP P o f := by
  obtain ⟨dst, op, ty, pos, after, guard⟩ := o
  cases op <;> first | (cases hp; done) | skip
  case load t x =>
    unfold opB at h; simp only at h
    obtain ⟨ti, i, d, z, F, h⟩ := tB_ok hT h; obtain ⟨g, h1, h⟩ := oB_ok h; injection h with h; subst h; exact s_load hT F h1
/-- the masked environment: of the temporaries below 510 only those of a list, with given values -/
noncomputable def maskE (val : Nat → W) : List Nat → E → E
  | [], e => e
  | t :: ts, e => setE t (val t) (maskE val ts e)
theorem maskE_get {val : Nat → W} {e : E} : ∀ {ts : List Nat}, (∀ t ∈ ts, t < 512) → ∀ j, j < 512 → getE j (maskE val ts e) = if j ∈ ts then val j else getE j e
  | [], _, j, _ => by simp [maskE]
  | t :: ts, ht, j, hj => by
    show getE j (setE t (val t) (maskE val ts e)) = _
    rw [getE_setE hj (ht t (List.mem_cons_self ..)), maskE_get (fun t h => ht t (List.mem_cons_of_mem _ h)) j hj]
    by_cases hjt : j = t
    · subst hjt; simp
    · simp [hjt]
end Go.Proofs.YtjkbljgolcdhhaaGreatDoor.Fw.Cm

/- Drawn regions: masked environments. -/
namespace Go.Proofs.YtjkbljgolcdhhaaGreatDoor.Fw.Cm
open Go Go.RowKit Go.WideShapes
/-- nothing but the round and the marks -/
noncomputable def baseE (e : E) : E := setE 511 (getE 511 e) (setE 510 (getE 510 e) E.no)
theorem baseE_get (e : E) {j : Nat} (hj : j < 512) : getE j (baseE e) = if 510 ≤ j then getE j e else .un := by
  unfold baseE
  rw [getE_setE hj (by omega), getE_setE hj (by omega), getE_no]
  by_cases h1 : j = 511
  · subst h1; simp
  · by_cases h2 : j = 510
    · subst h2; simp
    · have : ¬ 510 ≤ j := by omega
      simp [h1, h2, this]
theorem evb_tmp {t : Nat} {g : E → W} (h : evb (.tmp t) = .mk g) : g = getE t ∧ t < 510 := by
  unfold evb at h
  simp only at h
  split at h
  · rename_i hlt
    refine ⟨?_, by simpa [Nat.blt_eq] using hlt⟩
    unfold getE
    cases hg : getB t with
    | mk q => rw [hg] at h; injection h with h; exact h.symm
  · cases h
theorem agr_mask {val : Nat → W} {e b : E} {ts : List Nat} (hts : ∀ t ∈ ts, t < 512) {x : Operand} (hx : ∀ t, x = .tmp t → t ∈ ts ∧ getE t e = val t) : agr e (maskE val ts b) x := by
  intro g hg
  cases x with
  | tmp t =>
    obtain ⟨rfl, hlt⟩ := evb_tmp hg
    obtain ⟨h1, h2⟩ := hx t rfl
    have hlt' : @LT.lt Nat _ t 512 := Nat.lt_trans hlt (by decide)
    rw [maskE_get hts t hlt', if_pos h1, h2]
  | const v =>
    unfold evb at hg
    simp only at hg
    split at hg
    · injection hg with hg; subst hg; rfl
    · cases hg
  | func f => unfold evb at hg; injection hg with hg; subst hg; rfl
  | global _ => unfold evb at hg; cases hg
theorem er_mask {κ : Kap} (h0 : κ.x 0 = some (#[], #[])) {val : Nat → W} {e0 : E} {ts : List Nat} (hts : ∀ t ∈ ts, t < 510) {tmps : Array Value} (h : ∀ t ∈ ts, WR κ (val t) (tmps.getD t undef)) : ER κ (maskE val ts (baseE e0)) tmps := by
  refine ⟨h0, fun t ht => ?_⟩
  have ht' : t < 512 := Nat.lt_trans ht (by decide)
  rw [maskE_get (fun t h => Nat.lt_trans (hts t h) (by decide)) t ht']
  by_cases hm : t ∈ ts
  · rw [if_pos hm]; exact h t hm
  · rw [if_neg hm, baseE_get e0 ht', if_neg (by omega)]; exact WR.un κ _
/-- the same round, the same marks -/
theorem mask_slots {val : Nat → W} {e0 : E} {ts : List Nat} (hts : ∀ t ∈ ts, t < 510) {j : Nat} (h1 : 510 ≤ j) (h2 : j < 512) : getE j (maskE val ts (baseE e0)) = getE j e0 := by
  rw [maskE_get (fun t h => Nat.lt_trans (hts t h) (by decide)) j h2, if_neg (fun hm => by have := hts j hm; omega), baseE_get e0 h2, if_pos h1]
end Go.Proofs.YtjkbljgolcdhhaaGreatDoor.Fw.Cm
