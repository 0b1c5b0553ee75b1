/- The concrete evaluator and the world: states; results of code; regions in the listed order. -/
import Derived.Test.YtjkbljgolcdhhaaGreatDoorCD
import Derived.RangeFuncLeaves
import Derived.RangeFuncRecord
import Derived.Laws.Externs
import Derived.RecoverIn
set_option autoImplicit false
set_option linter.unusedVariables false
set_option linter.constructorNameAsVariable false
set_option linter.unusedSimpArgs false
namespace Go.Proofs.YtjkbljgolcdhhaaGreatDoor.Fw.Cm
open Go Go.RowKit Go.WideShapes

/-- a deletion from a map that is deferred -/
def DelD (P : Program) (κ : Kap) (m k : W) (d : Deferred) : Prop := ∃ (t u kt et : TypeId) (ty : TypeId) (cn : Array Bool) (vm vk : Value), (∀ fn o, m ≠ .o (.f fn o)) ∧ d.target = .builtin .delete #[t, u] ty cn ∧ d.args = #[vm, vk] ∧
  P.underlying t = some (.map kt et) ∧ P.underlying kt = some .string ∧ WR κ m vm ∧ WR κ k vk
theorem DelD.mono {P : Program} {κ κ' : Kap} (hle : κ.le κ') {m k : W} {d : Deferred} (h : DelD P κ m k d) : DelD P κ' m k d := by
  obtain ⟨t, u, kt, et, ty, cn, vm, vk, h0, h1, h2, h3, h4, h5, h6⟩ := h
  exact ⟨t, u, kt, et, ty, cn, vm, vk, h0, h1, h2, h3, h4, h5.mono hle, h6.mono hle⟩
/-- a call of a function that is deferred -/
def FunD (κ : Kap) (m k : W) (d : Deferred) : Prop := ∃ fn, m = .o (.f fn 0) ∧ d.target = .fn (.func fn) #[] ∧ TR κ k d.args.toList
theorem FunD.mono {κ κ' : Kap} (hle : κ.le κ') {m k : W} {d : Deferred} (h : FunD κ m k d) : FunD κ' m k d := by
  obtain ⟨fn, h1, h2, h3⟩ := h
  exact ⟨fn, h1, h2, h3.mono hle⟩
/-- what is deferred: marks of loops over functions, deletions from maps, calls of functions -/
def DR (P : Program) (A : Nat) (κ : Kap) (w : World) : W → List Deferred → Prop
  | .tn, ds => ds = []
  | .tu (.o _) r, ds => ∃ b ds', ds = { target := .collected b, args := #[] } :: ds' ∧ w.heap[b]? = some (.deferred (some [])) ∧ ¬ κ.im b ∧ A ≤ b ∧ b < w.heap.size ∧ (∀ d ∈ ds', d.target ≠ .collected b) ∧ DR P A κ w r ds'
  | .tu (.tu m k) r, ds => ∃ d ds', ds = d :: ds' ∧ (DelD P κ m k d ∨ FunD κ m k d) ∧ DR P A κ w r ds'
  | _, _ => False
theorem DR.keep {P : Program} {A : Nat} {κ κ' : Kap} {w w' : World} (he : Ext κ κ' w) (hf : Frm κ w w') : ∀ {x : W} {ds : List Deferred}, DR P A κ w x ds → DR P A κ' w' x ds
  | .tn, _, h => h
  | .tu (.o _) r, _, ⟨b, ds', h2, h3, h4, h5, h6, h7, h8⟩ =>
    ⟨b, ds', h2, (hf.keep b h6 h4).trans h3, fun hi => (he.new b hi).elim h4 fun hl => by omega, h5, Nat.lt_of_lt_of_le h6 hf.size, h7, h8.keep he hf⟩
  | .tu (.tu m k) r, _, ⟨d, ds', h2, h3, h4⟩ => ⟨d, ds', h2, h3.imp (·.mono he.le) (·.mono he.le), h4.keep he hf⟩
  | .tu (.ag _) _, _, h => h.elim
  | .tu .tn _, _, h => h.elim
  | .tu .un _, _, h => h.elim
  | .o _, _, h => h.elim
  | .ag _, _, h => h.elim
  | .un, _, h => h.elim
/-- in which round the code runs -/
def RR (κ : Kap) (x : W) (rnd : Option Nat) : Prop := (x = .un ∧ rnd = none) ∨ ∃ l b, x = .o (.y l) ∧ rnd = some b ∧ κ.q l = some b
theorem RR.mono {κ κ' : Kap} (hle : κ.le κ') {x : W} {rnd : Option Nat} (h : RR κ x rnd) : RR κ' x rnd := by
  rcases h with h | ⟨l, b, h1, h2, h3⟩
  · exact .inl h
  · exact .inr ⟨l, b, h1, h2, hle.q _ _ h3⟩
/-- B: no block below it is spoken of; A: no mark below it is ours -/
structure St (P : Program) (B A : Nat) (κ : Kap) (e : E) (h : H) (top : Nat) (rnd : Option Nat) (N : Nat) (a : Act) (w : World) : Prop where
  hr : HR B κ h top w
  hB : B ≤ w.heap.size
  hA : A ≤ w.heap.size
  n : a.tmps.size = N
  hN : N ≤ 500
  er : ER κ e a.tmps
  df : DR P A κ w (getE 511 e) a.defers
  rd : RR κ (getE 510 e) rnd
section
variable {P : Program} {T : TT} {B A : Nat} {κ κ' : Kap} {e : E} {h h' : H} {top top' : Nat} {rnd : Option Nat} {N : Nat} {a : Act} {w w' : World}
theorem St.put (s : St P B A κ e h top rnd N a w) {t : Nat} (ht : t < N) {v : W} {u : Value} (hv : WR κ v u) : St P B A κ (setE t v e) h top rnd N (a.put (some t) u) w := by
  have hN := s.hN
  have hn := s.n
  refine ⟨s.hr, s.hB, s.hA, by simpa [Act.put] using s.n, hN, ⟨s.er.x0, fun t' ht' => ?_⟩, ?_, ?_⟩
  · rw [getE_setE (by omega) (by omega)]
    simp only [Act.put]
    by_cases he : t' = t
    · subst he
      rw [if_pos rfl, Array.getD_eq_getD_getElem?, Array.getElem?_setIfInBounds, if_pos rfl, if_pos (by omega)]; exact hv
    · rw [if_neg he]
      rw [Array.getD_eq_getD_getElem?, Array.getElem?_setIfInBounds, if_neg (Ne.symm he), ← Array.getD_eq_getD_getElem?]
      exact s.er.env t' ht'
  · rw [getE_setE (by omega) (by omega), if_neg (by omega)]; exact s.df
  · rw [getE_setE (by omega) (by omega), if_neg (by omega)]; exact s.rd
theorem St.next (s : St P B A κ e h top rnd N a w) (hr : HR B κ' h' top' w') (he : Ext κ κ' w) (hf : Frm κ w w') : St P B A κ' e h' top' rnd N a w' :=
  ⟨hr, Nat.le_trans s.hB hf.size, Nat.le_trans s.hA hf.size, s.n, s.hN, s.er.mono he.le, s.df.keep he hf, s.rd.mono he.le⟩
end
def Fx : Option Nat → Fence
  | none => Fence.wide
  | some b => Fence.wide.inRound b
theorem Fx.fn (rnd : Option Nat) (f : FuncId) : (Fx rnd).fn f := by cases rnd <;> trivial
theorem Fx.depth (rnd : Option Nat) : (Fx rnd).depth = none := by cases rnd <;> rfl
theorem Fx.round (rnd : Option Nat) : (Fx rnd).round = rnd := by cases rnd <;> rfl
theorem Fx.calls {rnd : Option Nat} {n : Nat} {P : Program} {f : FuncId} {args : Array Value} {w : World} {R : Ending → World → Prop} (h : Calls P f args w R) : CallsIn (Fx rnd) n P f args w R := by
  have := callsIn_wide (n := n).2 h
  cases rnd
  · exact this
  · exact this
theorem Fx.rounds {rnd : Option Nat} {n : Nat} {P : Program} {l : Nat} {f : FuncId} {tmps : Array Value} {x y : Code} {w : World} {R : Ending → World → Prop} (h : RoundIn Fence.wide n P l f tmps x y w R) : RoundIn (Fx rnd) n P l f tmps x y w R := by
  cases rnd
  · exact h
  · exact h
/-- how code ends, and where -/
def Qr (P : Program) (B A : Nat) (κ : Kap) (N : Nat) (rnd : Option Nat) (w0 : World) (r : R) (x : Exit) (a : Act) (w : World) : Prop := match r with
  | .nrm e h top => x = .normal ∧ ∃ κ', Ext κ κ' w0 ∧ Frm κ w0 w ∧ St P B A κ' e h top rnd N a w
  | .ext i e h top => x = .exit i ∧ ∃ κ', Ext κ κ' w0 ∧ Frm κ w0 w ∧ St P B A κ' e h top rnd N a w
  | .ret e h top => x = .ret ∧ ∃ κ', Ext κ κ' w0 ∧ Frm κ w0 w ∧ St P B A κ' e h top rnd N a w
  | _ => False
theorem Qr.after {P : Program} {B A : Nat} {κ κ1 : Kap} {N : Nat} {rnd : Option Nat} {w0 w1 : World} {r : R} {x : Exit} {a : Act} {w : World} (he : Ext κ κ1 w0) (hf : Frm κ w0 w1) (q : Qr P B A κ1 N rnd w1 r x a w) : Qr P B A κ N rnd w0 r x a w := by
  cases r with
  | nrm e h top => obtain ⟨h1, κ', h2, h3, h4⟩ := q; exact ⟨h1, κ', he.trans hf.size h2, hf.trans he h3, h4⟩
  | ext i e h top => obtain ⟨h1, κ', h2, h3, h4⟩ := q; exact ⟨h1, κ', he.trans hf.size h2, hf.trans he h3, h4⟩
  | ret e h top => obtain ⟨h1, κ', h2, h3, h4⟩ := q; exact ⟨h1, κ', he.trans hf.size h2, hf.trans he h3, h4⟩
  | fin _ _ _ => exact q.elim
  | bad _ => exact q.elim
/-- the evaluator of code tells the truth -/
def RcS (P : Program) (rc : Rc) : Prop := ∀ {N : Nat} {c : Code} {e : E} {h : H} {top : Nat} {r : R}, Good r → rc N c e h top = r →
  ∀ {B A : Nat} {κ : Kap} {rnd : Option Nat} {a : Act} {w : World}, St P B A κ e h top rnd N a w → c.wpIn (Fx rnd) 0 P (Qr P B A κ N rnd w r) a w
/-- an operation or a call in its frame -/
structure OpG (P : Program) (o : Oper) (f : Op') : Prop where mk ::
  out : ∀ {rc : Rc} {e : E} {h : H} {top : Nat} {K : K} {r : R}, RcS P rc → Good r → f rc e h top K = r → ∃ v h' top', K v h' top' = r ∧
    ∀ {B A : Nat} {κ : Kap} {rnd : Option Nat} {N : Nat} {a : Act} {w : World}, St P B A κ e h top rnd N a w → ∀ (next : Act → World → Prop) (Q : Exit → Act → World → Prop),
      (∀ κ' u w', Ext κ κ' w → Frm κ w w' → HR B κ' h' top' w' → WR κ' v u → next (a.put o.dst u) w') → o.uponIn (Fx rnd) 0 P a next Q ((o.semAt (Fx rnd).round a.eval).run P w)
theorem OpS.g {P : Program} {o : Oper} {f : Op'} (hp : OpS P o f) (hd : ∀ c, o.op ≠ .defer c) : OpG P o f := ⟨fun {rc e h top K r} _ hg he => by
  obtain ⟨v, h', top', h1, _, h2⟩ := hp.out hg he
  refine ⟨v, h', top', h1, fun {B A κ rnd N a w} s next Q hn => ?_⟩
  obtain ⟨κ', u, w', nx, k1, k2, k3, k4, k5, k6⟩ := h2 s.hr s.hB s.er
  rw [Oper.semAt_eq _ _ _ hd, k1]
  rcases k2 with rfl | ⟨rfl, rfl⟩
  · rw [Oper.uponIn_value]; exact hn κ' u w' k4 k5 k3 k6
  · rw [Oper.uponIn_skip]; exact hn κ' undef w' k4 k5 k3 k6⟩

/-! ### Regions in the listed order -/
section
variable {P : Program} {T : TT}
theorem WR.undef (κ : Kap) : WR κ .tn undef := WR.tn.2 rfl
theorem guardK_ok {w : W} {want : Bool} {kt kf r : R} (h : guardK w want kt kf = r) (hr : Good r) : (∃ b, w = .o (.b b) ∧ (if b = want then kt else kf) = r) ∨ (w = .tn ∧ kf = r) := by
  cases w with
  | o v =>
    obtain ⟨b, rfl, hb⟩ := V.bool_ok h hr
    refine .inl ⟨b, rfl, ?_⟩
    cases b <;> cases want <;> exact hb
  | tn => exact .inr ⟨rfl, h⟩
  | ag _ => subst h; exact Good.bad hr
  | tu _ _ => subst h; exact Good.bad hr
  | un => subst h; exact Good.bad hr
theorem setB_setE {t : Nat} {f : W → E → E} (h : UB.rec (motive := fun _ => SB) (fun f => .mk f) (setB t) = SB.mk f) : f = setE t := by
  unfold setE
  cases hs : setB t with
  | mk g => rw [hs] at h; injection h with h; exact h.symm
theorem dst_put {N : Nat} {d : Option Tmp} {s : W → E → E} (h : dstB N d = .mk s) {B A : Nat} {κ : Kap} {e : E} {hh : H} {top : Nat} {rnd : Option Nat} {a : Act} {w : World} (st : St P B A κ e hh top rnd N a w) {v : W} {u : Value} (hv : WR κ v u) :
    St P B A κ (s v e) hh top rnd N (a.put d u) w := by
  cases d with
  | none => injection h with h; subst h; exact st
  | some t =>
    unfold dstB at h
    simp only at h
    split at h
    · rename_i hb
      rw [setB_setE h]
      exact st.put (by simpa [Nat.blt_eq] using hb) hv
    · cases h
theorem nth_get : ∀ {α : Type} (l : List α) (n : Nat), nth l n = l[n]? := by
  intro α l
  induction l with
  | nil => intro n; cases n <;> rfl
  | cons x l ih => intro n; cases n with
    | zero => rfl
    | succ n => exact (ih n).trans (by simp)
end
end Go.Proofs.YtjkbljgolcdhhaaGreatDoor.Fw.Cm

/- The concrete evaluator and the world: regions in the listed order. -/
namespace Go.Proofs.YtjkbljgolcdhhaaGreatDoor.Fw.Cm
open Go Go.RowKit Go.WideShapes
variable {P : Program} {T : TT}
/-- what one step of a region asks -/
def oneIn (F : Fence) (P : Program) (ops : Array Oper) (o : Oper) (a : Act) (w : World) (next : Act → World → Prop) (Q : Exit → Act → World → Prop) : Prop :=
  if Region.wanted o (yielded ops a.tmps) then o.wpIn F 0 P a w next Q else (∀ f, o.about P w a.eval = some f → F.fn f) ∧ next (a.put o.dst undef) w
structure GoS (P : Program) (ops : Array Oper) (N : Nat) (o : Oper) (f : Rc → E → H → Nat → K2 → R) : Prop where mk ::
  out : ∀ {rc : Rc} {e : E} {h : H} {top : Nat} {K : K2} {r : R}, RcS P rc → Good r → f rc e h top K = r → ∃ e' h' top', K e' h' top' = r ∧
    ∀ {B A : Nat} {κ : Kap} {rnd : Option Nat} {a : Act} {w : World}, St P B A κ e h top rnd N a w → ∀ (next : Act → World → Prop) (Q : Exit → Act → World → Prop),
      (∀ κ' a' w', Ext κ κ' w → Frm κ w w' → St P B A κ' e' h' top' rnd N a' w' → next a' w') → oneIn (Fx rnd) P ops o a w next Q
theorem gdst_ok {ops : Array Oper} {j : Nat} {c : E → W} (h : gdst ops.toList j = .mk c) : ∃ o t, ops[j]? = some o ∧ o.dst = some t ∧ t < 510 ∧ c = getE t := by
  unfold gdst at h
  rw [nth_eq, Array.getElem?_toList] at h
  split at h
  · rename_i o ho
    split at h
    · rename_i t ht
      refine ⟨o, t, ho, ht, ?_⟩
      unfold evb at h
      simp only at h
      split at h
      · rename_i hlt
        refine ⟨by simpa [Nat.blt_eq] using hlt, ?_⟩
        unfold getE
        cases hg : getB t with
        | mk g => rw [hg] at h; injection h with h; exact h.symm
      · cases h
    · cases h
  · cases h
theorem yielded_some {κ : Kap} {e : E} {ops : Array Oper} {tmps : Array Value} (hE : ER κ e tmps) {j t : Nat} {o : Oper} (h1 : ops[j]? = some o) (h2 : o.dst = some t) (h3 : t < 510) {b : Bool} (hb : getE t e = .o (.b b)) : yielded ops tmps j = some b := by
  have h4 := hE.env t h3
  rw [hb] at h4
  have h5 : tmps.getD t undef = .bool b := h4
  unfold yielded
  simp only [h1, h2, Option.bind_some]
  rw [Array.getD_eq_getD_getElem?] at h5
  cases hq : tmps[t]? with
  | none => rw [hq] at h5; cases h5
  | some v => rw [hq] at h5; simp at h5; subst h5; rfl
theorem yielded_none {κ : Kap} {e : E} {ops : Array Oper} {tmps : Array Value} (hE : ER κ e tmps) {j t : Nat} {o : Oper} (h1 : ops[j]? = some o) (h2 : o.dst = some t) (h3 : t < 510) (hb : getE t e = .tn) : yielded ops tmps j = none := by
  have h4 := hE.env t h3
  rw [hb] at h4
  have h5 : tmps.getD t undef = .tuple #[] := WR.tn.1 h4
  unfold yielded
  simp only [h1, h2, Option.bind_some]
  rw [Array.getD_eq_getD_getElem?] at h5
  cases hq : tmps[t]? with
  | none => rfl
  | some v => rw [hq] at h5; simp at h5; subst h5; rfl
theorem noRound_ok {w : W} {k r : R} (h : noRound w k = r) (hr : Good r) : w = .un ∧ k = r := by
  cases w with
  | un => exact ⟨rfl, h⟩
  | _ => subst h; exact hr.bad
theorem isF_ok {v : V} {n : Nat} {k r : R} (h : v.isF (fun _ => .bad n) k = r) (hr : Good r) : (∀ fn o, v ≠ .f fn o) ∧ k = r := by
  cases v <;> first
    | exact ⟨fun _ _ h => (by cases h), h⟩
    | (have h : R.bad n = r := h; subst h; exact hr.bad)
theorem pushB_ok (hT : T.okB P = true) {ops : Array Oper} {N : Nat} {o : Oper} {f : Rc → E → H → Nat → K2 → R} (h : pushB T o = .mk f) : GoS P ops N o f := by
  obtain ⟨dst, op, ty, pos, after, guard⟩ := o
  unfold pushB at h
  split at h
  · rename_i c hop hdst hg
    have hop : op = .defer c := hop
    have hdst : dst = none := hdst
    have hg : guard = none := hg
    subst hop; subst hdst; subst hg
    obtain ⟨callee, args, ats⟩ := c
    split at h
    · rename_i fn hcal
      have hcal : callee = _ := hcal
      subst hcal
      cases hx : evl args.toList with
      | no => rw [hx] at h; cases h
      | mk g =>
        rw [hx] at h
        injection h with h; subst h
        obtain ⟨ga, g1, g2⟩ := evl_rel hx
        refine ⟨fun {rc e hh top K r} hrc hr he => ?_⟩
        obtain ⟨h510, he⟩ := noRound_ok he hr
        rw [g1] at he
        refine ⟨_, hh, top, he, fun {B A κ rnd a w} st next Q hn => ?_⟩
        have hrnd : rnd = none := by
          rcases st.rd with ⟨_, h⟩ | ⟨l, b, h, _⟩
          · exact h
          · rw [show getE 510 e = .un from h510] at h; cases h
        subst hrnd
        unfold oneIn
        rw [if_pos (show Region.wanted _ _ = true from rfl)]
        refine ⟨fun f _ => Fx.fn none f, ?_⟩
        have hrun : ((Oper.semAt (Fx none).round a.eval ⟨none, .defer ⟨.value (.func fn), args, ats⟩, ty, pos, after, none⟩).run P w) = .ok (.defer { target := .fn (.func fn) #[], args := args.map a.eval }) w := by
          rw [Fx.round, Oper.semAt_none]
          simp [execOp, resolve, Deferred.ofValue, Act.eval]
        rw [hrun, Oper.uponIn_defer]
        refine hn κ _ w (Ext.refl _ _) (Frm.refl _ _) ?_
        have hN := st.hN
        refine ⟨st.hr, st.hB, st.hA, st.n, hN, ⟨st.er.x0, fun t' ht' => ?_⟩, ?_, .inl ⟨?_, rfl⟩⟩
        · show WR κ (getE t' (setE 511 _ e)) _
          rw [getE_setE (by omega) (by omega), if_neg (by omega)]
          exact st.er.env t' ht'
        · show DR P A κ w (getE 511 (setE 511 _ e)) _
          rw [getE_setE (by omega) (by omega), if_pos rfl]
          exact ⟨_, _, rfl, .inr ⟨fn, rfl, rfl, by simpa using g2 st.er⟩, st.df⟩
        · show getE 510 (setE 511 _ e) = _
          rw [getE_setE (by omega) (by omega), if_neg (by omega)]; exact h510
    · rename_i x y t u hcal hargs hats
      have hcal : callee = _ := hcal
      subst hcal
      have hargs := arr2 hargs; have hats := arr2 hats
      have hargs : args = _ := hargs
      have hats : ats = _ := hats
      subst hargs; subst hats
      split at h
      · rename_i ti hti
        obtain ⟨i, d, z, F⟩ := TI.facts (TT.get_ok hT hti)
        split at h
        · rename_i kt et hk
          split at h
          · rename_i tk htk
            obtain ⟨ik, dk, zk, Fk⟩ := TI.facts (TT.get_ok hT htk)
            split at h
            · rename_i hks
              cases hx : evb x with
              | no =>
                cases hy : evb y <;> rw [hx, hy] at h <;> cases h
              | mk fx =>
                cases hy : evb y with
                | no => rw [hx, hy] at h; cases h
                | mk fy =>
                  rw [hx, hy] at h
                  injection h with h; subst h
                  refine ⟨fun {rc e hh top K r} hrc hr he => ?_⟩
                  obtain ⟨h510, he⟩ := noRound_ok he hr
                  obtain ⟨mv, hmv, he⟩ := W.v_ok he hr
                  obtain ⟨hnf, he⟩ := isF_ok he hr
                  refine ⟨_, hh, top, he, fun {B A κ rnd a w} st next Q hn => ?_⟩
                  have hrnd : rnd = none := by
                    rcases st.rd with ⟨_, h⟩ | ⟨l, b, h, _⟩
                    · exact h
                    · rw [show getE 510 e = .un from h510] at h; cases h
                  subst hrnd
                  unfold oneIn
                  rw [if_pos (show Region.wanted _ _ = true from rfl)]
                  refine ⟨fun f _ => Fx.fn none f, ?_⟩
                  have hrun : ((Oper.semAt (Fx none).round a.eval ⟨none, .defer ⟨.builtin .delete, #[x, y], #[t, u]⟩, ty, pos, after, none⟩).run P w) = .ok (.defer { target := .builtin .delete #[t, u] ty (#[x, y].map fun | .const _ => true | _ => false), args := #[x, y].map a.eval }) w := by
                    rw [Fx.round, Oper.semAt_none]
                    simp only [execOp, resolve, Sem.run_bind, Sem.run_pure, Result.andThen_ok]
                    rfl
                  rw [hrun, Oper.uponIn_defer]
                  refine hn κ _ w (Ext.refl _ _) (Frm.refl _ _) ?_
                  have hN := st.hN
                  refine ⟨st.hr, st.hB, st.hA, st.n, hN, ⟨st.er.x0, fun t' ht' => ?_⟩, ?_, .inl ⟨?_, rfl⟩⟩
                  · show WR κ (getE t' (setE 511 _ e)) _
                    rw [getE_setE (by omega) (by omega), if_neg (by omega)]
                    exact st.er.env t' ht'
                  · show DR P A κ w (getE 511 (setE 511 _ e)) _
                    rw [getE_setE (by omega) (by omega), if_pos rfl]
                    exact ⟨_, _, rfl, .inl ⟨t, u, kt, et, ty, _, a.eval x, a.eval y, (fun fn o e => by rw [hmv] at e; injection e with e; exact hnf fn o e), rfl, by simp, und_map F hk, und_str' Fk hks, evb_rel hx st.er, evb_rel hy st.er⟩, st.df⟩
                  · show getE 510 (setE 511 _ e) = _
                    rw [getE_setE (by omega) (by omega), if_neg (by omega)]; exact h510
            · cases h
          · cases h
        · cases h
      · cases h
    · cases h
  · cases h
theorem goB_ok (hT : T.okB P = true) {ops : Array Oper} {N : Nat} {o : Oper} {f : Rc → E → H → Nat → K2 → R} (hop : ∀ f, opB P T o = .mk f → OpG P o f) (h : goB P T N ops.toList o = .mk f) : GoS P ops N o f := by
  unfold goB at h
  split at h
  · exact pushB_ok hT h
  cases hf : opB P T o with
  | no => rw [hf] at h; cases h
  | mk g =>
    have G := hop g hf
    rw [hf] at h
    cases hd : dstB N o.dst with
    | no => rw [hd] at h; cases h
    | mk s =>
      rw [hd] at h
      simp only at h
      have run : ∀ {rc : Rc} {e : E} {hh : H} {top : Nat} {K : K2} {r : R}, RcS P rc → Good r → (g rc e hh top fun v h top => K (s v e) h top) = r → ∃ e' h' top', K e' h' top' = r ∧
          ∀ {B A : Nat} {κ : Kap} {rnd : Option Nat} {a : Act} {w : World}, St P B A κ e hh top rnd N a w → ∀ (next : Act → World → Prop) (Q : Exit → Act → World → Prop),
            (∀ κ' a' w', Ext κ κ' w → Frm κ w w' → St P B A κ' e' h' top' rnd N a' w' → next a' w') → o.wpIn (Fx rnd) 0 P a w next Q := by
        intro rc e hh top K r hrc hr he
        obtain ⟨v, h', top', h1, h2⟩ := G.out hrc hr he
        refine ⟨s v e, h', top', h1, fun {B A κ rnd a w} st next Q hn => ⟨fun f _ => Fx.fn rnd f, h2 st next Q fun κ' u w' k1 k2 k3 k4 => hn κ' _ w' k1 k2 (dst_put hd (st.next k3 k1 k2) k4)⟩⟩
      split at h
      · rename_i hg
        injection h with h; subst h
        refine ⟨fun {rc e hh top K r} hrc hr he => ?_⟩
        obtain ⟨e', h', top', h1, h2⟩ := run hrc hr he
        refine ⟨e', h', top', h1, fun {B A κ rnd a w} st next Q hn => ?_⟩
        unfold oneIn
        have : Region.wanted o (yielded ops a.tmps) = true := by unfold Region.wanted; rw [hg]
        rw [if_pos this]
        exact h2 st next Q hn
      · rename_i q hg
        cases hc : gdst ops.toList q.1 with
        | no => rw [hc] at h; cases h
        | mk c =>
          rw [hc] at h
          injection h with h; subst h
          obtain ⟨o', t, g1, g2, g3, rfl⟩ := gdst_ok hc
          refine ⟨fun {rc e hh top K r} hrc hr he => ?_⟩
          have he' : guardK (getE t e) q.2 (g rc e hh top fun v h top => K (s v e) h top) (K (s .tn e) hh top) = r := he
          have skip : K (s .tn e) hh top = r → (∀ tmps κ, ER κ e tmps → yielded ops tmps q.1 ≠ some q.2) → ∃ e' h' top', K e' h' top' = r ∧
              ∀ {B A : Nat} {κ : Kap} {rnd : Option Nat} {a : Act} {w : World}, St P B A κ e hh top rnd N a w → ∀ (next : Act → World → Prop) (Q : Exit → Act → World → Prop),
                (∀ κ' a' w', Ext κ κ' w → Frm κ w w' → St P B A κ' e' h' top' rnd N a' w' → next a' w') → oneIn (Fx rnd) P ops o a w next Q := by
            intro hk hy
            refine ⟨s .tn e, hh, top, hk, fun {B A κ rnd a w} st next Q hn => ?_⟩
            unfold oneIn
            have : Region.wanted o (yielded ops a.tmps) ≠ true := by
              unfold Region.wanted; rw [hg]
              simp only [beq_iff_eq, ne_eq]
              exact hy _ _ st.er
            rw [if_neg this]
            exact ⟨fun f _ => Fx.fn rnd f, hn κ _ w (Ext.refl _ _) (Frm.refl _ _) (dst_put hd st (WR.undef κ))⟩
          rcases guardK_ok he' hr with ⟨b, hb, hk⟩ | ⟨hb, hk⟩
          · by_cases hq : b = q.2
            · rw [if_pos hq] at hk
              obtain ⟨e', h', top', h1, h2⟩ := run hrc hr hk
              refine ⟨e', h', top', h1, fun {B A κ rnd a w} st next Q hn => ?_⟩
              unfold oneIn
              have : Region.wanted o (yielded ops a.tmps) = true := by
                unfold Region.wanted; rw [hg]
                simp only [beq_iff_eq]
                rw [yielded_some st.er g1 g2 g3 hb, hq]
              rw [if_pos this]
              exact h2 st next Q hn
            · rw [if_neg hq] at hk
              exact skip hk fun tmps κ hE => by rw [yielded_some hE g1 g2 g3 hb]; intro h; injection h with h; exact hq h
          · exact skip hk fun tmps κ hE => by rw [yielded_none hE g1 g2 g3 hb]; intro h; cases h
theorem regB_ok (hT : T.okB P = true) {ops : Array Oper} {N : Nat} (hop : ∀ o f, opB P T o = .mk f → OpG P o f) : ∀ (l : List Oper) (k : Nat) {f : Rc → E → H → Nat → K2 → R}, ops.toList.drop k = l → regB P T N ops.toList l = .mk f →
    ∀ {rc : Rc} {e : E} {h : H} {top : Nat} {K : K2} {r : R}, RcS P rc → Good r → f rc e h top K = r → ∃ e' h' top', K e' h' top' = r ∧
    ∀ {B A : Nat} {κ : Kap} {rnd : Option Nat} {a : Act} {w : World}, St P B A κ e h top rnd N a w → ∀ (Q : Exit → Act → World → Prop),
      (∀ κ' a' w', Ext κ κ' w → Frm κ w w' → St P B A κ' e' h' top' rnd N a' w' → Q .normal a' w') → wpOpsIn (Fx rnd) 0 P ops Q (List.range' k l.length) a w
  | [], k, f, hd, h => by
    injection h with h; subst h
    intro hrc hr he; rename_i rc e h top K r
    exact ⟨e, h, top, he, fun {B A κ rnd a w} st Q hn => hn κ a w (Ext.refl _ _) (Frm.refl _ _) st⟩
  | o :: l, k, f, hd, h => by
    have ho : ops[k]? = some o := by
      have : ops.toList[k]? = some o := by
        have := congrArg List.head? hd
        simpa [List.head?_drop] using this
      simpa using this
    have hd' : ops.toList.drop (k + 1) = l := by
      have := congrArg List.tail hd
      simpa [List.tail_drop] using this
    have h' : GO.rec (motive := fun _ => GO) (fun f => GO.rec (motive := fun _ => GO) (fun g => .mk fun rc e h top K => f rc e h top fun e h top => g rc e h top K) .no (regB P T N ops.toList l)) .no (goB P T N ops.toList o) = .mk f := h
    cases hg : goB P T N ops.toList o with
    | no => rw [hg] at h'; cases h'
    | mk f1 =>
      rw [hg] at h'
      cases hl : regB P T N ops.toList l with
      | no => rw [hl] at h'; cases h'
      | mk f2 =>
        rw [hl] at h'
        injection h' with h'; subst h'
        intro hrc hr he; rename_i rc e h top K r
        obtain ⟨e1, h1, top1, he1, k1⟩ := (goB_ok hT (hop o) hg).out hrc hr he
        obtain ⟨e2, h2, top2, he2, k2⟩ := regB_ok hT hop l (k + 1) hd' hl hrc hr he1
        refine ⟨e2, h2, top2, he2, fun {B A κ rnd a w} st Q hn => ?_⟩
        have := k1 st (wpOpsIn (Fx rnd) 0 P ops Q (List.range' (k + 1) l.length)) Q fun κ1 a1 w1 x1 f1 s1 => k2 s1 Q fun κ2 a2 w2 x2 f2 s2 => hn κ2 a2 w2 (x1.trans f1.size x2) (f1.trans x1 f2) s2
        show wpOpsIn (Fx rnd) 0 P ops Q (List.range' k (l.length + 1)) a w
        rw [List.range'_succ]
        unfold wpOpsIn
        rw [ho]
        exact this
theorem region_ok (hT : T.okB P = true) {id : Nat} {ops : Array Oper} {N : Nat} (hop : ∀ o f, opB P T o = .mk f → OpG P o f) {f : Rc → E → H → Nat → K2 → R} (h : regB P T N ops.toList ops.toList = .mk f)
    {rc : Rc} {e : E} {hh : H} {top : Nat} {r : R} (hrc : RcS P rc) (hr : Good r) (he : (f rc e hh top fun e h top => .nrm e h top) = r) {B A : Nat} {κ : Kap} {rnd : Option Nat} {a : Act} {w : World} (st : St P B A κ e hh top rnd N a w) :
    (Code.region id ops false).wpIn (Fx rnd) 0 P (Qr P B A κ N rnd w r) a w := by
  obtain ⟨e', h', top', h1, h2⟩ := regB_ok hT hop ops.toList 0 rfl h hrc hr he
  refine wpIn_region ?_
  have := h2 st (Qr P B A κ N rnd w r) fun κ' a' w' x1 f1 s1 => by subst h1; exact ⟨rfl, κ', x1, f1, s1⟩
  rw [List.range_eq_range']
  simpa using this
end Go.Proofs.YtjkbljgolcdhhaaGreatDoor.Fw.Cm

/- A function leaves: marks of loops over functions and deferred calls of built-in functions. -/
namespace Go.Proofs.YtjkbljgolcdhhaaGreatDoor.Fw.Cm
open Go Go.RowKit Go.WideShapes
variable {P : Program} {F : Fence} {n : Nat}
/-- a deferred call that ends at once -/
theorem step_once {fr : Frame} {cs : List Frame} {w w' : World} {d : Deferred} {ds : List Deferred} {b : Builtin} {ts : Array TypeId} {ty : TypeId} {cn : Array Bool} {v : Value}
    (hm : fr.mode ≠ .run) (hd : fr.defers = d :: ds) (ht : d.target = .builtin b ts ty cn) (hi : (invoke d.target d.args).run P w = .ok (.value v) w') :
    Go.step P (lone fr cs w) = .next (lone { fr with defers := ds } cs w') := by
  obtain ⟨t, a⟩ := d
  simp only at ht hi
  subst ht
  refine step_lone_go ?_
  cases hmode : fr.mode with
  | run => exact absurd hmode hm
  | returning => simp [stepG, unwind, callDeferred, hmode, hd, hi]
  | panicking chain => simp [stepG, unwind, callDeferred, hmode, hd, hi]
def LeavesV (F : Fence) (n : Nat) (P : Program) (fn : Func) (tmps : Array Value) (R : Ending → World → Prop) : List Deferred → World → Prop
  | [], w => LeavesIn F n P fn tmps R [] .returning w
  | d :: ds, w =>
      (∃ r w', d.target = .collected r ∧ (Instr.takeDeferred r).run P w = .ok [] w' ∧ LeavesV F n P fn tmps R ds w') ∨
      (∃ b ts ty cn v w', d.target = .builtin b ts ty cn ∧ (invoke d.target d.args).run P w = .ok (.value v) w' ∧ LeavesV F n P fn tmps R ds w') ∨
      ((F.depth.isSome = true → 1 ≤ n) ∧ ∃ fv cap f args, d.target = .fn fv cap ∧ (invoke d.target d.args).run P w = .ok (.enter f args) w ∧ (∀ g, d.target.leads P w d.args = some g → F.fn g) ∧
        CallsDIn F (n - 1) P f args .returning w (fun en u' w' => (∃ v, en = .returned v) ∧ u' = .returning ∧ w' = w) ∧ LeavesV F n P fn tmps R ds w)
theorem leaves_stepsV {fn : Func} {tmps : Array Value} {R : Ending → World → Prop} : ∀ (ds : List Deferred) (w : World) (fr : Frame)
    (cs : List Frame), fr.mode = .returning → fr.defers = ds → fr.tmps = tmps → P.funcs[fr.fn]? = some fn → fr.kind = .normal → F.fn fr.fn → F.room (cs.length + 1 + n) → LeavesV F n P fn tmps R ds w →
    ∃ e w' fr', R e w' ∧ ComesIn (Machine.fenced P F) P (lone fr cs w) (lone fr' cs w') e ∧ fr'.fn = fr.fn ∧ fr'.leaving P w' e := by
  intro ds
  induction ds with
  | nil => exact fun w fr cs hu hd ht hf hk hb hroom h => leaves_stepsIn [] .returning w fr cs hu hd ht hf hk hb hroom h
  | cons d ds ih =>
    intro w fr cs hu hd ht hf hk hb hroom h
    have hrun : fr.mode ≠ .run := by rw [hu]; simp
    rcases h with ⟨r, w', htar, htake, hrest⟩ | ⟨b, ts, ty, cn, v, w', htar, hinv, hrest⟩ | ⟨hn, fv, cap, f, args, htar, hinv, hlead, ⟨hFf, hcall⟩, hrest⟩
    · have h1 := step_collected (cs := cs) hrun hd htar htake
      have i1 : (lone fr cs w).fenced P F := fenced_out hb hroom hrun hd (fun g hg => by rw [htar] at hg; simp [Target.leads] at hg)
      obtain ⟨e', w'', fr', hR', hs', hfn', hl'⟩ := ih w' { fr with defers := [] ++ ds } cs hu rfl ht hf hk hb hroom hrest
      exact ⟨e', w'', fr', hR', ComesIn.of_steps (.one i1 h1) hs', hfn', hl'⟩
    · have h1 := step_once (cs := cs) hrun hd htar hinv
      have i1 : (lone fr cs w).fenced P F := fenced_out hb hroom hrun hd (fun g hg => by rw [htar] at hg; simp [Target.leads] at hg)
      obtain ⟨e', w'', fr', hR', hs', hfn', hl'⟩ := ih w' { fr with defers := ds } cs hu rfl ht hf hk hb hroom hrest
      exact ⟨e', w'', fr', hR', ComesIn.of_steps (.one i1 h1) hs', hfn', hl'⟩
    · have h1 := step_defer (cs := cs) hrun hd htar hinv
      have i1 : (lone fr cs w).fenced P F := fenced_out hb hroom hrun hd hlead
      have hroom' : F.room (({ fr with defers := ds } :: cs).length + 1 + (n - 1)) := Fence.room_enter hroom hn
      obtain ⟨e, u', w', frX, hR, hsteps, hkX, hfX, hgo⟩ := hcall { fr with defers := ds } cs hu hroom'
      obtain ⟨⟨v, rfl⟩, rfl, rfl⟩ := hR
      have i2 : (lone frX ({ { fr with defers := ds } with mode := .returning } :: cs) w').fenced P F := fenced_going (n := n - 1) (hfX ▸ hFf) hroom' hgo
      have h2 := step_going_returned (c := { { fr with defers := ds } with mode := .returning }) (cs := cs) hkX hgo
      obtain ⟨e', w'', fr', hR', hs', hfn', hl'⟩ := ih w' { { { fr with defers := ds } with mode := .returning } with mode := settle .returning } cs rfl rfl ht hf hk hb hroom hrest
      exact ⟨e', w'', fr', hR', ComesIn.of_steps (.head i1 h1 (StepsIn.trans hsteps (.one i2 h2))) hs', hfn', hl'⟩
/-- what the body of a function must achieve -/
def bodyPostV (F : Fence) (n : Nat) (P : Program) (fn : Func) (R : Ending → World → Prop) : Exit → Act → World → Prop
  | .normal, a, w | .ret, a, w => LeavesV F n P fn a.tmps R a.defers w
  | _, _, _ => False
theorem callsIn_of_wp_v {f : FuncId} {fn : Func} {c : Code} {args : Array Value} {w : World} {R : Ending → World → Prop}
    (hf : P.funcs[f]? = some fn) (hb : fn.body = some c) (hF : F.fn f)
    (h : c.wpIn F n P (bodyPostV F n P fn R) { tmps := args ++ Array.replicate (fn.ntmps - args.size) undef, defers := [] } w) (hro : F.round = none := by rfl) : CallsIn F n P f args w R := by
  refine ⟨hF, fun cs hr => ?_⟩
  let b : Frame := { (default : Frame) with fn := f, kind := .normal, roundOf := none }
  have henter : Frame.enter P f args .normal =
      b.atR { tmps := args ++ Array.replicate (fn.ntmps - args.size) undef, defers := [] } [.code c] := by
    simp [Frame.enter, Frame.atR, hf, hb, b]
  obtain ⟨e, a', w', hq, harr⟩ := h b [] cs hro.symm hF hr
  rw [← henter] at harr
  cases e with
  | normal =>
    obtain ⟨e', w'', fr', hR, hs, hfn, hl⟩ := leaves_stepsV a'.defers w' { b.atR a' [] with mode := .returning } cs rfl rfl rfl hf rfl hF hr hq
    exact ⟨e', w'', fr', hR, ComesIn.of_steps (StepsIn.trans harr (.one (fenced_calm (fr := b.atR a' []) hF hr rfl) (stepR_end rfl))) hs, hfn, hl⟩
  | ret =>
    obtain ⟨todo, hs₀⟩ := harr.1 rfl
    obtain ⟨e', w'', fr', hR, hs, hfn, hl⟩ := leaves_stepsV a'.defers w' { b.atR a' todo with mode := .returning } cs rfl rfl rfl hf rfl hF hr hq
    exact ⟨e', w'', fr', hR, ComesIn.of_steps hs₀ hs, hfn, hl⟩
  | panic chain => exact hq.elim
  | exit id => exact hq.elim
  | goto l => exact hq.elim
  | outgrown => exact hq.elim
end Go.Proofs.YtjkbljgolcdhhaaGreatDoor.Fw.Cm

/- The concrete evaluator and the world: the end of a function; calls. -/
namespace Go.Proofs.YtjkbljgolcdhhaaGreatDoor.Fw.Cm
open Go Go.RowKit Go.WideShapes
variable {P : Program} {T : TT}
/-! ### 1. Results -/
def resF (tmps : Array Value) : ResultVar → Sem Value
  | .tmp t => pure (tmps.getD t undef)
  | .cell q t => do loadVar t (← asAddr (tmps.getD q undef))
theorem results_eq (fn : Func) (tmps : Array Value) : results fn tmps = (do let vs ← fn.results.mapM (resF tmps); pure (if h : vs.size = 1 then vs[0] else .tuple vs)) := by
  unfold results
  have : (fun x : ResultVar => match x with | .tmp t => (pure (tmps.getD t undef) : Sem Value) | .cell q t => do loadVar t (← asAddr (tmps.getD q undef))) = resF tmps := by
    funext x; cases x <;> rfl
  rw [← this]
  rfl
def ResS (P : Program) (rv : ResultVar) (f : E → H → (W → R) → R) : Prop := ∀ {e : E} {h : H} {top : Nat} {k : W → R} {r : R}, Good r → f e h k = r → ∃ v, k v = r ∧
  ∀ {B : Nat} {κ : Kap} {tmps : Array Value} {w : World}, HR B κ h top w → ER κ e tmps → ∃ u, (resF tmps rv).run P w = .ok u w ∧ WR κ v u
theorem res1_ok (hT : T.okB P = true) {rv : ResultVar} {f : E → H → (W → R) → R} (h : res1 T rv = .mk f) : ResS P rv f := by
  cases rv with
  | tmp t =>
    unfold res1 at h
    simp only at h
    split at h
    · rename_i hlt
      have hlt : t < 510 := by simpa [Nat.blt_eq] using hlt
      have hf : f = fun e _ k => k (getE t e) := by
        unfold getE
        cases hg : getB t with
        | mk g => rw [hg] at h; injection h with h; exact h.symm
      subst hf
      unfold ResS
      intro e hh top k r hr he
      exact ⟨_, he, fun _ hE => ⟨_, rfl, hE.env t hlt⟩⟩
    · cases h
  | cell q t =>
    unfold res1 at h
    simp only at h
    split at h
    · rename_i ti ht hlt
      have hlt' : q < 510 := by simpa [Nat.blt_eq] using hlt
      obtain ⟨i, d, z, F⟩ := TI.facts (TT.get_ok hT ht)
      have hx : evb (.tmp q) = .mk (getE q) := by
        unfold evb getE
        simp only
        rw [hlt]
        cases getB q; rfl
      have hf : f = fun e h k => oLoad ti.agg ti.sz (getE q) (fun _ _ _ _ _ => .bad 0) e h 0 fun w _ _ => k w := by
        unfold getE
        cases hg : getB q with
        | mk g => rw [hg] at h; injection h with h; exact h.symm
      subst hf
      unfold ResS
      intro e hh top k r hr he
      have he' : oLoad ti.agg ti.sz (getE q) (fun _ _ _ _ _ => .bad 0) e hh top (fun w _ _ => k w) = r := he
      have S := (s_load (P := P) (dst := none) (ty := 0) (pos := "") (after := #[]) (guard := none) hT F hx).out hr he'
      obtain ⟨v, h1, h2⟩ := S
      refine ⟨v, h1, fun {B κ tmps w} hh hE => ?_⟩
      obtain ⟨u, k1, k2⟩ := h2 (a := { tmps := tmps, defers := [] }) hh hE
      refine ⟨u, ?_, k2⟩
      obtain ⟨x, p1, p2⟩ := W.v_ok he' hr
      replace p2 := V.ptr_ok p2 hr; obtain ⟨o, g, off, rfl, p2⟩ := p2
      have hq := hE.env q hlt'
      rw [p1] at hq
      obtain ⟨b, d', n, q1, q2, q3⟩ := hq
      have k1' : (do pure (.value (← Instr.loadAt t ({ tmps := tmps, defers := [] : Act }.eval (.tmp q)))) : Sem Next).run P w = .ok (.value u) w := k1
      have q3' : ({ tmps := tmps, defers := [] : Act }.eval (.tmp q)) = .pointer (some ⟨b, off - d', none⟩) := q3
      rw [q3'] at k1'
      have q3'' : tmps.getD q undef = .pointer (some ⟨b, off - d', none⟩) := q3
      show (do loadVar t (← asAddr (tmps.getD q undef)) : Sem Value).run P w = _
      rw [q3'']
      have k3 : (loadVar t ⟨b, off - d', none⟩).run P w = .ok u w := by
        cases hl : (loadVar t ⟨b, off - d', none⟩).run P w with
        | ok v w' =>
          have : (do pure (.value (← Instr.loadAt t (.pointer (some ⟨b, off - d', none⟩)))) : Sem Next).run P w = .ok (.value v) w' := val_run (by simpa [Instr.loadAt, Instr.sureAddr] using hl)
          rw [k1'] at this; injection this with e1 e2; injection e1 with e1; subst e1; subst e2; rfl
        | halt x w' =>
          exfalso
          have : (do pure (.value (← Instr.loadAt t (.pointer (some ⟨b, off - d', none⟩)))) : Sem Next).run P w = .halt x w' := by
            have hl' : (Instr.loadAt t (.pointer (some ⟨b, off - d', none⟩))).run P w = .halt x w' := by simpa [Instr.loadAt, Instr.sureAddr] using hl
            simp only [Sem.run_bind, hl', Result.andThen]
          rw [k1'] at this; cases this
      simpa [asAddr] using k3
    · cases h
def RessS (P : Program) (rs : List ResultVar) (f : E → H → (W → R) → R) : Prop := ∀ {e : E} {h : H} {top : Nat} {k : W → R} {r : R}, Good r → f e h k = r → ∃ v, k v = r ∧
  ∀ {B : Nat} {κ : Kap} {tmps : Array Value} {w : World}, HR B κ h top w → ER κ e tmps → ∃ us, (rs.mapM (resF tmps)).run P w = .ok us w ∧ TR κ v us
theorem ress_ok (hT : T.okB P = true) : ∀ {rs : List ResultVar} {f : E → H → (W → R) → R}, ress T rs = .mk f → RessS P rs f
  | [], f, h => by
    injection h with h; subst h
    intro hr he; rename_i e hh top k r
    exact ⟨.tn, he, fun _ _ => ⟨[], rfl, rfl⟩⟩
  | x :: rs, f, h => by
    have h' : RV.rec (motive := fun _ => RV) (fun f => RV.rec (motive := fun _ => RV) (fun g => .mk fun e h k => f e h fun a => g e h fun b => k (.tu a b)) .no (ress T rs)) .no (res1 T x) = .mk f := h
    cases h1 : res1 T x with
    | no => rw [h1] at h'; cases h'
    | mk f1 =>
      rw [h1] at h'
      cases h2 : ress T rs with
      | no => rw [h2] at h'; cases h'
      | mk f2 =>
        rw [h2] at h'
        injection h' with h'; subst h'
        intro hr he; rename_i e hh top k r
        obtain ⟨v1, he1, k1⟩ := res1_ok hT h1 (top := top) hr he
        obtain ⟨v2, he2, k2⟩ := ress_ok hT h2 (top := top) hr he1
        refine ⟨.tu v1 v2, he2, fun hh hE => ?_⟩
        obtain ⟨u, p1, p2⟩ := k1 hh hE
        obtain ⟨us, q1, q2⟩ := k2 hh hE
        refine ⟨u :: us, ?_, u, us, rfl, p2, q2⟩
        rw [List.mapM_cons, Sem.run_bind, p1, Result.andThen_ok, Sem.run_bind, q1]; rfl
def ResA (P : Program) (fn : Func) (f : E → H → (W → R) → R) : Prop := ∀ {e : E} {h : H} {top : Nat} {k : W → R} {r : R}, Good r → f e h k = r → ∃ v, k v = r ∧
  ∀ {B : Nat} {κ : Kap} {tmps : Array Value} {w : World}, HR B κ h top w → ER κ e tmps → ∃ u, (results fn tmps).run P w = .ok u w ∧ WR κ v u
theorem resv_ok (hT : T.okB P = true) {fn : Func} {f : E → H → (W → R) → R} (h : resv T fn.results.toList = .mk f) : ResA P fn f := by
  have hrun : ∀ {tmps : Array Value} {w : World} {vs : List Value}, (fn.results.toList.mapM (resF tmps)).run P w = .ok vs w → (results fn tmps).run P w = .ok (if h : vs.toArray.size = 1 then vs.toArray[0] else .tuple vs.toArray) w := by
    intro tmps w vs h1
    rw [results_eq, Array.mapM_eq_mapM_toList]
    simp only [Sem.run_bind, map_eq_pure_bind]
    rw [h1]
    simp
  unfold resv at h
  unfold ResA
  intro e hh top k r hr he
  split at h
  · rename_i x hx
    obtain ⟨v, h1, h2⟩ := res1_ok hT h (top := top) hr he
    refine ⟨v, h1, fun {B κ tmps w} hh hE => ?_⟩
    obtain ⟨u, p1, p2⟩ := h2 hh hE
    refine ⟨u, ?_, p2⟩
    have := hrun (tmps := tmps) (w := w) (vs := [u]) (by rw [hx, List.mapM_cons, Sem.run_bind, p1]; rfl)
    simpa using this
  · rename_i hne
    obtain ⟨v, h1, h2⟩ := ress_ok hT h (top := top) hr he
    refine ⟨v, h1, fun {B κ tmps w} hh hE => ?_⟩
    obtain ⟨us, p1, p2⟩ := h2 hh hE
    have hlen : us.length = fn.results.toList.length := by
      have : ∀ (rs : List ResultVar) (us : List Value) (w w' : World), (rs.mapM (resF tmps)).run P w = .ok us w' → us.length = rs.length := by
        intro rs
        induction rs with
        | nil => intro us w w' h; simp at h; obtain ⟨rfl, _⟩ := h; rfl
        | cons a rs ih =>
          intro us w w' h
          rw [List.mapM_cons, Sem.run_bind] at h
          cases ha : (resF tmps a).run P w with
          | halt _ _ => rw [ha] at h; cases h
          | ok x w1 =>
            rw [ha, Result.andThen_ok, Sem.run_bind] at h
            cases hb : (rs.mapM (resF tmps)).run P w1 with
            | halt _ _ => rw [hb] at h; cases h
            | ok y w2 =>
              rw [hb, Result.andThen_ok] at h
              simp only [Sem.run_pure, Result.ok.injEq] at h
              obtain ⟨rfl, _⟩ := h
              simp [ih _ _ _ hb]
      exact this _ _ _ _ p1
    refine ⟨_, hrun p1, ?_⟩
    have hn1 : us.toArray.size ≠ 1 := by
      intro h1
      have : fn.results.toList.length = 1 := by rw [← hlen]; simpa using h1
      obtain ⟨y, hy⟩ := List.length_eq_one_iff.1 this
      exact hne y hy
    rw [dif_neg hn1]
    cases v with
    | tn => rw [TR.tn.1 p2]; rfl
    | tu a b => exact WR.tu.2 ⟨us, rfl, p2⟩
    | o _ => exact p2.elim
    | ag _ => exact p2.elim
    | un => exact p2.elim

/-! ### 2. What is deferred -/
theorem DR.putObj {A : Nat} {κ : Kap} {b : Nat} {o : Obj} : ∀ {x : W} {w : World} {ds : List Deferred}, DR P A κ w x ds → (∀ d ∈ ds, d.target ≠ .collected b) → DR P A κ (w.putObj b o) x ds
  | .tn, _, _, h, _ => h
  | .tu (.o _) r, w, _, ⟨b', ds', h2, h3, h4, h5, h6, h7, h8⟩, hd => by
    subst h2
    have hne : b' ≠ b := fun e => by subst e; exact hd _ (List.mem_cons_self ..) rfl
    exact ⟨b', ds', rfl, by rw [World.putObj_heap_other hne]; exact h3, h4, h5, by simpa using h6, h7, h8.putObj fun d hd' => hd d (List.mem_cons_of_mem _ hd')⟩
  | .tu (.tu m k) r, _, _, ⟨d, ds', h2, h3, h4⟩, hd => by
    subst h2
    exact ⟨d, ds', rfl, h3, h4.putObj fun d' hd' => hd d' (List.mem_cons_of_mem _ hd')⟩
  | .tu (.ag _) _, _, _, h, _ => h.elim
  | .tu .tn _, _, _, h, _ => h.elim
  | .tu .un _, _, _, h, _ => h.elim
  | .o _, _, _, h, _ => h.elim
  | .ag _, _, _, h, _ => h.elim
  | .un, _, _, h, _ => h.elim
/-- the marks stay where they are while a block that is spoken of changes -/
theorem DR.other {A : Nat} {κ : Kap} {w w' : World} (hs : w'.heap.size = w.heap.size) (hk : ∀ k, ¬ κ.im k → w'.heap[k]? = w.heap[k]?) : ∀ {x : W} {ds : List Deferred}, DR P A κ w x ds → DR P A κ w' x ds
  | .tn, _, h => h
  | .tu (.o _) r, _, ⟨b', ds', h2, h3, h4, h5, h6, h7, h8⟩ => ⟨b', ds', h2, (hk b' h4).trans h3, h4, h5, by rw [hs]; exact h6, h7, h8.other hs hk⟩
  | .tu (.tu m k) r, _, ⟨d, ds', h2, h3, h4⟩ => ⟨d, ds', h2, h3, h4.other hs hk⟩
  | .tu (.ag _) _, _, h => h.elim
  | .tu .tn _, _, h => h.elim
  | .tu .un _, _, h => h.elim
  | .o _, _, h => h.elim
  | .ag _, _, h => h.elim
  | .un, _, h => h.elim
theorem mDel_cons (k' : List Nat) (w' : W) (r : M) (k : List Nat) : mDel (.cons k' w' r) k = if eqS k' k = true then r else .cons k' w' (mDel r k) := by
  show Bool.rec (motive := fun _ => M) (.cons k' w' (mDel r k)) r (eqS k' k) = _
  cases eqS k' k <;> rfl
theorem del_rel {κ : Kap} {D : TypeDesc} {s : List Nat} (hs : KeyOk D s) : ∀ {m : M} {es : List MapEntry} (i : Nat), homM (tagK s) m = true → MR κ m es →
    (Instr.findNow D (kval s) es i = some none ∧ MR κ (mDel m s) es) ∨ ∃ p v, Instr.findNow D (kval s) es i = some (some (i + p, v)) ∧ MR κ (mDel m s) (es.eraseIdx p)
  | .nil, es, i, _, h => by
    have h : es = [] := h
    subst h
    exact .inl ⟨rfl, rfl⟩
  | .cons k w0 r, es, i, hh, h => by
    obtain ⟨x, xs, rfl, hk, hk2, hv, hr⟩ := h
    obtain ⟨ht, hh⟩ := homM_cons hh
    have hsame := same_key hs hk2 ht
    rw [mDel_cons]
    by_cases he : eqS k s = true
    · rw [if_pos he]
      refine .inr ⟨0, x.val, ?_, hr⟩
      unfold Instr.findNow
      rw [hk, hsame, he]
      rfl
    · rw [if_neg he]
      have hstep : Instr.findNow D (kval s) (x :: xs) i = Instr.findNow D (kval s) xs (i + 1) := by
        show (match Instr.sameNow D (kval s) x.key with | some true => _ | some false => _ | none => _) = _
        rw [hk, hsame]
        have : eqS k s = false := by simpa using he
        rw [this]
      rcases del_rel hs (i + 1) hh hr with ⟨h1, h2⟩ | ⟨p, v, h1, h2⟩
      · exact .inl ⟨hstep.trans h1, ⟨x, _, rfl, hk, hk2, hv, h2⟩⟩
      · refine .inr ⟨p + 1, v, by rw [hstep, h1]; congr 3; omega, ⟨x, _, rfl, hk, hk2, hv, h2⟩⟩
theorem run_delete {t u kt et : TypeId} {ty : TypeId} {cn : Array Bool} (h3 : P.underlying t = some (.map kt et)) (h4 : P.underlying kt = some .string) {κ : Kap} {w : World} {b : Nat} {es : Array MapEntry} {clock : Nat} {m : M} {s : List Nat} (hw : w.heap[b]? = some (.map es clock)) (hm : MR κ m es.toList) (hs : ∀ c ∈ s, c < 256) (hh : homM 0 m = true) :
    ∃ es', (invoke (.builtin .delete #[t, u] ty cn) #[.map (some b), .string (byt s)]).run P w = .ok (.value (.tuple #[])) { w with heap := w.heap.setIfInBounds b (.map es' clock) } ∧ MR κ (mDel m s) es'.toList := by
  have hkey : KeyOk .string s := .inl ⟨rfl, hs⟩
  have hchk : ∀ (b : Bool) (w : World), (Instr.checkKey b 10000 kt (.string (byt s))).run P w = .ok () w := fun b w => by
    unfold Instr.checkKey
    simp [h4, underlying]
  have hgo : (getObj b).run P w = .ok (.map es clock) w := by simp [getObj, Sem.run, hw]
  have hset : ∀ x : Obj, (setObj b x).run P w = .ok () { w with heap := w.heap.setIfInBounds b x } := fun x => by simp [setObj, Sem.run, hw]
  have hd := del_rel hkey 0 (by rw [tagK_str hs]; exact hh) hm
  rw [kval_str hs] at hd
  rcases hd with ⟨p1, p2⟩ | ⟨p, v, p1, p2⟩
  · refine ⟨es, ?_, p2⟩
    have : (Builtin.delete_ #[t, u] ty #[.map (some b), .string (byt s)]).run P w = .ok (.tuple #[]) { w with heap := w.heap.setIfInBounds b (.map es clock) } := by
      unfold Builtin.delete_
      simp only [List.getElem?_toArray, List.getElem?_cons_zero, List.getElem?_cons_succ, Sem.run_bind, Go.run_underlying h3, Result.andThen_ok, hgo, hchk, Instr.findKey, Go.run_underlying h4, p1, Sem.run_pure, hset]
    simp [invoke, builtin, this]
  · rw [Nat.zero_add] at p1
    refine ⟨es.eraseIdxIfInBounds p, ?_, ?_⟩
    · have : (Builtin.delete_ #[t, u] ty #[.map (some b), .string (byt s)]).run P w = .ok (.tuple #[]) { w with heap := w.heap.setIfInBounds b (.map (es.eraseIdxIfInBounds p) clock) } := by
        unfold Builtin.delete_
        simp only [List.getElem?_toArray, List.getElem?_cons_zero, List.getElem?_cons_succ, Sem.run_bind, Go.run_underlying h3, Result.andThen_ok, hgo, hchk, Instr.findKey, Go.run_underlying h4, p1, Sem.run_pure, hset]
      simp [invoke, builtin, this]
    · have : (es.eraseIdxIfInBounds p).toList = es.toList.eraseIdx p := by
        unfold Array.eraseIdxIfInBounds
        split
        · simp
        · rename_i hp
          rw [List.eraseIdx_of_length_le (by simpa using hp)]
      rw [this]; exact p2
/-- the world after what was deferred -/
structure Mk' (A : Nat) (κ : Kap) (w w' : World) : Prop where
  os : w'.os = w.os
  tape : w'.tape = w.tape
  output : w'.output = w.output
  size : w'.heap.size = w.heap.size
  keep : ∀ k, k < A → ¬ κ.im k → w'.heap[k]? = w.heap[k]?
theorem Mk'.trans {A : Nat} {κ : Kap} {a b c : World} (h : Mk' A κ a b) (k : Mk' A κ b c) : Mk' A κ a c :=
  ⟨k.os.trans h.os, k.tape.trans h.tape, k.output.trans h.output, k.size.trans h.size, fun i h1 h2 => (k.keep i h1 h2).trans (h.keep i h1 h2)⟩
end Go.Proofs.YtjkbljgolcdhhaaGreatDoor.Fw.Cm

/- Functions that are deferred and do nothing unless something panics: recover answers nil. -/
namespace Go.Proofs.YtjkbljgolcdhhaaGreatDoor.Fw.Cm
open Go Go.RowKit Go.WideShapes
/-! ### It tells the truth -/
variable {P : Program} {T : TT}
theorem er_put {N : Nat} (hN : N ≤ 500) {d : Option Tmp} {s : W → E → E} (h : dstB N d = .mk s) {κ : Kap} {e : E} {a : Act} (hn : a.tmps.size = N) (hE : ER κ e a.tmps) {v : W} {u : Value} (hv : WR κ v u) : ER κ (s v e) (a.put d u).tmps := by
  cases d with
  | none => injection h with h; subst h; exact hE
  | some t =>
    unfold dstB at h
    simp only at h
    split at h
    · rename_i hb
      have ht : @LT.lt Nat _ t N := by simpa [Nat.blt_eq] using hb
      rw [setB_setE h]
      refine ⟨hE.x0, fun t' ht' => ?_⟩
      rw [getE_setE (by omega) (by omega)]
      simp only [Act.put]
      by_cases he : t' = t
      · subst he
        rw [if_pos rfl, Array.getD_eq_getD_getElem?, Array.getElem?_setIfInBounds, if_pos rfl, if_pos (by omega)]; exact hv
      · rw [if_neg he]
        rw [Array.getD_eq_getD_getElem?, Array.getElem?_setIfInBounds, if_neg (Ne.symm he), ← Array.getD_eq_getD_getElem?]
        exact hE.env t' ht'
    · cases h
theorem quiet_p (hT : T.okB P = true) {o : Oper} {f : Op'} (h : opQ P T o = .mk f) : OpP P o f := by
  obtain ⟨dst, op, ty, pos, after, guard⟩ := o
  cases op <;> first | (cases h; done) | skip
  case move x => obtain ⟨g, h1, h⟩ := oB_ok (show oB x (fun f => .mk (oMove f)) = .mk f from h); injection h with h; subst h; exact s_move h1
  case assign x => obtain ⟨g, h1, h⟩ := oB_ok (show oB x (fun f => .mk (oMove f)) = .mk f from h); injection h with h; subst h; exact s_assign h1
  case binOp op t x y yt =>
    unfold opQ at h; simp only at h
    obtain ⟨ti, i, d, z, F, h⟩ := tB_ok hT h; obtain ⟨g1, h1, h⟩ := oB_ok h; obtain ⟨g2, h2, h⟩ := oB_ok h; exact s_binB hT F h1 h2 h
theorem put_size' (a : Act) (d : Option Tmp) (u : Value) : (a.put d u).tmps.size = a.tmps.size := by cases d <;> simp [Act.put]
theorem put_defers' (a : Act) (d : Option Tmp) (u : Value) : (a.put d u).defers = a.defers := by cases d <;> rfl
theorem qOps_ok (hT : T.okB P = true) {N : Nat} (hN : N ≤ 500) {ops : Array Oper} : ∀ (l : List Oper) (k : Nat) {f : E → H → Nat → (E → R) → R}, ops.toList.drop k = l → qOps P T N l = .mk f → ∀ {e : E} {h : H} {top : Nat} {K : E → R} {r : R}, Good r → f e h top K = r →
    ∃ e', K e' = r ∧ ∀ {B : Nat} {κ : Kap} {w : World} {a : Act} {cs : List Frame} {Q : Exit → Act → List Frame → World → Prop}, HR B κ h top w → ER κ e a.tmps → a.tmps.size = N → recoverD cs = none →
      (∀ a', ER κ e' a'.tmps → a'.tmps.size = N → a'.defers = a.defers → Q .normal a' cs w) → wpOpsSIn Fence.wide 0 P ops Q (List.range' k l.length) a cs w
  | [], k, f, hd, h => by
    injection h with h; subst h
    intro hr he; rename_i e hh top K r
    exact ⟨e, he, fun {B κ w a cs Q} hH hE hn hrec hQ => hQ a hE hn rfl⟩
  | o :: l, k, f, hd, h => by
    have ho : ops[k]? = some o := by
      have : ops.toList[k]? = some o := by
        have := congrArg List.head? hd
        simpa [List.head?_drop] using this
      simpa using this
    have hd' : ops.toList.drop (k + 1) = l := by
      have := congrArg List.tail hd
      simpa [List.tail_drop] using this
    have h' : QB.rec (motive := fun _ => QB) (fun f => QB.rec (motive := fun _ => QB) (fun g => .mk fun e h top K => f e h top fun e => g e h top K) .no (qOps P T N l)) .no (qOp P T N o) = QB.mk f := h
    cases h1 : qOp P T N o with
    | no => rw [h1] at h'; cases h'
    | mk f1 =>
      rw [h1] at h'
      cases h2 : qOps P T N l with
      | no => rw [h2] at h'; cases h'
      | mk f2 =>
        rw [h2] at h'
        injection h' with h'; subst h'
        intro hr he; rename_i e hh top K r
        unfold qOp at h1
        split at h1
        · cases h1
        rename_i hg
        have hw : ∀ y, Region.wanted o y = true := fun y => by unfold Region.wanted; rw [hg]
        split at h1
        · rename_i hrecv
          cases hs : dstB N o.dst with
          | no => rw [hs] at h1; cases h1
          | mk s =>
            rw [hs] at h1
            injection h1 with h1; subst h1
            obtain ⟨e', k1, k2⟩ := qOps_ok hT hN l (k + 1) hd' h2 hr he
            refine ⟨e', k1, fun {B κ w a cs Q} hH hE hn hrec hQ => ?_⟩
            show wpOpsSIn Fence.wide 0 P ops Q (List.range' k (l.length + 1)) a cs w
            rw [List.range'_succ]
            unfold wpOpsSIn
            rw [ho]
            have hrun : (execOp a.eval o).run P w = .ok .recover w := by
              obtain ⟨dst, op, ty, pos, after, guard⟩ := o
              unfold isRec at hrecv
              cases op <;> first | (cases hrecv; done) | skip
              rename_i c
              obtain ⟨callee, args, ats⟩ := c
              cases callee <;> first | (cases hrecv; done) | skip
              rename_i b
              cases b <;> first | (cases hrecv; done) | skip
              simp [execOp, resolve, invoke, builtin]
            simp only [hw, if_true, hrun, hrec]
            refine ⟨fun f _ => trivial, k2 hH (er_put hN hs hn hE rfl) (by rw [put_size']; exact hn) hrec fun a' e1 e2 e3 => hQ a' e1 e2 (by rw [e3, put_defers'])⟩
        · rename_i hnr
          cases hf : opQ P T o with
          | no => rw [hf] at h1; cases h1
          | mk g =>
            rw [hf] at h1
            cases hs : dstB N o.dst with
            | no => rw [hs] at h1; cases h1
            | mk s =>
              rw [hs] at h1
              injection h1 with h1; subst h1
              obtain ⟨v, he, hv⟩ := (quiet_p hT hf).out hr he
              obtain ⟨e', k1, k2⟩ := qOps_ok hT hN l (k + 1) hd' h2 hr he
              refine ⟨e', k1, fun {B κ w a cs Q} hH hE hn hrec hQ => ?_⟩
              show wpOpsSIn Fence.wide 0 P ops Q (List.range' k (l.length + 1)) a cs w
              rw [List.range'_succ]
              unfold wpOpsSIn
              rw [ho]
              obtain ⟨u, hrun, hu⟩ := hv hH hE
              simp only [hw, if_true, hrun]
              exact ⟨fun f _ => trivial, k2 hH (er_put hN hs hn hE hu) (by rw [put_size']; exact hn) hrec fun a' e1 e2 e3 => hQ a' e1 e2 (by rw [e3, put_defers'])⟩
theorem qCode_ok (hT : T.okB P = true) {N : Nat} (hN : N ≤ 500) : ∀ (c : Code) {e : E} {h : H} {top : Nat} {K : E → R} {r : R}, Good r → qCode P T N c e h top K = r →
    ∃ e', K e' = r ∧ ∀ {B : Nat} {κ : Kap} {w : World} {a : Act} {cs : List Frame} {Q : Exit → Act → List Frame → World → Prop}, HR B κ h top w → ER κ e a.tmps → a.tmps.size = N → recoverD cs = none →
      (∀ a', ER κ e' a'.tmps → a'.tmps.size = N → a'.defers = a.defers → Q .normal a' cs w) → c.wpSIn Fence.wide 0 P Q a cs w := by
  intro c
  induction c with
  | skip =>
    intro e h top K r hr he
    exact ⟨e, he, fun {B κ w a cs Q} hH hE hn hrec hQ => wpSIn_of_wpIn rfl (wpIn_skip (hQ a hE hn rfl))⟩
  | region id os d =>
    intro e h top K r hr he
    cases d with
    | true => have he : R.bad 94 = r := he; subst he; exact hr.bad
    | false =>
      have he : (qOps P T N os.toList).bad e h top K = r := he
      cases hq : qOps P T N os.toList with
      | no => rw [hq] at he; have he : R.bad 94 = r := he; subst he; exact hr.bad
      | mk f =>
        rw [hq] at he
        obtain ⟨e', k1, k2⟩ := qOps_ok hT hN (ops := os) os.toList 0 rfl hq hr he
        refine ⟨e', k1, fun {B κ w a cs Q} hH hE hn hrec hQ => wpSIn_region ?_⟩
        have := k2 (Q := Q) hH hE hn hrec hQ
        rw [List.range_eq_range']
        simpa using this
  | seq x y ihx ihy =>
    intro e h top K r hr he
    have he : qCode P T N x e h top (fun e => qCode P T N y e h top K) = r := he
    obtain ⟨e1, he, k1⟩ := ihx hr he
    obtain ⟨e2, he, k2⟩ := ihy hr he
    refine ⟨e2, he, fun {B κ w a cs Q} hH hE hn hrec hQ => wpSIn_seq (k1 hH hE hn hrec fun a' f1 f2 f3 => ?_)⟩
    exact k2 hH f1 f2 hrec fun a2 g1 g2 g3 => hQ a2 g1 g2 (g3.trans f3)
  | cond c x y ihx ihy =>
    intro e h top K r hr he
    have he : GBo.rec (motive := fun _ => R) (fun q => (q e).v fun b => b.bool (qCode P T N x e h top K) (qCode P T N y e h top K)) (.bad 94) (evb c) = r := he
    cases hc : evb c with
    | no => rw [hc] at he; subst he; exact hr.bad
    | mk q =>
      rw [hc] at he
      replace he := W.v_ok he hr; obtain ⟨v, hv, he⟩ := he
      replace he := V.bool_ok he hr; obtain ⟨b, rfl, he⟩ := he
      have cv : ∀ {κ : Kap} {a : Act}, ER κ e a.tmps → a.eval c = .bool b := fun hE => by
        have := evb_rel hc hE
        rw [hv] at this; exact this
      cases b with
      | true =>
        obtain ⟨e', k1, k2⟩ := ihx hr he
        exact ⟨e', k1, fun {B κ w a cs Q} hH hE hn hrec hQ => wpSIn_cond (cv hE) (k2 hH hE hn hrec hQ)⟩
      | false =>
        obtain ⟨e', k1, k2⟩ := ihy hr he
        exact ⟨e', k1, fun {B κ w a cs Q} hH hE hn hrec hQ => wpSIn_cond (cv hE) (k2 hH hE hn hrec hQ)⟩
  | _ => intro e h top K r hr he; have he : R.bad 94 = r := he; subst he; exact hr.bad
end Go.Proofs.YtjkbljgolcdhhaaGreatDoor.Fw.Cm

/- The concrete evaluator and the world: calls of functions that are known. -/
namespace Go.Proofs.YtjkbljgolcdhhaaGreatDoor.Fw.Cm
open Go Go.RowKit Go.WideShapes
variable {P : Program} {T : TT}
theorem run_callFunc' {f : FuncId} {w : World} (h : fnOk P f = true) (args : Array Value) : (callFunc f args).run P w = .ok (.enter f args) w := by
  unfold fnOk at h
  split at h
  · rename_i fn hf
    simp only [Bool.and_eq_true, bne_iff_ne, ne_eq] at h
    have h3 : fn.body ≠ none := by intro hb; rw [hb] at h; simp at h
    unfold callFunc
    simp [hf, h.2, h3]
  · cases h
theorem nilW_ok {w : W} {k r : R} (h : nilW w k = r) (hr : Good r) : w = .tn ∧ k = r := by
  cases w with
  | tn => exact ⟨rfl, h⟩
  | _ => subst h; exact hr.bad
theorem bindW_ok : ∀ {w : W} {k : Nat} {e : E} {K : Nat → E → R} {r : R}, bindW w k e K = r → Good r → ∃ n e', K n e' = r ∧ k ≤ n ∧
    (n ≤ 500 → ∀ j, j < 512 → (j < k ∨ n ≤ j) → getE j e' = getE j e) ∧
    ∀ {κ : Kap} {vs : List Value}, TR κ w vs → n = k + vs.length ∧ (n ≤ 500 → ∀ i v, vs[i]? = some v → WR κ (getE (k + i) e') v)
  | .tn, k, e, K, r, h, hr => ⟨k, e, h, Nat.le_refl _, fun _ _ _ _ => rfl, fun {κ vs} ht => by
      have ht := TR.tn.1 ht
      subst ht
      exact ⟨rfl, fun _ i v hi => by simp at hi⟩⟩
  | .tu a y, k, e, K, r, h, hr => by
    have h : bindW y (k + 1) (setE k a e) K = r := h
    obtain ⟨n, e', h1, h2, h3, h4⟩ := bindW_ok h hr
    refine ⟨n, e', h1, by omega, fun hn j hj hk => ?_, fun {κ vs} ht => ?_⟩
    · rw [h3 hn j hj (by omega), getE_setE hj (by omega), if_neg (by omega)]
    · obtain ⟨u, us, rfl, k1, k2⟩ := ht
      obtain ⟨q1, q2⟩ := h4 (κ := κ) k2
      refine ⟨by simp; omega, fun hn i v hi => ?_⟩
      cases i with
      | zero =>
        simp at hi; subst hi
        rw [Nat.add_zero, h3 hn k (by omega) (.inl (by omega)), getE_setE (by omega) (by omega), if_pos rfl]
        exact k1
      | succ i =>
        have := q2 hn i v (by simpa using hi)
        rw [show k + (i + 1) = k + 1 + i by omega]; exact this
  | .o _, k, e, K, r, h, hr => by have h : R.bad 73 = r := h; subst h; exact hr.bad
  | .ag _, k, e, K, r, h, hr => by have h : R.bad 73 = r := h; subst h; exact hr.bad
  | .un, k, e, K, r, h, hr => by have h : R.bad 73 = r := h; subst h; exact hr.bad
theorem WR.un (κ : Kap) (v : Value) : WR κ .un v := trivial
/-- a function's state at its entry -/
theorem entry_ok {B : Nat} {κ : Kap} {h : H} {top : Nat} {wd : World} (hh : HR B κ h top wd) (hB : B ≤ wd.heap.size) (hx : κ.x 0 = some (#[], #[])) {e' : E} {vs : List Value} {n N : Nat}
    (h1 : n ≤ 500 → ∀ j, j < 512 → (j < 0 ∨ n ≤ j) → getE j e' = getE j E.new) (h2 : n = 0 + vs.length) (h3 : n ≤ 500 → ∀ i v, vs[i]? = some v → WR κ (getE (0 + i) e') v) (hn : n ≤ N) (hN : N ≤ 500) :
    St P B wd.heap.size κ e' h top none N { tmps := vs.toArray ++ Array.replicate (N - vs.toArray.size) undef, defers := [] } wd := by
  have hnew : ∀ j, j < 512 → j ≠ 511 → getE j E.new = .un := fun j hj hne => by
    show getE j (setE 511 .tn E.no) = .un
    rw [getE_setE hj (by omega), if_neg hne, getE_no]
  have hn5 : n ≤ 500 := by omega
  refine ⟨hh, hB, Nat.le_refl _, by simp; omega, hN, ⟨hx, fun t ht => ?_⟩, ?_, .inl ⟨?_, rfl⟩⟩
  · by_cases htn : t < vs.length
    · have e1 : (vs.toArray ++ Array.replicate (N - vs.toArray.size) undef).getD t undef = vs[t] := by
        rw [Array.getD_eq_getD_getElem?, Array.getElem?_append_left (by simp; omega), List.getElem?_toArray]; simp [htn]
      rw [e1]
      have := h3 hn5 t vs[t] (by simp [htn])
      simpa using this
    · rw [h1 hn5 t (by omega) (.inr (by omega)), hnew t (by omega) (by omega)]
      exact WR.un κ _
  · rw [h1 hn5 511 (by omega) (.inr (by omega))]
    have : getE 511 E.new = .tn := by show getE 511 (setE 511 .tn E.no) = .tn; rw [getE_setE (by omega) (by omega), if_pos rfl]
    rw [this]; rfl
  · rw [h1 hn5 510 (by omega) (.inr (by omega)), hnew 510 (by omega) (by omega)]
/-- a deferred call of a function that does nothing -/
theorem callQ_ok (hT : T.okB P = true) {fn : FuncId} {f : W → H → Nat → R → R} (hc : callQ P T fn = .mk f) {w : W} {h : H} {top : Nat} {k r : R} (hr : Good r) (he : f w h top k = r) : k = r ∧ fnOk P fn = true ∧
    ∀ {B : Nat} {κ : Kap} {vs : List Value} {wd : World}, HR B κ h top wd → B ≤ wd.heap.size → κ.x 0 = some (#[], #[]) → TR κ w vs →
      CallsDIn Fence.wide 0 P fn vs.toArray .returning wd (fun en u' w' => (∃ v, en = .returned v) ∧ u' = .returning ∧ w' = wd) := by
  unfold callQ at hc
  split at hc
  · rename_i g hg
    split at hc
    · rename_i body hb hres hle hok
      injection hc with hc; subst hc
      obtain ⟨n, e', h1, _, h3, h4⟩ := bindW_ok he hr
      obtain ⟨hn, h1⟩ := gd_ok h1 hr
      have hn := Nat.le_of_ble_eq_true hn
      have hle := Nat.le_of_ble_eq_true hle
      obtain ⟨e2, h5, h6⟩ := qCode_ok hT hle body hr h1
      refine ⟨h5, hok, fun {B κ vs wd} hh hB hx ht => ?_⟩
      obtain ⟨q1, q2⟩ := h4 ht
      have st := entry_ok (P := P) hh hB hx h3 q1 q2 hn hle
      refine callsDIn_of_wpSIn hg hb trivial fun c₀ cs hm => ?_
      refine h6 hh st.er st.n (by simp [recoverD, hm]) fun a' e1 e3 e4 => ?_
      refine ⟨e4, c₀.mode, rfl, .tuple #[], ?_, ⟨_, rfl⟩, hm, rfl⟩
      have hr0 : g.results = #[] := Array.ext' hres
      simp [results, hr0]
    · cases hc
  · cases hc
theorem outs_ok (hT : T.okB P = true) {top : Nat} : ∀ {x : W} {h : H} {k : H → R} {r : R}, outs P T top x h k = r → Good r → ∃ h', k h' = r ∧ ∀ {B A : Nat} {κ : Kap} {w : World} {ds : List Deferred} {fn : Func} {tmps : Array Value} {R : Ending → World → Prop},
    κ.x 0 = some (#[], #[]) → B ≤ w.heap.size → HR B κ h top w → DR P A κ w x ds → (∀ w', Mk' A κ w w' → HR B κ h' top w' → ∃ v, (results fn tmps).run P w' = .ok v w' ∧ R (.returned v) w') → LeavesV Fence.wide 0 P fn tmps R ds w
  | .tn, h, k, r, he, hr => by
    refine ⟨h, he, fun {B A κ w ds fn tmps R} hx0 hBw hH hd hR => ?_⟩
    have hd : ds = [] := hd
    subst hd
    exact hR w ⟨rfl, rfl, rfl, rfl, fun _ _ _ => rfl⟩ hH
  | .tu (.o v) y, h, k, r, he, hr => by
    have he : outs P T top y h k = r := by
      cases v with
      | y o => exact he
      | _ => (have he : R.bad 70 = r := he; subst he; exact hr.bad)
    obtain ⟨h', h1, h2⟩ := outs_ok hT (x := y) he hr
    refine ⟨h', h1, fun {B A κ w ds fn tmps R} hx0 hBw hH hd hR => ?_⟩
    obtain ⟨b, ds', d2, d3, d4, d5, d6, d7, d8⟩ := hd
    subst d2
    refine .inl ⟨b, w.putObj b (.deferred none), rfl, run_takeDeferred d3, ?_⟩
    have hne : ∀ k, k ≠ b → (w.putObj b (.deferred none)).heap[k]? = w.heap[k]? := fun k hk => World.putObj_heap_other hk
    refine h2 hx0 (by simpa using hBw) (hH.world (by simp) fun k hk => hne k fun e => by subst e; exact d4 hk) (d8.putObj d7) fun w' m hH' => hR w' ⟨m.os, m.tape, m.output, m.size.trans (by simp), fun k hk hi => (m.keep k hk hi).trans (hne k fun e => by subst e; omega)⟩ hH'
  | .tu (.tu m q) y, h, k, r, he0, hr => by
    have he : (m.v fun mv => mv.isF (fun fn => QC.rec (motive := fun _ => R) (fun f => f q h top (outs P T top y h k)) (.bad 95) (callQ P T fn)) (q.v fun qv => qv.str fun s => mv.map (outs P T top y h k) fun o => (obj o h).mapK fun es => gd (homM 0 es) (outs P T top y (seto o (.mp (mDel es s)) h) k))) = r := he0
    clear he0
    replace he := W.v_ok he hr; obtain ⟨mv, rfl, he⟩ := he
    by_cases hfn : ∃ fn o, mv = .f fn o
    · obtain ⟨fn, o, rfl⟩ := hfn
      have he : QC.rec (motive := fun _ => R) (fun f => f q h top (outs P T top y h k)) (.bad 95) (callQ P T fn) = r := he
      cases hc : callQ P T fn with
      | no => rw [hc] at he; subst he; exact hr.bad
      | mk f =>
        rw [hc] at he
        obtain ⟨he, hok, hcall⟩ := callQ_ok hT hc hr he
        obtain ⟨h', h1, h2⟩ := outs_ok hT (x := y) he hr
        refine ⟨h', h1, fun {B A κ w ds fn' tmps R} hx0 hBw hH hd hR => ?_⟩
        obtain ⟨d, ds', d2, hdf, d4⟩ := hd
        subst d2
        rcases hdf with ⟨t, u, kt, et, ty, cn, vm, vk, e0, _⟩ | ⟨fn2, f1, f2, f3⟩
        · exact absurd rfl (e0 fn o)
        · injection f1 with f1; injection f1 with f1 f4
          subst f1
          refine .inr (.inr ⟨fun hd => (by cases hd), _, _, fn, d.args, f2, ?_, fun _ _ => trivial, ?_, h2 hx0 hBw hH d4 hR⟩)
          · rw [f2]
            show (callFunc fn (d.args ++ #[])).run P w = _
            rw [Array.append_empty, run_callFunc' hok]
          · have := hcall hH hBw hx0 f3
            simpa using this
    replace he : (q.v fun qv => qv.str fun s => mv.map (outs P T top y h k) fun o => (obj o h).mapK fun es => gd (homM 0 es) (outs P T top y (seto o (.mp (mDel es s)) h) k)) = r := by
      cases mv <;> first | exact he | exact absurd ⟨_, _, rfl⟩ hfn
    replace he := W.v_ok he hr; obtain ⟨qv, rfl, he⟩ := he
    replace he := V.str_ok he hr; obtain ⟨s, rfl, he⟩ := he
    replace he := V.map_ok he hr; rcases he with ⟨rfl, he⟩ | ⟨o, rfl, he⟩
    · obtain ⟨h', h1, h2⟩ := outs_ok hT (x := y) he hr
      refine ⟨h', h1, fun {B A κ w ds fn tmps R} hx0 hBw hH hd hR => ?_⟩
      obtain ⟨d, ds', d2, hdf, d4⟩ := hd
      subst d2
      rcases hdf with ⟨t, u, kt, et, ty, cn, vm, vk, e0, e1, e2, e3, e4, e5, e6⟩ | ⟨fn2, f1, _⟩
      rotate_left
      · injection f1 with f1; cases f1
      have e5 : vm = .map none := e5
      obtain ⟨e6, e7⟩ := e6
      subst e5; subst e6
      refine .inr (.inl ⟨_, _, _, _, .tuple #[], w, e1, ?_, h2 hx0 hBw hH d4 hR⟩)
      rw [e1, e2]
      have hchk : ∀ (b : Bool) (w : World), (Instr.checkKey b 10000 kt (.string (byt s))).run P w = .ok () w := fun b w => by
        unfold Instr.checkKey
        simp [e4, underlying]
      have : (Builtin.delete_ #[t, u] ty #[.map none, .string (byt s)]).run P w = .ok (.tuple #[]) w := by
        unfold Builtin.delete_
        simp only [List.getElem?_toArray, List.getElem?_cons_zero, List.getElem?_cons_succ, Sem.run_bind, Go.run_underlying e3, Result.andThen_ok, hchk, Sem.run_pure]
      simp [invoke, builtin, this]
    · replace he := Ob.mapK_ok he hr; obtain ⟨es, hob, he⟩ := he
      obtain ⟨hhom, he⟩ := gd_ok he hr
      obtain ⟨h', h1, h2⟩ := outs_ok hT (x := y) he hr
      refine ⟨h', h1, fun {B A κ w ds fn tmps R} hx0 hBw hH hd hR => ?_⟩
      obtain ⟨d, ds', d2, hdf, d4⟩ := hd
      subst d2
      rcases hdf with ⟨t, u, kt, et, ty, cn, vm, vk, e0, e1, e2, e3, e4, e5, e6⟩ | ⟨fn2, f1, _⟩
      rotate_left
      · injection f1 with f1; cases f1
      obtain ⟨b, hq, e5⟩ := e5
      obtain ⟨e6, e7⟩ := e6
      subst e5; subst e6
      have hQ := hH.que o b hq
      rw [hob] at hQ
      obtain ⟨es0, clock, q1, q2⟩ := hQ
      obtain ⟨es', q3, q4⟩ := run_delete (u := u) (ty := ty) (cn := cn) e3 e4 q1 q2 e7 hhom
      have hlt : b < w.heap.size := (hH.ge b (.inr ⟨o, hq⟩)).2
      have hne : ∀ k, k ≠ b → ({ w with heap := w.heap.setIfInBounds b (.map es' clock) } : World).heap[k]? = w.heap[k]? := fun k hk => by simp [Array.getElem?_setIfInBounds, Ne.symm hk]
      have hH2 : HR B κ (seto o (.mp (mDel es s)) h) top { w with heap := w.heap.setIfInBounds b (.map es' clock) } := hH.updQ hq (by simp) (fun k hk => hne k hk) ⟨es', clock, by simp [Array.getElem?_setIfInBounds, hlt], q4⟩
      refine .inr (.inl ⟨_, _, _, _, .tuple #[], _, e1, by rw [e1, e2]; exact q3, h2 hx0 (by simpa using hBw) hH2 (d4.other (by simp) fun k hk => hne k fun e => by subst e; exact hk (.inr ⟨o, hq⟩)) fun w' m hH' => hR w' ⟨m.os, m.tape, m.output, m.size.trans (by simp), fun k hk hi => (m.keep k hk hi).trans (hne k fun e => by subst e; exact hi (.inr ⟨o, hq⟩))⟩ hH'⟩)
  | .tu (.ag _) y, h, k, r, he, hr => by have he : R.bad 70 = r := he; subst he; exact hr.bad
  | .tu .tn y, h, k, r, he, hr => by have he : R.bad 70 = r := he; subst he; exact hr.bad
  | .tu .un y, h, k, r, he, hr => by have he : R.bad 70 = r := he; subst he; exact hr.bad
  | .o _, h, k, r, he, hr => by have he : R.bad 70 = r := he; subst he; exact hr.bad
  | .ag _, h, k, r, he, hr => by have he : R.bad 70 = r := he; subst he; exact hr.bad
  | .un, h, k, r, he, hr => by have he : R.bad 70 = r := he; subst he; exact hr.bad
/-- what a call leaves -/
def CallQ (B : Nat) (κ : Kap) (w0 : World) (v : W) (h : H) (top : Nat) (en : Ending) (w : World) : Prop :=
  ∃ u κ', en = .returned u ∧ Ext κ κ' w0 ∧ Frm κ w0 w ∧ HR B κ' h top w ∧ WR κ' v u
theorem fin_ok {rv : E → H → (W → R) → R} {k : K} {r0 r : R} (h : fin P T rv k r0 = r) (hr : Good r) : ∃ e h top, (r0 = .nrm e h top ∨ r0 = .ret e h top) ∧ outs P T top (getD' e) h (fun h => rv e h fun w => k w h top) = r := by
  cases r0 with
  | nrm e hh top => exact ⟨e, hh, top, .inl rfl, h⟩
  | ret e hh top => exact ⟨e, hh, top, .inr rfl, h⟩
  | ext _ _ _ _ => subst h; exact hr.bad
  | fin _ _ _ => subst h; exact hr.bad
  | bad _ => subst h; exact hr.bad
theorem sgn_eq {n : Nat} (h : n ≤ 2) : sgn n = (n : Int) - 1 := by
  have : n = 0 ∨ n = 1 ∨ n = 2 := by omega
  rcases this with rfl | rfl | rfl <;> rfl
theorem find_cmp {f : Func} (h1 : f.name = cmpName) (h2 : f.origin = "") : Extern.findNext f = none ∧ Extern.find f = some Extern.BytealgCompare.compare := by
  constructor
  · unfold Extern.findNext
    simp only [h1, h2]
    have a1 : Extern.allNextRows.lookup cmpName = none := by kernel_rfl
    have a2 : Extern.allNextRows.lookup "" = none := by kernel_rfl
    rw [a1, a2]; rfl
  · unfold Extern.find
    simp only [h1, h2]
    have a1 : Extern.allGenericRows.lookup cmpName = none := by kernel_rfl
    have a2 : Extern.allTypedRows.lookup cmpName = none := by kernel_rfl
    have a3 : Extern.allRows.lookup cmpName = some Extern.BytealgCompare.compare := by kernel_rfl
    rw [a1, a2, a3]; rfl
theorem noBody_ok {w : W} {h : H} {top : Nat} {K : K} {r : R} (he : noBody w h top K = r) (hr : Good r) : ∃ v, K v h top = r ∧ ∀ {κ : Kap} {vs : List Value}, TR κ w vs → ∃ s q, vs = [.string s, .string q] ∧ WR κ v (.int .i64 (Extern.BytealgCompare.cmp s q)) := by
  unfold noBody at he
  replace he := two'_ok he hr; obtain ⟨a, b, rfl, he⟩ := he
  replace he := two'_ok he hr; obtain ⟨c, d, rfl, he⟩ := he
  replace he := nilW_ok he hr; obtain ⟨rfl, he⟩ := he
  replace he := W.v_ok he hr; obtain ⟨x, rfl, he⟩ := he
  replace he := W.v_ok he hr; obtain ⟨y, rfl, he⟩ := he
  replace he := V.str_ok he hr; obtain ⟨s, rfl, he⟩ := he
  replace he := V.str_ok he hr; obtain ⟨q, rfl, he⟩ := he
  refine ⟨_, he, fun {κ vs} ht => ?_⟩
  obtain ⟨u, us, rfl, ⟨h1, h2⟩, ht⟩ := ht
  obtain ⟨u', us', rfl, ⟨h3, h4⟩, ht⟩ := ht
  have ht := TR.tn.1 ht
  subst ht; subst h1; subst h3
  refine ⟨byt s, byt q, rfl, ?_⟩
  have hc := cmpS_lcmp s q h2 h4
  have hrg := lcmp_range (s.map UInt8.ofNat) (q.map UInt8.ofNat)
  have : Extern.BytealgCompare.cmp (byt s) (byt q) = sgn (cmpS s q) := by
    rw [cmp_bcmp, bcmp, byt_toList, byt_toList, sgn_eq (by omega)]; omega
  rw [this]; rfl
theorem runF_ok (hT : T.okB P = true) {fn : FuncId} {rc : Rc} {w : W} {h : H} {top : Nat} {K : K} {r : R} (hrc : RcS P rc) (hr : Good r) (he : runF P T fn rc w h top K = r) :
    ∃ v h' top', K v h' top' = r ∧ ∀ {B : Nat} {κ : Kap} {vs : List Value} {wd : World}, HR B κ h top wd → B ≤ wd.heap.size → κ.x 0 = some (#[], #[]) → TR κ w vs → CallsX P fn vs.toArray wd (CallQ B κ wd v h' top') ∧ (fnOk P fn = true ∨ ∀ x ∈ vs, ∃ s, x = .string s) := by
  unfold runF at he
  cases hc : callB P T fn with
  | no => rw [hc] at he; subst he; exact hr.bad
  | mk g =>
    rw [hc] at he
    simp only at he
    unfold callB at hc
    split at hc
    · cases hc
    · rename_i f hf
      split at hc
      · rename_i body hb
        split at hc
        · rename_i hok hle
          cases hv : resv T f.results.toList with
          | no => rw [hv] at hc; cases hc
          | mk rv =>
            rw [hv] at hc
            injection hc with hc; subst hc
            obtain ⟨n, e', h1, _, h3, h4⟩ := bindW_ok he hr
            obtain ⟨hn, h1⟩ := gd_ok h1 hr
            have hn := Nat.le_of_ble_eq_true hn
            have hle := Nat.le_of_ble_eq_true hle
            obtain ⟨e1, hh1, top1, hor, h5⟩ := fin_ok h1 hr
            obtain ⟨hh2, h5, hout⟩ := outs_ok hT h5 hr
            obtain ⟨v, h6, h7⟩ := resv_ok hT hv (top := top1) hr h5
            refine ⟨v, hh2, top1, h6, fun {B κ vs wd} hh hB hx ht => ⟨.inl ⟨hok, ?_⟩, .inl hok⟩⟩
            obtain ⟨q1, q2⟩ := h4 ht
            have st := entry_ok (P := P) hh hB hx h3 q1 q2 hn hle
            have hg : Good (rc f.ntmps body e' h top) := by
              rcases hor with h | h <;> rw [h] <;> intro _ hb <;> cases hb
            have hw := hrc hg rfl st
            refine callsIn_wide (n := 0).1 (callsIn_of_wp_v hf hb trivial (wpIn_mono hw ?_))
            intro x a w1 q
            have leave : ∀ κ', Ext κ κ' wd → Frm κ wd w1 → St P B wd.heap.size κ' e1 hh1 top1 none f.ntmps a w1 → LeavesV Fence.wide 0 P f a.tmps (CallQ B κ wd v hh2 top1) a.defers w1 := by
              intro κ' x1 f1 s1
              refine hout s1.er.x0 s1.hB s1.hr s1.df fun w' m hH' => ?_
              obtain ⟨u, p1, p2⟩ := h7 hH' s1.er
              refine ⟨u, p1, u, κ', rfl, x1, ?_, hH', p2⟩
              exact ⟨m.os.trans f1.os, m.tape.trans f1.tape, m.output.trans f1.output, by rw [m.size]; exact f1.size, fun k hk hi => (m.keep k hk fun hi' => (x1.new k hi').elim hi fun hl => by omega).trans (f1.keep k hk hi)⟩
            rcases hor with h | h
            · rw [h] at q
              obtain ⟨rfl, κ', x1, f1, s1⟩ := q
              exact leave κ' x1 f1 s1
            · rw [h] at q
              obtain ⟨rfl, κ', x1, f1, s1⟩ := q
              exact leave κ' x1 f1 s1
        · cases hc
      · rename_i hb
        split at hc
        · rename_i h1 h2
          injection hc with hc; subst hc
          obtain ⟨v, h3, h4⟩ := noBody_ok he hr
          refine ⟨v, h, top, h3, fun {B κ vs wd} hh hB hx ht => ?_⟩
          obtain ⟨s, q, rfl, h5⟩ := h4 ht
          refine ⟨.inr ?_, .inr (by intro x hx; simp at hx; rcases hx with rfl | rfl <;> exact ⟨_, rfl⟩)⟩
          have n1 : f.name = cmpName := by simpa using h1
          obtain ⟨k1, k2⟩ := find_cmp n1 (by simpa using h2)
          refine ⟨_, wd, ?_, _, κ, rfl, Ext.refl _ _, Frm.refl _ _, hh, h5⟩
          rw [run_callFunc_extern hf (by rw [n1]; decide) (by rw [hb]; rfl) k1 k2]
          change (Sem.run P (do pure (goInt (Extern.BytealgCompare.cmp (← Extern.Bytes.bytesOf (.string s)) (← Extern.Bytes.bytesOf (.string q))))) wd).andThen _ = _
          simp [Extern.Bytes.bytesOf, goInt]
        · cases hc
/-- arguments of a closure -/
theorem wCat_rel {κ : Kap} : ∀ {a b : W} {us vs : List Value}, TR κ a us → TR κ b vs → TR κ (wCat a b) (us ++ vs)
  | .tn, b, us, vs, h, k => by have h := TR.tn.1 h; subst h; exact k
  | .tu x y, b, us, vs, ⟨u, us', h0, h1, h2⟩, k => by subst h0; exact ⟨u, us' ++ vs, rfl, h1, wCat_rel h2 k⟩
  | .o _, _, _, _, h, _ => h.elim
  | .ag _, _, _, _, h, _ => h.elim
  | .un, _, _, _, h, _ => h.elim
theorem callsX_upon {o : Oper} {a : Act} {rnd : Option Nat} {next : Act → World → Prop} {Q : Exit → Act → World → Prop} {f : FuncId} {args : Array Value} {w : World} {R : Ending → World → Prop} (h : CallsX P f args w R)
    (hR : ∀ en w', R en w' → ∃ u, en = .returned u ∧ next (a.put o.dst u) w') : o.uponIn (Fx rnd) 0 P a next Q ((callFunc f args).run P w) := by
  rcases h with ⟨h1, h2⟩ | ⟨v, w', h1, h2⟩
  · rw [run_callFunc' h1, Oper.uponIn_enter]
    refine ⟨fun hd => (by rw [Fx.depth] at hd; cases hd), Fx.calls (h2.mono fun en w' hq => ?_)⟩
    obtain ⟨u, rfl, hn⟩ := hR en w' hq
    exact hn
  · rw [h1, Oper.uponIn_value]
    obtain ⟨u, e, hn⟩ := hR _ _ h2
    injection e with e; subst e
    exact hn
end Go.Proofs.YtjkbljgolcdhhaaGreatDoor.Fw.Cm

/- The concrete evaluator and the world: calls of closures, rounds of loops over functions. -/
namespace Go.Proofs.YtjkbljgolcdhhaaGreatDoor.Fw.Cm
open Go Go.RowKit Go.WideShapes
variable {P : Program} {T : TT} {dst : Option Tmp} {ty : TypeId} {pos : String} {after : Array Edge} {guard : Option (Nat × Bool)}
theorem callQ_next {B : Nat} {κ : Kap} {w0 : World} {v : W} {h : H} {top : Nat} {next : Value → World → Prop} (hn : ∀ κ' u w', Ext κ κ' w0 → Frm κ w0 w' → HR B κ' h top w' → WR κ' v u → next u w') :
    ∀ en w', CallQ B κ w0 v h top en w' → ∃ u, en = .returned u ∧ next u w' := by
  rintro en w' ⟨u, κ', rfl, h1, h2, h3, h4⟩
  exact ⟨u, rfl, hn κ' u w' h1 h2 h3 h4⟩
theorem s_callF (hT : T.okB P = true) {f : FuncId} {args : Array Operand} {ats : Array TypeId} {g : E → (W → R) → R} (hg : evl args.toList = .mk g) : OpG P ⟨dst, .call ⟨.value (.func f), args, ats⟩, ty, pos, after, guard⟩ (oCallF P T f g) :=
  ⟨fun {rc e h top K r} hrc hr he => by
    obtain ⟨ga, g1, g2⟩ := evl_rel hg
    have he : runF P T f rc (ga e) h top K = r := by rw [← he]; unfold oCallF; rw [g1]
    obtain ⟨v, h', top', h1, h2⟩ := runF_ok hT hrc hr he
    refine ⟨v, h', top', h1, fun {B A κ rnd N a w} st next Q hn => ?_⟩
    rw [Oper.semAt_eq _ _ _ (by intro c; simp)]
    have hrun : (execOp a.eval ⟨dst, .call ⟨.value (.func f), args, ats⟩, ty, pos, after, guard⟩).run P w = (callFunc f (args.toList.map a.eval).toArray).run P w := by
      have e1 : (args.toList.map a.eval).toArray = args.map a.eval := by apply Array.ext'; simp
      rw [e1]
      simp [execOp, resolve, Act.eval, Deferred.ofValue, invoke]
    rw [hrun]
    exact callsX_upon (h2 st.hr st.hB st.er.x0 (g2 st.er)).1 (callQ_next fun κ' u w' => hn κ' u w')⟩
theorem bindP_ok {N : Nat} (hN : N ≤ 500) : ∀ {ps : List Tmp} {w : W} {e : E} {K : E → R} {r : R}, bindP N ps w e K = r → Good r → ∃ e', K e' = r ∧ (∀ j, 510 ≤ j → j < 512 → getE j e' = getE j e) ∧
    ∀ {κ : Kap} {vs : List Value} {tmps : Array Value}, TR κ w vs → ER κ e tmps → tmps.size = N → vs.length = ps.length ∧ ER κ e' ((ps.zip vs).foldl (fun tmps (t, a) => tmps.setIfInBounds t a) tmps) ∧ ((ps.zip vs).foldl (fun tmps (t, a) => tmps.setIfInBounds t a) tmps).size = N
  | [], w, e, K, r, h, hr => by
    have h : nilW w (K e) = r := h
    obtain ⟨rfl, h⟩ := nilW_ok h hr
    refine ⟨e, h, fun _ _ _ => rfl, fun {κ vs tmps} ht hE hs => ?_⟩
    have ht := TR.tn.1 ht
    subst ht
    exact ⟨rfl, hE, hs⟩
  | p :: ps, w, e, K, r, h, hr => by
    have h0 : gd (Nat.blt p N) (two' w fun a r => bindP N ps r (setE p a e) K) = r := h
    clear h
    obtain ⟨hp, h0⟩ := gd_ok h0 hr
    have hp : @LT.lt Nat _ p N := Nat.le_of_ble_eq_true hp
    obtain ⟨a, q, rfl, h0⟩ := two'_ok h0 hr
    obtain ⟨e', h1, h2, h3⟩ := bindP_ok hN h0 hr
    refine ⟨e', h1, fun j hj hj' => by rw [h2 j hj hj', getE_setE hj' (by omega), if_neg (by omega)], fun {κ vs tmps} ht hE hs => ?_⟩
    obtain ⟨u, us, rfl, k1, k2⟩ := ht
    have hE' : ER κ (setE p a e) (tmps.setIfInBounds p u) := by
      refine ⟨hE.x0, fun t' ht' => ?_⟩
      rw [getE_setE (by omega) (by omega)]
      by_cases he : t' = p
      · subst he
        rw [if_pos rfl, Array.getD_eq_getD_getElem?, Array.getElem?_setIfInBounds, if_pos rfl, if_pos (by omega)]; exact k1
      · rw [if_neg he, Array.getD_eq_getD_getElem?, Array.getElem?_setIfInBounds, if_neg (Ne.symm he), ← Array.getD_eq_getD_getElem?]
        exact hE.env t' ht'
    obtain ⟨q1, q2, q3⟩ := h3 k2 hE' (by simpa using hs)
    exact ⟨by simp [q1], by simpa using q2, by simpa using q3⟩
/-- the record of a loop is changed -/
theorem loop_put {B : Nat} {κ : Kap} {h : H} {top : Nat} {w : World} (hh : HR B κ h top w) {l b : Nat} (hq : κ.q l = some b) {x : Ob} {o : Obj} (hx : QR κ (w.putObj b o) b x) : HR B κ (seto l x h) top (w.putObj b o) ∧ Frm κ w (w.putObj b o) :=
  ⟨hh.updQ hq (by simp) (fun k hk => World.putObj_heap_other hk) hx,
   ⟨rfl, rfl, rfl, by simp, fun k hk hi => World.putObj_heap_other fun e => hi (.inr ⟨l, by rw [e]; exact hq⟩)⟩⟩
theorem end_ok {B : Nat} {κ : Kap} {h : H} {top : Nat} {w : World} (hh : HR B κ h top w) {l b : Nat} (hq : κ.q l = some b) {e0 : E} {ps0 : List Tmp} {x0 y0 : Code} {st : Nat} {j : Option Code} (hob : obj l h = .lp e0 ps0 x0 y0 st j) (jump : Option Code) :
    ∃ w', (Instr.endRound b jump).run P w = .ok (.bool jump.isNone) w' ∧ HR B κ (seto l (.lp e0 ps0 x0 y0 (match jump with | none => 0 | some _ => 2) jump) h) top w' ∧ Frm κ w w' := by
  have q := hh.que l b hq
  rw [hob] at q
  obtain ⟨rec, h1, h2, h3, h4, h5, h6, _⟩ := q
  obtain ⟨k1, k2⟩ := loop_put hh hq (x := .lp e0 ps0 x0 y0 (match jump with | none => 0 | some _ => 2) jump) (o := .loop { rec with state := if jump.isNone then .ready else .done, pending := jump })
    ⟨_, World.putObj_heap_same ((hh.ge b (.inr ⟨l, hq⟩)).2), h2, h3, h4, h5, h6, by cases jump with
      | none => exact .inl ⟨rfl, rfl, rfl, rfl⟩
      | some c => exact .inr (.inr ⟨rfl, rfl, rfl⟩)⟩
  exact ⟨_, run_endRound jump h1, k1, k2⟩
theorem round_ok {rc : Rc} {l : Nat} {w : W} {h : H} {top : Nat} {K : K} {r : R} (hrc : RcS P rc) (hr : Good r) (he : round rc l w h top K = r) :
    ∃ v h' top', K v h' top' = r ∧ ∀ {B : Nat} {κ : Kap} {b : Nat} {vs : List Value} {wd : World}, HR B κ h top wd → B ≤ wd.heap.size → κ.x 0 = some (#[], #[]) → κ.q l = some b → TR κ w vs →
      ∃ rec : Loop, wd.heap[b]? = some (.loop rec) ∧ vs.toArray.size = rec.params.size ∧
        RoundIn Fence.wide 0 P b rec.fn ((rec.params.zip vs.toArray).foldl (fun tmps (t, a) => tmps.setIfInBounds t a) rec.tmps) rec.assign rec.body wd (CallQ B κ wd v h' top') := by
  unfold round at he
  replace he := Ob.loopK_ok he hr
  obtain ⟨e, ps, x, y, st, j, hob, he⟩ := he
  cases ps with
  | nil => subst he; exact hr.bad
  | cons N ps =>
    simp only at he
    replace he := gd_ok he hr; obtain ⟨hN, he⟩ := he
    have hN := Nat.le_of_ble_eq_true hN
    replace he := bindP_ok hN he hr; obtain ⟨e', he, hb, hbind⟩ := he
    generalize hr1 : rc N x (setD' .tn (setE 510 (.o (.y l)) e')) h top = r1 at he
    cases r1 with
    | ext _ _ _ _ => subst he; exact hr.bad
    | ret _ _ _ => subst he; exact hr.bad
    | fin _ _ _ => subst he; exact hr.bad
    | bad _ => subst he; exact hr.bad
    | nrm e1 h1 top1 =>
      simp only at he
      replace he := Ob.loopK_ok he hr
      obtain ⟨e0, ps0, x0, y0, st0, j0, hob1, he⟩ := he
      replace he := gd_ok he hr; obtain ⟨hst, he⟩ := he
      have hst := beq_iff.1 hst
      subst hst
      generalize hr2 : rc N y e1 (seto l (.lp e0 ps0 x0 y0 1 j0) h1) top1 = r2 at he
      have key : ∀ {v : W} {h' : H} {top' : Nat}, Good r2 → K v h' top' = r → (∀ {B : Nat} {κ : Kap} {b : Nat} {wd : World} {x : Exit} {a : Act} {w : World}, κ.q l = some b → Qr P B 0 κ N (some b) wd r2 x a w → roundPost P b (CallQ B κ wd v h' top') x a w) →
          ∃ v h' top', K v h' top' = r ∧ ∀ {B : Nat} {κ : Kap} {b : Nat} {vs : List Value} {wd : World}, HR B κ h top wd → B ≤ wd.heap.size → κ.x 0 = some (#[], #[]) → κ.q l = some b → TR κ w vs →
            ∃ rec : Loop, wd.heap[b]? = some (.loop rec) ∧ vs.toArray.size = rec.params.size ∧
              RoundIn Fence.wide 0 P b rec.fn ((rec.params.zip vs.toArray).foldl (fun tmps (t, a) => tmps.setIfInBounds t a) rec.tmps) rec.assign rec.body wd (CallQ B κ wd v h' top') := by
        intro v h' top' hg2 hk hpost
        refine ⟨v, h', top', hk, fun {B κ b vs wd} hh hB hx hq ht => ?_⟩
        have q := hh.que l b hq
        rw [hob] at q
        obtain ⟨rec, p1, p2, p3, p4, p5, p6, _⟩ := q
        injection p4 with p4 p4'
        obtain ⟨b1, b2, b3⟩ := hbind ht p2 p4.symm
        refine ⟨rec, p1, by simp [b1, p4'], ?_⟩
        have hfold : (rec.params.zip vs.toArray).foldl (fun tmps (t, a) => tmps.setIfInBounds t a) rec.tmps = (ps.zip vs).foldl (fun tmps (t, a) => tmps.setIfInBounds t a) rec.tmps := by
          rw [← Array.foldl_toList, Array.toList_zip, p4']
        rw [hfold, p5, p6]
        have hE2 : ER κ (setD' .tn (setE 510 (.o (.y l)) e')) ((ps.zip vs).foldl (fun tmps (t, a) => tmps.setIfInBounds t a) rec.tmps) := by
          refine ⟨hx, fun t ht => ?_⟩
          show WR κ (getE t (setE 511 .tn (setE 510 (.o (.y l)) e'))) _
          rw [getE_setE (by omega) (by omega), if_neg (by omega), getE_setE (by omega) (by omega), if_neg (by omega)]
          exact b2.env t ht
        have s0 : St P B 0 κ (setD' .tn (setE 510 (.o (.y l)) e')) h top (some b) N { tmps := (ps.zip vs).foldl (fun tmps (t, a) => tmps.setIfInBounds t a) rec.tmps, defers := [] } wd := by
          refine ⟨hh, hB, Nat.zero_le _, b3, hN, hE2, ?_, .inr ⟨l, b, ?_, rfl, hq⟩⟩
          · have : getE 511 (setD' .tn (setE 510 (.o (.y l)) e')) = .tn := by
              show getE 511 (setE 511 .tn (setE 510 (.o (.y l)) e')) = .tn
              rw [getE_setE (by omega) (by omega), if_pos rfl]
            rw [this]; rfl
          · show getE 510 (setE 511 .tn (setE 510 (.o (.y l)) e')) = _
            rw [getE_setE (by omega) (by omega), if_neg (by omega), getE_setE (by omega) (by omega), if_pos rfl]
        refine roundIn_of_wpIn trivial (wpIn_mono (hrc (by intro _ hb; cases hb) hr1 s0) ?_)
        rintro ex a w1 ⟨rfl, κ1, x1, f1, s1⟩
        have hq1 := x1.le.q _ _ hq
        have q := s1.hr.que l b hq1
        rw [hob1] at q
        obtain ⟨rec1, c1, c2, c3, c4, c5, c6, c7⟩ := q
        have hrdy : rec1.state = .ready := by
          rcases c7 with ⟨_, c, _⟩ | ⟨c, _⟩ | ⟨c, _⟩
          · exact c
          · omega
          · omega
        refine ⟨_, run_beginRound c1 hrdy, ?_⟩
        obtain ⟨k1, k2⟩ := loop_put s1.hr hq1 (x := .lp e0 ps0 x0 y0 1 j0) (o := .loop { rec1 with state := .busy })
          ⟨_, World.putObj_heap_same ((s1.hr.ge b (.inr ⟨l, hq1⟩)).2), c2, c3, c4, c5, c6, .inr (.inl ⟨rfl, rfl⟩)⟩
        have s2 := s1.next k1 (Ext.refl _ _) k2
        refine wpIn_mono (hrc hg2 hr2 s2) fun ex a w2 q => ?_
        have hp := hpost hq1 q
        have hmono : ∀ en w', CallQ B κ1 (w1.putObj b (.loop { rec1 with state := .busy })) v h' top' en w' → CallQ B κ wd v h' top' en w' := by
          rintro en w' ⟨u, κ2, rfl, x2, f2, hh2, hw2⟩
          have f12 := f1.trans x1 k2
          exact ⟨u, κ2, rfl, x1.trans f1.size ((Ext.refl κ1 w1).trans k2.size x2), f12.trans x1 f2, hh2, hw2⟩
        revert hp
        cases ex with
        | normal => rintro ⟨v1, w', e1, e2⟩; exact ⟨v1, w', e1, hmono _ _ e2⟩
        | ret => rintro ⟨v1, w', e1, e2⟩; exact ⟨v1, w', e1, hmono _ _ e2⟩
        | exit id => rintro ⟨v1, w', e1, e2⟩; exact ⟨v1, w', e1, hmono _ _ e2⟩
        | goto id => rintro ⟨v1, w', e1, e2⟩; exact ⟨v1, w', e1, hmono _ _ e2⟩
        | panic _ => exact id
        | outgrown => exact id
      cases r2 with
      | nrm e2 h2 top2 =>
        simp only at he
        replace he := Ob.loopK_ok he hr; obtain ⟨e4, ps4, x4, y4, st4, j4, hob4, he⟩ := he
        refine key (by intro _ hb; cases hb) he ?_
        rintro B κ b wd ex a w hq ⟨rfl, κ2, x2, f2, s2⟩
        obtain ⟨w', g1, g2, g3⟩ := end_ok (P := P) s2.hr (x2.le.q _ _ hq) hob4 none
        exact ⟨_, w', g1, _, κ2, rfl, x2, f2.trans x2 g3, g2, rfl⟩
      | ext i e2 h2 top2 =>
        simp only at he
        replace he := Ob.loopK_ok he hr; obtain ⟨e4, ps4, x4, y4, st4, j4, hob4, he⟩ := he
        refine key (by intro _ hb; cases hb) he ?_
        rintro B κ b wd ex a w hq ⟨rfl, κ2, x2, f2, s2⟩
        obtain ⟨w', g1, g2, g3⟩ := end_ok (P := P) s2.hr (x2.le.q _ _ hq) hob4 (some (.exit i))
        exact ⟨_, w', g1, _, κ2, rfl, x2, f2.trans x2 g3, g2, rfl⟩
      | ret e2 h2 top2 =>
        simp only at he
        replace he := Ob.loopK_ok he hr; obtain ⟨e4, ps4, x4, y4, st4, j4, hob4, he⟩ := he
        refine key (by intro _ hb; cases hb) he ?_
        rintro B κ b wd ex a w hq ⟨rfl, κ2, x2, f2, s2⟩
        obtain ⟨w', g1, g2, g3⟩ := end_ok (P := P) s2.hr (x2.le.q _ _ hq) hob4 (some .ret)
        exact ⟨_, w', g1, _, κ2, rfl, x2, f2.trans x2 g3, g2, rfl⟩
      | fin _ _ _ => subst he; exact hr.bad
      | bad _ => subst he; exact hr.bad
end Go.Proofs.YtjkbljgolcdhhaaGreatDoor.Fw.Cm

/- The concrete evaluator and the world: every operation. -/
namespace Go.Proofs.YtjkbljgolcdhhaaGreatDoor.Fw.Cm
open Go Go.RowKit Go.WideShapes
variable {P : Program} {T : TT} {dst : Option Tmp} {ty : TypeId} {pos : String} {after : Array Edge} {guard : Option (Nat × Bool)}
theorem callQ_next' {B : Nat} {κ : Kap} {w0 : World} {v : W} {h : H} {top : Nat} {en : Ending} {w' : World} (q : CallQ B κ w0 v h top en w') : ∃ u κ', en = .returned u ∧ Ext κ κ' w0 ∧ Frm κ w0 w' ∧ HR B κ' h top w' ∧ WR κ' v u := q
theorem s_callV (hT : T.okB P = true) {x : Operand} {args : Array Operand} {ats : Array TypeId} {f : E → W} {g : E → (W → R) → R} (hx : evb x = .mk f) (hg : evl args.toList = .mk g) : OpG P ⟨dst, .call ⟨.value x, args, ats⟩, ty, pos, after, guard⟩ (oCallV P T f g) :=
  ⟨fun {rc e h top K r} hrc hr he => by
    obtain ⟨ga, g1, g2⟩ := evl_rel hg
    obtain ⟨v, hv, he⟩ := W.v_ok he hr
    rw [g1] at he
    replace he := V.fn_ok he hr
    have e1 : ∀ a : Act, (args.toList.map a.eval).toArray = args.map a.eval := fun a => by apply Array.ext'; simp
    rcases he with ⟨fn, o, rfl, he⟩ | ⟨l, rfl, he⟩
    · replace he := Ob.clo_ok he hr; obtain ⟨n, u, hob, he⟩ := he
      replace he := two'_ok he hr; obtain ⟨us, cs, rfl, he⟩ := he
      obtain ⟨v, h', top', h1, h2⟩ := runF_ok hT hrc hr he
      refine ⟨v, h', top', h1, fun {B A κ rnd N a w} st next Q hn => ?_⟩
      rw [Oper.semAt_eq _ _ _ (by intro c; simp)]
      have hf := evb_rel hx st.er
      rw [hv] at hf
      obtain ⟨fs, ds, k1, k2⟩ := hf
      obtain ⟨nf, p, q, k3, k4, k5⟩ := st.hr.clo _ _ _ k1
      rw [hob] at k3
      injection k3 with k3 k6
      injection k6 with k6 k7
      subst k6; subst k7
      have hrun : (execOp a.eval ⟨dst, .call ⟨.value x, args, ats⟩, ty, pos, after, guard⟩).run P w = (callFunc fn (fs.toList ++ (args.toList.map a.eval ++ ds.toList)).toArray).run P w := by
        have e2 : (fs.toList ++ (args.toList.map a.eval ++ ds.toList)).toArray = fs ++ args.map a.eval ++ ds := by apply Array.ext'; simp
        rw [e2]
        simp [execOp, resolve, k2, Deferred.ofValue, invoke]
      rw [hrun]
      exact callsX_upon (h2 st.hr st.hB st.er.x0 (wCat_rel k4 (wCat_rel (g2 st.er) k5))).1 (callQ_next fun κ' u w' => hn κ' u w')
    · obtain ⟨v, h', top', h1, h2⟩ := round_ok hrc hr he
      refine ⟨v, h', top', h1, fun {B A κ rnd N a w} st next Q hn => ?_⟩
      rw [Oper.semAt_eq _ _ _ (by intro c; simp)]
      have hf := evb_rel hx st.er
      rw [hv] at hf
      obtain ⟨b, k1, k2⟩ := hf
      obtain ⟨rec, p1, p2, p3⟩ := h2 st.hr st.hB st.er.x0 k1 (g2 st.er)
      have hrun : (execOp a.eval ⟨dst, .call ⟨.value x, args, ats⟩, ty, pos, after, guard⟩).run P w = (Instr.yield b (args.toList.map a.eval).toArray).run P w := by
        rw [e1]
        simp [execOp, resolve, k2, Deferred.ofValue, invoke]
      rw [hrun, run_yield p1 p2, Oper.uponIn_round]
      refine ⟨fun hd => (by rw [Fx.depth] at hd; cases hd), Fx.rounds (p3.mono fun en w' q => ?_)⟩
      obtain ⟨u, κ', rfl, q1, q2, q3, q4⟩ := q
      exact hn κ' u w' q1 q2 q3 q4⟩
/-- every operation -/
theorem op_g (hT : T.okB P = true) {o : Oper} {f : Op'} (h : opB P T o = .mk f) : OpG P o f := by
  by_cases hc : isCall o.op = true
  · obtain ⟨dst, op, ty, pos, after, guard⟩ := o
    have hc : isCall op = true := hc
    cases op with
    | call c =>
      obtain ⟨callee, args, ats⟩ := c
      cases callee with
      | value x =>
        have h : callOb P T ⟨.value x, args, ats⟩ = .mk f := h
        unfold callOb at h
        split at h
        · rename_i fn hcal
          injection hcal with hcal; subst hcal
          obtain ⟨g, h1, h⟩ := GL_ok h
          injection h with h; subst h
          exact s_callF hT h1
        · rename_i y hne hcal
          injection hcal with hcal; subst hcal
          obtain ⟨g0, h0, h⟩ := oB_ok h
          obtain ⟨g, h1, h⟩ := GL_ok h
          injection h with h; subst h
          exact s_callV hT h0 h1
        all_goals first | (rename_i hcal; cases hcal; done) | (cases h; done)
      | _ => cases hc
    | _ => cases hc
  · have hs := op_ok hT h (by simpa using hc)
    refine hs.g fun c hd => ?_
    obtain ⟨dst, op, ty, pos, after, guard⟩ := o
    have hd : op = _ := hd
    subst hd
    cases h
end Go.Proofs.YtjkbljgolcdhhaaGreatDoor.Fw.Cm
