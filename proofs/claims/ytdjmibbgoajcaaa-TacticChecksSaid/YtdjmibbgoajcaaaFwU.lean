/- Places that are kept, blocks that are frozen, what a function hands back. -/
import Derived.Test.YtdjmibbgoajcaaaFwT
set_option autoImplicit false
set_option linter.unusedVariables false
set_option linter.unusedSimpArgs false
namespace Go.Proofs.Ytdjmibbgoajcaaa.Fw
open Go Go.RowKit

theorem wk.hold (l i sz : Nat) : wk (.nil sz) (.own l i sz []) := ⟨fun c v hv => by cases hv with | nil _ => exact .own0 none l i sz⟩
section
variable {T : TT} {P : Program} {N : Nat} {ds : Fix} {js : List Nat} {c : Ctx} {s : Env} {fr : Frs} {a : Act} {w : World}

/-! ### 1. Before a call -/
theorem Said.step {f : FuncId} {args args' : List AV} {fr fr' : Frs} {R : Out → List Blk → Frs → Prop} (h : Said P f args' fr' R) (hl : args'.length = args.length)
    (k : ∀ (c : Ctx) (w : World) (vs : List Value), Ok c fr w → c.B ≤ w.heap.size → vs.length = args.length → (∀ j (h : j < args.length), VRel c (vs.getD j default) (args[j])) →
      ∃ c', c.le c' ∧ Ok c' fr' w ∧ ∀ j (h : j < args'.length), VRel c' (vs.getD j default) (args'[j])) : Said P f args fr R := by
  refine ⟨fun c w vs hok hB hn hr => ?_⟩
  obtain ⟨c', k1, k2, k3⟩ := k c w vs hok hB hn hr
  refine (h.out c' w vs k2 (by rw [k1.B]; exact hB) (by omega) k3).mono ?_
  rintro e w' ⟨o, ls, fr2, c2, h1, h2, h3, h4, h5⟩
  exact ⟨o, ls, fr2, c2, h1, h2, k1.trans h3, h4, h5⟩
/-- a place is kept -/
theorem said_hold (sz : Nat) {f : FuncId} {args : List AV} {L : List Blk} {rest : Frs} {R : Out → List Blk → Frs → Prop} (h : Said P f args ((L ++ [.grow sz 0]) :: rest) R) : Said P f args (L :: rest) R :=
  h.step rfl fun c w vs hok hB hn hr => by
    obtain ⟨c', k1, k2, k3, k4, k5⟩ := hok.hold sz
    exact ⟨c', k1, k5, fun j hj => (hr j hj).mono k1⟩
def WkAll : List AV → List AV → Prop
  | [], [] => True
  | x :: xs, y :: ys => wk x y ∧ WkAll xs ys
  | _, _ => False
theorem WkAll.spec : ∀ {xs ys : List AV}, WkAll xs ys → ys.length = xs.length ∧ ∀ j (h : j < xs.length) (h' : j < ys.length), wk xs[j] ys[j]
  | [], [], _ => ⟨rfl, fun j h => by simp at h⟩
  | x :: xs, y :: ys, h => by
    obtain ⟨h1, h2⟩ := WkAll.spec h.2
    refine ⟨by simp [h1], fun j hj hj' => ?_⟩
    cases j with
    | zero => exact h.1
    | succ j => exact h2 j (by simpa using hj) (by simpa using hj')
  | [], _ :: _, h => h.elim
  | _ :: _, [], h => h.elim
def leafs : List AV → Bool
  | [] => true
  | y :: r => match y.leaf with | true => leafs r | false => false
theorem leafs_spec : ∀ {l : List AV}, leafs l = true → ∀ y ∈ l, y.leaf = true
  | [], _, y, hy => by cases hy
  | x :: r, h, y, hy => by
    simp only [leafs] at h
    split at h
    · rename_i hx
      rcases List.mem_cons.1 hy with rfl | hy
      · exact hx
      · exact leafs_spec h y hy
    · cases h
theorem said_args {f : FuncId} {args args' : List AV} {fr : Frs} {R : Out → List Blk → Frs → Prop} (h : Said P f args' fr R) (hw : WkAll args args') : Said P f args fr R :=
  h.step hw.spec.1 fun c w vs hok hB hn hr => ⟨c, Ctx.le.refl c, hok, fun j hj => (hw.spec.2 j (by have := hw.spec.1; omega) hj).out _ _ (hr j (by have := hw.spec.1; omega))⟩
/-- a function value of data is a datum -/
def AV.fzf (fn : Fn) (bs cs : List AV) : AV := match pures bs, pures cs with
  | some bs, some cs => .d (.func fn bs cs)
  | _, _ => .func fn bs cs
mutual
/-- pointers to what is frozen are data -/
def AV.fzp (L : List Blk) : AV → AV
  | .ptr 0 i 0 => match L[i]? with | some (.frz x) => .d (.ptr x) | _ => .ptr 0 i 0
  | .func fn bs cs => AV.fzf fn (AV.fzps L bs) (AV.fzps L cs)
  | .iface t x => .iface t (AV.fzp L x)
  | .agg cs => .agg (AV.fzps L cs)
  | .tuple cs => .tuple (AV.fzps L cs)
  | x => x
def AV.fzps (L : List Blk) : List AV → List AV
  | [] => []
  | x :: r => AV.fzp L x :: AV.fzps L r
end
theorem AV.fzps_eq (L : List Blk) (l : List AV) : AV.fzps L l = l.map (AV.fzp L) := by induction l with | nil => rfl | cons x r ih => simp [AV.fzps, ih]
theorem AV.fzf_leaf (fn : Fn) (bs cs : List AV) : (AV.fzf fn bs cs).leaf = true := by
  unfold AV.fzf; split <;> rfl
theorem AV.fzp_leaf (L : List Blk) (x : AV) : (x.fzp L).leaf = x.leaf := by
  unfold AV.fzp
  split <;> first | rfl | exact AV.fzf_leaf _ _ _ | (split <;> rfl)
theorem VRel.fzf {v : Value} {fn : Fn} {bs cs : List AV} (h : VRel c v (.func fn bs cs)) : VRel c v (AV.fzf fn bs cs) := by
  unfold AV.fzf
  split
  · rename_i bs' cs' h1 h2
    exact .d _ _ (h.pure _ (by simp [pure?, pure_go, h1, h2]))
  · exact h
theorem VRel.fzp {L : List Blk} {rest : Frs} (hok : Ok c (L :: rest) w) {v : Value} {x : AV} (h : VRel c v x) : VRel c v (x.fzp L) := by
  induction h with
  | ptr lvl i off e he hg =>
    unfold AV.fzp
    split
    · rename_i i' heq
      injection heq with h1 h2 h3
      subst h1; subst h2; subst h3
      split
      · rename_i x hx
        have hbr := hok.blk 0 i e (.frz x) he (by simpa using hx)
        rw [Ctx.drop_zero] at hbr
        cases hbr with | frz _ vs t hg' hw hv hn hl hk hr =>
        exact .d _ _ (.ptr x e.b 0 (fun j => vs.getD j default) hv (fun j hj => by rw [Nat.zero_add]; exact hk j hj) hl hr)
      · exact .ptr _ _ _ e he hg
    all_goals first | exact .ptr _ _ _ e he hg | (rename_i heq; cases heq)
  | undef v => exact .undef v
  | d v x h => exact .d v x h
  | nil sz => exact .nil sz
  | full a sz xs h => exact .full a sz xs h
  | own a cap lvl i sz xs e h he hg hs hn hcc => exact .own a cap lvl i sz xs e h he hg hs hn hcc
  | own0 a lvl i sz => exact .own0 a lvl i sz
  | arr cap lvl i off len sz e he hg hs hcap => exact .arr cap lvl i off len sz e he hg hs hcap
  | arr0 a lvl i off sz => exact .arr0 a lvl i off sz
  | garr0 a lvl i sz => exact .garr0 a lvl i sz
  | garr a cap lvl i n sz e he hg hn hcc => exact .garr a cap lvl i n sz e he hg hn hcc
  | eptr lvl i k off e he hg => exact .eptr lvl i k off e he hg
  | win cap lvl i off len e he hg hc => exact .win cap lvl i off len e he hg hc
  | pel x off b o vals h1 hl hr => exact .pel x off b o vals h1 hl hr
  | map lvl i e he hg => exact .map lvl i e he hg
  | func fn us vs bs cs hm hn hq hr ihq ih => simp only [AV.fzp, AV.fzps_eq]; exact VRel.fzf (.func fn us vs _ _ (by simpa using hm) (by simpa using hn) (fun j hj => by simpa using ihq j (by simpa using hj)) fun j hj => by simpa using ih j (by simpa using hj))
  | iface t v x h ih => exact .iface t v _ ih
  | agg vs cs hn hl' hr ih => simp only [AV.fzp, AV.fzps_eq]; exact .agg vs _ (by simpa using hn) (by simpa [AV.fzp_leaf] using hl') fun j hj => by simpa using ih j (by simpa using hj)
  | tuple vs cs hn hr ih => simp only [AV.fzp, AV.fzps_eq]; exact .tuple vs _ (by simpa using hn) fun j hj => by simpa using ih j (by simpa using hj)
theorem said_fzp {f : FuncId} {args args' : List AV} {L : List Blk} {rest : Frs} {R : Out → List Blk → Frs → Prop} (h : Said P f args' (L :: rest) R) (ha : AV.fzps L args = args') : Said P f args (L :: rest) R := by
  subst ha
  refine h.step (by simp [AV.fzps_eq]) fun c w vs hok hB hn hr => ⟨c, Ctx.le.refl c, hok, fun j hj => ?_⟩
  have hj' : j < args.length := by simpa [AV.fzps_eq] using hj
  have := (hr j hj').fzp hok
  simpa [AV.fzps_eq] using this
end
end Go.Proofs.Ytdjmibbgoajcaaa.Fw

