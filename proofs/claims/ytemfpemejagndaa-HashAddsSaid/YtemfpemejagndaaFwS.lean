/- The caller's names of blocks and the callee's. -/
import Derived.Test.YtemfpemejagndaaFwR
set_option autoImplicit false
set_option linter.unusedVariables false
set_option linter.unusedSimpArgs false
namespace Go.Proofs.Ytemfpemejagndaa.Fw
open Go Go.RowKit

/-! ### 1. Inward -/
def posOf : List Nat → Nat → Nat → Option Nat
 | [], _, _ => none
 | p :: r, k, i => match Nat.beq p i with | true => some k | false => posOf r (k + 1) i
theorem posOf_some : ∀ {ps : List Nat} {k0 i k : Nat}, posOf ps k0 i = some k → k0 ≤ k ∧ ps[k - k0]? = some i
 | [], _, _, _, h => by cases h
 | p :: r, k0, i, k, h => by
  simp only [posOf] at h
  split at h
  ·rename_i hp
   injection h with h
   subst h
   have := Nat.eq_of_beq_eq_true hp
   subst this
   exact ⟨Nat.le_refl _, by simp⟩
  ·obtain ⟨h1, h2⟩ := posOf_some h
   refine ⟨by omega, ?_⟩
   rw [show k - k0 = (k - (k0 + 1)) + 1 by omega, List.getElem?_cons_succ]; exact h2
mutual
/-- inward: what is not lent is handed in as data; none where that cannot be -/
def AV.tr (ps : List Nat) : AV → Option AV
 | .own 0 i sz xs => match posOf ps 0 i with | some k => some (.own 0 k sz xs) | none => some (.d (.slice sz xs))
 | .own (_ + 1) _ sz xs => some (.d (.slice sz xs))
 | .arr 0 i off len sz => match posOf ps 0 i with | some k => some (.arr 0 k off len sz) | none => none
 | .arr (_ + 1) _ _ _ _ => none
 | .garr 0 i n sz => match posOf ps 0 i with | some k => some (.garr 0 k n sz) | none => none
 | .garr (_ + 1) _ _ _ => none
 | .ptr 0 i off => match posOf ps 0 i with | some k => some (.ptr 0 k off) | none => none
 | .ptr (_ + 1) _ _ => none
 | .eptr 0 i j off => match posOf ps 0 i with | some k => some (.eptr 0 k j off) | none => none
 | .eptr (_ + 1) _ _ _ => none
 | .win _ _ _ _ => none
 | .map 0 i => match posOf ps 0 i with | some k => some (.map 0 k) | none => none
 | .map (_ + 1) _ => none
 | .func fn bs cs => match AV.trs ps bs, AV.trs ps cs with | some bs, some cs => some (.func fn bs cs) | _, _ => none
 | .iface t x => match AV.tr ps x with | some x => some (.iface t x) | none => none
 | .agg cs => match AV.trs ps cs with | some cs => some (.agg cs) | none => none
 | .tuple cs => match AV.trs ps cs with | some cs => some (.tuple cs) | none => none
 | .undef => some .undef
 | .d x => some (.d x)
 | .nil sz => some (.nil sz)
 | .full sz xs => some (.full sz xs)
 | .pel x off => some (.pel x off)
 | .vp a x => some (.vp a x)
def AV.trs (ps : List Nat) : List AV → Option (List AV)
 | [] => some []
 | x :: r => match AV.tr ps x, AV.trs ps r with | some y, some ys => some (y :: ys) | _, _ => none
end
theorem AV.trs_some {ps : List Nat} : ∀ {l l' : List AV}, AV.trs ps l = some l' → l'.length = l.length ∧ ∀ j (h : j < l.length) (h' : j < l'.length), AV.tr ps l[j] = some l'[j]
 | [], l', h => by simp [AV.trs] at h; subst h; simp
 | x :: r, l', h => by
  simp only [AV.trs] at h
  split at h
  ·rename_i y ys hy hys
   injection h with h
   subst h
   obtain ⟨h1, h2⟩ := AV.trs_some hys
   refine ⟨by simp [h1], fun j hj hj' => ?_⟩
   cases j with
   | zero => exact hy
   | succ j => exact h2 j (by simpa using hj) (by simpa using hj')
  ·cases h
theorem AV.tr_leaf {ps : List Nat} {x y : AV} (h : x.tr ps = some y) : y.leaf = x.leaf := by
 cases x with
 | own l i sz xs => cases l with
  | zero => simp only [AV.tr] at h; split at h <;> (injection h with h; subst h; rfl)
  | succ l => simp only [AV.tr] at h; injection h with h; subst h; rfl
 | arr l i off len sz => cases l with
  | zero => simp only [AV.tr] at h; split at h <;> first | (injection h with h; subst h; rfl) | cases h
  | succ l => simp only [AV.tr] at h; cases h
 | garr l i n sz => cases l with
  | zero => simp only [AV.tr] at h; split at h <;> first | (injection h with h; subst h; rfl) | cases h
  | succ l => simp only [AV.tr] at h; cases h
 | ptr l i off => cases l with
  | zero => simp only [AV.tr] at h; split at h <;> first | (injection h with h; subst h; rfl) | cases h
  | succ l => simp only [AV.tr] at h; cases h
 | win l i off len => simp only [AV.tr] at h; cases h
 | eptr l i j off => cases l with
  | zero => simp only [AV.tr] at h; split at h <;> first | (injection h with h; subst h; rfl) | cases h
  | succ l => simp only [AV.tr] at h; cases h
 | map l i => cases l with
  | zero => simp only [AV.tr] at h; split at h <;> first | (injection h with h; subst h; rfl) | cases h
  | succ l => simp only [AV.tr] at h; cases h
 | func fn bs cs => simp only [AV.tr] at h; split at h <;> first | (injection h with h; subst h; rfl) | cases h
 | iface t x => simp only [AV.tr] at h; split at h <;> first | (injection h with h; subst h; rfl) | cases h
 | agg cs => simp only [AV.tr] at h; split at h <;> first | (injection h with h; subst h; rfl) | cases h
 | tuple cs => simp only [AV.tr] at h; split at h <;> first | (injection h with h; subst h; rfl) | cases h
 | undef => simp only [AV.tr] at h; injection h with h; subst h; rfl
 | d x => simp only [AV.tr] at h; injection h with h; subst h; rfl
 | nil sz => simp only [AV.tr] at h; injection h with h; subst h; rfl
 | full sz xs => simp only [AV.tr] at h; injection h with h; subst h; rfl
 | pel x off => simp only [AV.tr] at h; injection h with h; subst h; rfl
 | vp a x => simp only [AV.tr] at h; injection h with h; subst h; rfl
theorem VRel.tr {c c1 : Ctx} {ps : List Nat} (hH : c.H.le c1.H) (hent : ∀ k p e, ps[k]? = some p → c.ent 0 p = some e → c1.ent 0 k = some e) {v : Value} {x : AV} (h : VRel c v x) : ∀ y, x.tr ps = some y → VRel c1 v y := by
 have pos : ∀ {i k : Nat} {e : Ent}, posOf ps 0 i = some k → c.ent 0 i = some e → c1.ent 0 k = some e := fun hp he => by
  obtain ⟨_, h2⟩ := posOf_some hp
  exact hent _ _ _ (by simpa using h2) he
 induction h with
 | undef v => intro y hy; simp only [AV.tr] at hy; injection hy with hy; subst hy; exact .undef v
 | d v x h => intro y hy; simp only [AV.tr] at hy; injection hy with hy; subst hy; exact .d v x (h.mono hH)
 | nil sz => intro y hy; simp only [AV.tr] at hy; injection hy with hy; subst hy; exact .nil sz
 | own0 a lvl i sz =>
  intro y hy
  cases lvl with
  | zero =>
   simp only [AV.tr] at hy
   split at hy
   ·injection hy with hy; subst hy; exact .own0 a 0 _ sz
   ·injection hy with hy; subst hy; exact .d _ _ (.zero0 a sz)
  | succ l => simp only [AV.tr] at hy; injection hy with hy; subst hy; exact .d _ _ (.zero0 a sz)
 | full a sz xs h => intro y hy; simp only [AV.tr] at hy; injection hy with hy; subst hy; exact .full a sz xs (h.mono hH)
 | own a cap lvl i sz xs e h he hg hs hn hcc =>
  intro y hy
  cases lvl with
  | zero =>
   simp only [AV.tr] at hy
   split at hy
   ·rename_i k hp
    injection hy with hy; subst hy
    exact .own a cap 0 k sz xs e (h.mono hH) (pos hp he) hg hs hn hcc
   ·injection hy with hy; subst hy; exact .d _ _ (h.mono hH)
  | succ l => simp only [AV.tr] at hy; injection hy with hy; subst hy; exact .d _ _ (h.mono hH)
 | arr cap lvl i off len sz e he hg hs hcap =>
  intro y hy
  cases lvl with
  | zero =>
   simp only [AV.tr] at hy
   split at hy
   ·rename_i k hp
    injection hy with hy; subst hy
    exact .arr cap 0 k off len sz e (pos hp he) hg hs hcap
   ·cases hy
  | succ l => simp only [AV.tr] at hy; cases hy
 | arr0 a lvl i off sz =>
  intro y hy
  cases lvl with
  | zero =>
   simp only [AV.tr] at hy
   split at hy
   ·injection hy with hy; subst hy; exact .arr0 a 0 _ off sz
   ·cases hy
  | succ l => simp only [AV.tr] at hy; cases hy
 | garr0 a lvl i sz =>
  intro y hy
  cases lvl with
  | zero =>
   simp only [AV.tr] at hy
   split at hy
   ·injection hy with hy; subst hy; exact .garr0 a 0 _ sz
   ·cases hy
  | succ l => simp only [AV.tr] at hy; cases hy
 | garr a cap lvl i n sz e he hg hn hcc =>
  intro y hy
  cases lvl with
  | zero =>
   simp only [AV.tr] at hy
   split at hy
   ·rename_i k hp
    injection hy with hy; subst hy
    exact .garr a cap 0 k n sz e (pos hp he) hg hn hcc
   ·cases hy
  | succ l => simp only [AV.tr] at hy; cases hy
 | ptr lvl i off e he hg =>
  intro y hy
  cases lvl with
  | zero =>
   simp only [AV.tr] at hy
   split at hy
   ·rename_i k hp
    injection hy with hy; subst hy
    exact .ptr 0 k off e (pos hp he) hg
   ·cases hy
  | succ l => simp only [AV.tr] at hy; cases hy
 | win => intro y hy; simp only [AV.tr] at hy; cases hy
 | eptr lvl i j off e he hg =>
  intro y hy
  cases lvl with
  | zero =>
   simp only [AV.tr] at hy
   split at hy
   ·rename_i k hp
    injection hy with hy; subst hy
    exact .eptr 0 k j off e (pos hp he) hg
   ·cases hy
  | succ l => simp only [AV.tr] at hy; cases hy
 | pel x off b o vals h1 hl hr => intro y hy; simp only [AV.tr] at hy; injection hy with hy; subst hy; exact .pel x off b o vals (fun j hj => hH.1 _ _ _ (h1 j hj)) hl fun j hj => (hr j hj).mono hH
 | vp a x h => intro y hy; simp only [AV.tr] at hy; injection hy with hy; subst hy; exact .vp a x (h.mono hH)
 | map lvl i e he hg =>
  intro y hy
  cases lvl with
  | zero =>
   simp only [AV.tr] at hy
   split at hy
   ·rename_i k hp
    injection hy with hy; subst hy
    exact .map 0 k e (pos hp he) hg
   ·cases hy
  | succ l => simp only [AV.tr] at hy; cases hy
 | func fn us vs bs cs hm hn hq hr ihq ih =>
  intro y hy
  simp only [AV.tr] at hy
  split at hy
  ·rename_i bs' cs' hbs hcs
   injection hy with hy; subst hy
   obtain ⟨h1, h2⟩ := AV.trs_some hcs
   obtain ⟨h3, h4⟩ := AV.trs_some hbs
   exact .func fn us vs bs' cs' (by omega) (by omega) (fun j hj => ihq j (by omega) _ (h4 j (by omega) hj)) fun j hj => ih j (by omega) _ (h2 j (by omega) hj)
  ·cases hy
 | iface t v x h ih =>
  intro y hy
  simp only [AV.tr] at hy
  split at hy
  ·rename_i x' hx
   injection hy with hy; subst hy
   exact .iface t v _ (ih _ hx)
  ·cases hy
 | agg vs cs hn hl hr ih =>
  intro y hy
  simp only [AV.tr] at hy
  split at hy
  ·rename_i cs' hcs
   injection hy with hy; subst hy
   obtain ⟨h1, h2⟩ := AV.trs_some hcs
   refine .agg vs cs' (by omega) (fun z hz => ?_) fun j hj => ih j (by omega) _ (h2 j (by omega) hj)
   obtain ⟨j, hj, rfl⟩ := List.mem_iff_getElem.1 hz
   rw [AV.tr_leaf (h2 j (by omega) hj)]
   exact hl _ (List.getElem_mem _)
  ·cases hy
 | tuple vs cs hn hr ih =>
  intro y hy
  simp only [AV.tr] at hy
  split at hy
  ·rename_i cs' hcs
   injection hy with hy; subst hy
   obtain ⟨h1, h2⟩ := AV.trs_some hcs
   exact .tuple vs cs' (by omega) fun j hj => ih j (by omega) _ (h2 j (by omega) hj)
  ·cases hy
/-! ### 2. Outward -/
mutual
/-- outward: the callee's block k is the caller's block g k -/
def AV.bt (g : Nat → Nat) : AV → AV
 | .own l i sz xs => .own l (g i) sz xs
 | .arr l i off len sz => .arr l (g i) off len sz
 | .garr l i n sz => .garr l (g i) n sz
 | .ptr l i off => .ptr l (g i) off
 | .eptr l i j off => .eptr l (g i) j off
 | .win l i off len => .win l (g i) off len
 | .map l i => .map l (g i)
 | .func fn bs cs => .func fn (AV.bts g bs) (AV.bts g cs)
 | .iface t x => .iface t (AV.bt g x)
 | .agg cs => .agg (AV.bts g cs)
 | .tuple cs => .tuple (AV.bts g cs)
 | x => x
def AV.bts (g : Nat → Nat) : List AV → List AV
 | [] => []
 | x :: r => AV.bt g x :: AV.bts g r
end
theorem AV.bts_eq (g : Nat → Nat) (l : List AV) : AV.bts g l = l.map (AV.bt g) := by induction l with | nil => rfl | cons x r ih => simp [AV.bts, ih]
theorem AV.bt_leaf (g : Nat → Nat) (x : AV) : (x.bt g).leaf = x.leaf := by cases x <;> rfl
theorem VRel.bt {c1 c2 : Ctx} {g : Nat → Nat} (hH : c1.H.le c2.H) (hl : ∀ l i e, c1.ent l i = some e → l = 0) (hent : ∀ k e, c1.ent 0 k = some e → c2.ent 0 (g k) = some e) {v : Value} {x : AV} (h : VRel c1 v x) : VRel c2 v (x.bt g) := by
 induction h with
 | undef v => exact .undef v
 | d v x h => exact .d v x (h.mono hH)
 | nil sz => exact .nil sz
 | own0 a lvl i sz => exact .own0 a _ _ sz
 | full a sz xs h => exact .full a sz xs (h.mono hH)
 | own a cap lvl i sz xs e h he hg hs hn hcc =>
  obtain rfl := hl _ _ _ he
  exact .own a cap 0 _ sz xs e (h.mono hH) (hent _ _ he) hg hs hn hcc
 | arr cap lvl i off len sz e he hg hs hcap =>
  obtain rfl := hl _ _ _ he
  exact .arr cap 0 _ off len sz e (hent _ _ he) hg hs hcap
 | arr0 a lvl i off sz => exact .arr0 a _ _ off sz
 | garr0 a lvl i sz => exact .garr0 a _ _ sz
 | garr a cap lvl i n sz e he hg hn hcc =>
  obtain rfl := hl _ _ _ he
  exact .garr a cap 0 _ n sz e (hent _ _ he) hg hn hcc
 | ptr lvl i off e he hg =>
  obtain rfl := hl _ _ _ he
  exact .ptr 0 _ off e (hent _ _ he) hg
 | eptr lvl i j off e he hg =>
  obtain rfl := hl _ _ _ he
  exact .eptr 0 _ j off e (hent _ _ he) hg
 | win cap lvl i off len e he hg hc =>
  obtain rfl := hl _ _ _ he
  exact .win cap 0 _ off len e (hent _ _ he) hg hc
 | pel x off b o vals h1 hl' hr => exact .pel x off b o vals (fun j hj => hH.1 _ _ _ (h1 j hj)) hl' fun j hj => (hr j hj).mono hH
 | vp a x h => exact .vp a x (h.mono hH)
 | map lvl i e he hg =>
  obtain rfl := hl _ _ _ he
  exact .map 0 _ e (hent _ _ he) hg
 | func fn us vs bs cs hm hn hq hr ihq ih =>
  simp only [AV.bt, AV.bts_eq]
  exact .func fn us vs _ _ (by simpa using hm) (by simpa using hn) (fun j hj => by simpa using ihq j (by simpa using hj)) fun j hj => by simpa using ih j (by simpa using hj)
 | iface t v x h ih => exact .iface t v _ ih
 | agg vs cs hn hl' hr ih => simp only [AV.bt, AV.bts_eq]; exact .agg vs _ (by simpa using hn) (by simpa [AV.bt_leaf] using hl') fun j hj => by simpa using ih j (by simpa using hj)
 | tuple vs cs hn hr ih => simp only [AV.bt, AV.bts_eq]; exact .tuple vs _ (by simpa using hn) fun j hj => by simpa using ih j (by simpa using hj)
/-! ### 3. Blocks -/
def Blk.tr (ps : List Nat) : Blk → Option Blk
 | .cells cs => match AV.trs ps cs with | some cs => some (.cells cs) | none => none
 | b => some b
theorem BRel.tr {c c1 : Ctx} {ps : List Nat} {w : World} {e : Ent} {b b' : Blk} (hH : c.H.le c1.H) (hent : ∀ k p e, ps[k]? = some p → c.ent 0 p = some e → c1.ent 0 k = some e) (h : BRel c w e b) (hb : b.tr ps = some b') : BRel c1 w e b' := by
 cases h with
 | cells cs vs t hg hw hn hl hr =>
  simp only [Blk.tr] at hb
  split at hb
  ·rename_i cs' hcs
   injection hb with hb; subst hb
   obtain ⟨h1, h2⟩ := AV.trs_some hcs
   refine .cells cs' vs t hg hw (by omega) (fun z hz => ?_) fun j hj => (hr j (by omega)).tr hH hent _ (h2 j (by omega) hj)
   obtain ⟨j, hj, rfl⟩ := List.mem_iff_getElem.1 hz
   rw [AV.tr_leaf (h2 j (by omega) hj)]
   exact hl _ (List.getElem_mem _)
  ·cases hb
 | arr sz xs vs t hg hs hw hn hsz hl hr => simp only [Blk.tr] at hb; injection hb with hb; subst hb; exact .arr sz xs vs t hg hs hw hn hsz hl fun j hj => (hr j hj).mono hH
 | garr sz xs vs t hg hn hw hv hc hsz hl hr => simp only [Blk.tr] at hb; injection hb with hb; subst hb; exact .garr sz xs vs t hg hn hw hv hc hsz hl fun j hj => (hr j hj).mono hH
 | grow sz n vs t hg hs hn hw hv hc => simp only [Blk.tr] at hb; injection hb with hb; subst hb; exact .grow sz n vs t hg hs hn hw hv hc
 | map es ms clock hg hw hn hk hv => simp only [Blk.tr] at hb; injection hb with hb; subst hb; exact .map es ms clock hg hw hn (fun j hj => (hk j hj).mono hH) fun j hj => (hv j hj).mono hH
 | frz x vs t hg hw hv hn hl hk hr => simp only [Blk.tr] at hb; injection hb with hb; subst hb; exact .frz x vs t hg hw (hH.2.2.1 _ hv) hn hl (fun j hj => hH.1 _ _ _ (hk j hj)) fun j hj => (hr j hj).mono hH
theorem Blk.gho.tr {s : Nat} {ps : List Nat} {b b' : Blk} (h : b.gho s) (hb : b.tr ps = some b') : b'.gho s := by
 rcases h with rfl | ⟨q, hq, rfl⟩ | ⟨q, rfl⟩ | rfl <;> (simp only [Blk.tr] at hb; injection hb with hb; subst hb)
 ·exact .inl rfl
 ·exact .inr (.inl ⟨q, hq, rfl⟩)
 ·exact .inr (.inr (.inl ⟨q, rfl⟩))
 ·exact .inr (.inr (.inr rfl))
def Blk.bt (g : Nat → Nat) : Blk → Blk
 | .cells cs => .cells (AV.bts g cs)
 | b => b
theorem BRel.bt {c1 c2 : Ctx} {g : Nat → Nat} {w : World} {e : Ent} {b : Blk} (hH : c1.H.le c2.H) (hl : ∀ l i e, c1.ent l i = some e → l = 0) (hent : ∀ k e, c1.ent 0 k = some e → c2.ent 0 (g k) = some e) (h : BRel c1 w e b) : BRel c2 w e (b.bt g) := by
 cases h with
 | cells cs vs t hg hw hn hlf hr =>
  refine .cells _ vs t hg hw (by simpa [AV.bts_eq] using hn) (by simpa [AV.bts_eq, AV.bt_leaf] using hlf) fun j hj => ?_
  have := (hr j (by simpa [AV.bts_eq] using hj)).bt hH hl hent
  simpa [AV.bts_eq] using this
 | arr sz xs vs t hg hs hw hn hsz hlf hr => exact .arr sz xs vs t hg hs hw hn hsz hlf fun j hj => (hr j hj).mono hH
 | garr sz xs vs t hg hn hw hv hc hsz hlf hr => exact .garr sz xs vs t hg hn hw hv hc hsz hlf fun j hj => (hr j hj).mono hH
 | grow sz n vs t hg hs hn hw hv hc => exact .grow sz n vs t hg hs hn hw hv hc
 | map ms mms clock hg hw hn hk hv => exact .map ms mms clock hg hw hn (fun j hj => (hk j hj).mono hH) fun j hj => (hv j hj).mono hH
 | frz x vs t hg hw hv hn hlf hk hr => exact .frz x vs t hg hw (hH.2.2.1 _ hv) hn hlf (fun j hj => hH.1 _ _ _ (hk j hj)) fun j hj => (hr j hj).mono hH
theorem Blk.gho.bt {s : Nat} {g : Nat → Nat} {b : Blk} (h : b.gho s) : (b.bt g).gho s := by
 rcases h with rfl | ⟨q, hq, rfl⟩ | ⟨q, rfl⟩ | rfl
 ·exact .inl rfl
 ·exact .inr (.inl ⟨q, hq, rfl⟩)
 ·exact .inr (.inr (.inl ⟨q, rfl⟩))
 ·exact .inr (.inr (.inr rfl))
end Go.Proofs.Ytemfpemejagndaa.Fw

