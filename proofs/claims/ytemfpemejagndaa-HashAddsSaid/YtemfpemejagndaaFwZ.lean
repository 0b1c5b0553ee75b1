/- Data of whatever age. -/
import Derived.Test.YtemfpemejagndaaFwY
set_option autoImplicit false
set_option linter.unusedVariables false
set_option linter.unusedSimpArgs false
namespace Go.Proofs.Ytemfpemejagndaa.Fw
open Go Go.RowKit Go.WideShapes

mutual
/-- every slice in it is of whatever age -/
def D.aged : D → D
 | .slice sz xs => .os sz (D.ageds xs)
 | .os sz xs => .os sz (D.ageds xs)
 | .agg cs => .agg (D.ageds cs)
 | .tuple cs => .tuple (D.ageds cs)
 | .ptr x => .ptr (D.aged x)
 | .func fn us cs => .func fn (D.ageds us) (D.ageds cs)
 | .iface t x => .iface t (D.aged x)
 | .map es => .map (D.agedp es)
 | x => x
def D.ageds : List D → List D
 | [] => []
 | x :: r => D.aged x :: D.ageds r
def D.agedp : List (D × D) → List (D × D)
 | [] => []
 | (x, y) :: r => (D.aged x, D.aged y) :: D.agedp r
end
theorem D.ageds_eq : ∀ l : List D, D.ageds l = l.map D.aged
 | [] => rfl
 | x :: r => by simp [D.ageds, D.ageds_eq r]
theorem D.agedp_eq : ∀ l : List (D × D), D.agedp l = l.map fun p => (p.1.aged, p.2.aged)
 | [] => rfl
 | (x, y) :: r => by simp [D.agedp, D.agedp_eq r]
theorem D.aged_leaf (x : D) : x.aged.leaf = x.leaf := by cases x <;> simp [D.aged, D.leaf]
theorem D.aged_cells (x : D) : x.aged.cells = D.ageds x.cells := by cases x <;> simp [D.aged, D.cells, D.ageds]
theorem D.aged_isAgg (x : D) : x.aged.isAgg = x.isAgg := by cases x <;> simp [D.aged, D.isAgg]
theorem ageds_len (l : List D) : (D.ageds l).length = l.length := by rw [D.ageds_eq]; simp
theorem ageds_get {l : List D} {k : Nat} {x : D} (h : l[k]? = some x) : (D.ageds l)[k]? = some x.aged := by rw [D.ageds_eq, List.getElem?_map, h]; rfl
theorem ageds_nil {l : List D} : D.ageds l = [] ↔ l = [] := by rw [D.ageds_eq]; simp
theorem ageds_flat : ∀ l : List D, flat (D.ageds l) = D.ageds (flat l)
 | [] => rfl
 | x :: r => by
  have ih := ageds_flat r
  show (D.aged x).cells ++ flat (D.ageds r) = D.ageds (x.cells ++ flat r)
  rw [ih, D.aged_cells]
  simp [D.ageds_eq]
theorem ageds_fit {ti : TI} {x : D} (h : Fit ti x) : Fit ti x.aged := by
 obtain ⟨h1, h2, h3⟩ := h
 refine ⟨by rw [D.aged_isAgg]; exact h1, by rw [D.aged_cells, ageds_len]; exact h2, fun c hc => ?_⟩
 rw [D.aged_cells, D.ageds_eq] at hc
 obtain ⟨y, hy, rfl⟩ := List.mem_map.1 hc
 rw [D.aged_leaf]; exact h3 y hy
def Imm.at (H : Imm) (n : Nat) : Imm := { H with base := n }
theorem ageds_el {l : List D} {j : Nat} (h : j < (D.ageds l).length) (h' : j < l.length) : (D.ageds l)[j] = l[j].aged := by simp [D.ageds_eq]
theorem ageds_fl {l : List D} {j : Nat} (h : j < (flat (D.ageds l)).length) (h' : j < (flat l).length) : (flat (D.ageds l))[j] = (flat l)[j].aged := by
 have e : (flat (D.ageds l))[j]? = some (flat l)[j].aged := by rw [ageds_flat]; exact ageds_get (List.getElem?_eq_getElem h')
 rw [List.getElem?_eq_getElem h] at e; injection e
theorem ageds_all {l : List D} {p : D → Prop} (h : ∀ x ∈ l, p x.aged) : ∀ x ∈ D.ageds l, p x := fun x hx => by
 rw [D.ageds_eq] at hx
 obtain ⟨y, hy, rfl⟩ := List.mem_map.1 hx
 exact h y hy
theorem DRel.aged_os {H : Imm} {a : Option Addr} {cap sz : Nat} {xs : List D} {b o : Nat} {vals : Nat → Value} (hcap : xs.length ≤ cap ∧ xs.length ≤ 9223372036854775807) (hsz : ∀ x ∈ xs, x.cells.length = sz) (ha : xs ≠ [] → a = some ⟨b, o, none⟩)
  (hH : ∀ j, j < (Fw.flat xs).length → H.cell b (o + j) = some (vals j)) (hl : ∀ c ∈ Fw.flat xs, c.leaf = true) (hr : ∀ j (h : j < (Fw.flat xs).length), DRel H (vals j) ((Fw.flat xs)[j]).aged) : DRel H (.slice a xs.length cap) (.os sz (D.ageds xs)) := by
 have := DRel.os (H := H) a cap sz (D.ageds xs) b o vals (by rw [ageds_len]; exact hcap) (ageds_all fun x hx => by rw [D.aged_cells, ageds_len]; exact hsz x hx) (fun hx => ha fun e => hx (by rw [e]; rfl))
  (fun j hj => hH j (by rw [ageds_flat, ageds_len] at hj; exact hj)) (by rw [ageds_flat]; exact ageds_all fun x hx => by rw [D.aged_leaf]; exact hl x hx) fun j hj => by
   have hj' : j < (Fw.flat xs).length := by rw [ageds_flat, ageds_len] at hj; exact hj
   rw [ageds_fl hj hj']; exact hr j hj'
 rw [ageds_len] at this; exact this
/-- what is known is known of whatever age -/
theorem DRel.age {H : Imm} (n : Nat) {v : Value} {x : D} (h : DRel H v x) : DRel (H.at n) v x.aged := by
 induction h with
 | bool b => exact .bool b
 | int k n => exact .int k n
 | str s => exact .str s
 | slice a cap sz xs b o vals hcap hsz ha hy hH hl hr ih => exact DRel.aged_os hcap hsz ha hH hl ih
 | os a cap sz xs b o vals hcap hsz ha hH hl hr ih => exact DRel.aged_os hcap hsz ha hH hl ih
 | agg vs cs hn hl hr ih =>
  refine .agg vs (D.ageds cs) (by rw [ageds_len]; exact hn) (ageds_all fun x hx => by rw [D.aged_leaf]; exact hl x hx) fun j hj => ?_
  have hj' : j < cs.length := by rw [ageds_len] at hj; exact hj
  rw [ageds_el hj hj']; exact ih j hj'
 | tuple vs cs hn hr ih =>
  refine .tuple vs (D.ageds cs) (by rw [ageds_len]; exact hn) fun j hj => ?_
  have hj' : j < cs.length := by rw [ageds_len] at hj; exact hj
  rw [ageds_el hj hj']; exact ih j hj'
 | ptr x b o vals hv hH hl hr ih =>
  have e := D.aged_cells x
  refine .ptr x.aged b o vals hv (fun j hj => hH j (by rw [e, ageds_len] at hj; exact hj)) (by rw [e]; exact ageds_all fun y hy => by rw [D.aged_leaf]; exact hl y hy) fun j hj => ?_
  have hj' : j < x.cells.length := by rw [e, ageds_len] at hj; exact hj
  have : x.aged.cells[j] = (x.cells[j]).aged := by simp [e, D.ageds_eq]
  rw [this]; exact ih j hj'
 | nilptr => exact .nilptr
 | func fn us vs bs cs hm hn hq hr ihq ih =>
  refine .func fn us vs (D.ageds bs) (D.ageds cs) (by rw [ageds_len]; exact hm) (by rw [ageds_len]; exact hn) (fun j hj => ?_) fun j hj => ?_
  ·have hj' : j < bs.length := by rw [ageds_len] at hj; exact hj
   rw [ageds_el hj hj']; exact ihq j hj'
  ·have hj' : j < cs.length := by rw [ageds_len] at hj; exact hj
   rw [ageds_el hj hj']; exact ih j hj'
 | nilfunc => exact .nilfunc
 | iface t v x h ih => exact .iface t v _ ih
 | nilIface => exact .nilIface
 | nilmap => exact .nilmap
 | map b es clock kv hn hH hk hv ihk ihv =>
  have e := D.agedp_eq kv
  refine .map b es clock (D.agedp kv) (by rw [e]; simpa using hn) hH (fun j hj => ?_) fun j hj => ?_
  ·have hj' : j < kv.length := by rw [e] at hj; simpa using hj
   have : (D.agedp kv)[j].1 = kv[j].1.aged := by simp [e]
   rw [this]; exact ihk j hj'
  ·have hj' : j < kv.length := by rw [e] at hj; simpa using hj
   have : (D.agedp kv)[j].2 = kv[j].2.aged := by simp [e]
   rw [this]; exact ihv j hj'
theorem DRel.back_os {H : Imm} {a : Option Addr} {cap sz : Nat} {xs ys : List D} {b o : Nat} {vals : Nat → Value} (hcap : ys.length ≤ cap ∧ ys.length ≤ 9223372036854775807) (hsz : ∀ x ∈ ys, x.cells.length = sz) (ha : ys ≠ [] → a = some ⟨b, o, none⟩)
  (hH : ∀ j, j < (Fw.flat ys).length → H.cell b (o + j) = some (vals j)) (hl : ∀ c ∈ Fw.flat ys, c.leaf = true) (hr : ∀ j (h : j < (Fw.flat ys).length), ∀ x, (Fw.flat ys)[j] = x ∨ (Fw.flat ys)[j] = x.aged → DRel (H.at 0) (vals j) x)
  (he : ys = xs ∨ ys = D.ageds xs) : DRel (H.at 0) (.slice a ys.length cap) (.slice sz xs) := by
 rcases he with rfl | rfl
 ·exact .slice a cap sz ys b o vals hcap hsz ha (fun _ => ⟨Nat.zero_le _, fun h => absurd h (Nat.lt_irrefl 0)⟩) hH hl fun j hj => hr j hj _ (.inl rfl)
 ·have hsz' : ∀ x ∈ xs, x.cells.length = sz := fun x hx => by
   have := hsz x.aged (by rw [D.ageds_eq]; exact List.mem_map.2 ⟨x, hx, rfl⟩)
   rw [D.aged_cells, ageds_len] at this; exact this
  have hl' : ∀ c ∈ Fw.flat xs, c.leaf = true := fun c hc => by
   have := hl c.aged (by rw [ageds_flat, D.ageds_eq]; exact List.mem_map.2 ⟨c, hc, rfl⟩)
   rw [D.aged_leaf] at this; exact this
  have hfl : (Fw.flat (D.ageds xs)).length = (Fw.flat xs).length := by rw [ageds_flat, ageds_len]
  have := DRel.slice (H := H.at 0) a cap sz xs b o vals (by rw [ageds_len] at hcap; exact hcap) hsz' (fun hx => ha fun e => hx (by cases xs with | nil => rfl | cons => simp [D.ageds] at e)) (fun _ => ⟨Nat.zero_le _, fun h => absurd h (Nat.lt_irrefl 0)⟩)
   (fun j hj => hH j (by rw [hfl]; exact hj)) hl' fun j hj => hr j (by rw [hfl]; exact hj) _ (.inr (ageds_fl (by rw [hfl]; exact hj) hj))
  rw [ageds_len]; exact this
theorem DRel.back_os' {H : Imm} {a : Option Addr} {cap sz : Nat} {xs ys : List D} {b o : Nat} {vals : Nat → Value} (hcap : ys.length ≤ cap ∧ ys.length ≤ 9223372036854775807) (hsz : ∀ x ∈ ys, x.cells.length = sz) (ha : ys ≠ [] → a = some ⟨b, o, none⟩)
  (hH : ∀ j, j < (Fw.flat ys).length → H.cell b (o + j) = some (vals j)) (hl : ∀ c ∈ Fw.flat ys, c.leaf = true) (hr : ∀ j (h : j < (Fw.flat ys).length), ∀ x, (Fw.flat ys)[j] = x ∨ (Fw.flat ys)[j] = x.aged → DRel (H.at 0) (vals j) x)
  (he : ys = xs ∨ ys = D.ageds xs) : DRel (H.at 0) (.slice a ys.length cap) (.os sz xs) := (DRel.back_os hcap hsz ha hH hl hr he).toOs
theorem ageds_cases {cs ds : List D} (he : cs = ds ∨ cs = D.ageds ds) : cs.length = ds.length ∧ ∀ j (h : j < cs.length) (h' : j < ds.length), cs[j] = ds[j] ∨ cs[j] = ds[j].aged := by
 rcases he with rfl | rfl
 ·exact ⟨rfl, fun j _ _ => .inl rfl⟩
 ·exact ⟨ageds_len _, fun j h h' => .inr (ageds_el h h')⟩
theorem leaf_cases {cs ds : List D} (he : cs = ds ∨ cs = D.ageds ds) (hl : ∀ c ∈ cs, c.leaf = true) : ∀ c ∈ ds, c.leaf = true := by
 rcases he with rfl | rfl
 ·exact hl
 ·intro c hc
  have := hl c.aged (by rw [D.ageds_eq]; exact List.mem_map.2 ⟨c, hc, rfl⟩)
  rw [D.aged_leaf] at this; exact this
/-- back to base 0: no age is asked there -/
theorem DRel.back {H : Imm} {v : Value} {y : D} (h : DRel H v y) : ∀ x : D, y = x ∨ y = x.aged → DRel (H.at 0) v x := by
 induction h with
 | bool b => intro x hx; cases x <;> simp [D.aged] at hx; subst hx; exact .bool _
 | int k n => intro x hx; cases x <;> simp [D.aged] at hx; obtain ⟨rfl, rfl⟩ := hx; exact .int _ _
 | str s => intro x hx; cases x <;> simp [D.aged] at hx; subst hx; exact .str _
 | slice a cap sz xs b o vals hcap hsz ha hy hH hl hr ih =>
  intro x hx
  cases x <;> simp [D.aged] at hx
  obtain ⟨rfl, rfl⟩ := hx
  exact DRel.back_os hcap hsz ha hH hl ih (.inl rfl)
 | os a cap sz xs b o vals hcap hsz ha hH hl hr ih =>
  intro x hx
  cases x with
  | slice sz' xs' =>
   simp [D.aged] at hx
   obtain ⟨rfl, he⟩ := hx
   exact DRel.back_os hcap hsz ha hH hl ih (.inr he)
  | os sz' xs' =>
   simp [D.aged] at hx
   have : sz = sz' ∧ (xs = xs' ∨ xs = D.ageds xs') := by
    rcases hx with hx | hx
    ·exact ⟨hx.1, .inl hx.2⟩
    ·exact ⟨hx.1, .inr hx.2⟩
   obtain ⟨rfl, he⟩ := this
   exact DRel.back_os' hcap hsz ha hH hl ih he
  | _ => simp [D.aged] at hx
 | agg vs cs hn hl hr ih =>
  intro x hx
  cases x <;> simp [D.aged] at hx
  obtain ⟨h1, h2⟩ := ageds_cases hx
  exact .agg vs _ (hn.trans h1) (leaf_cases hx hl) fun j hj => ih j (by omega) _ (h2 j (by omega) hj)
 | tuple vs cs hn hr ih =>
  intro x hx
  cases x <;> simp [D.aged] at hx
  obtain ⟨h1, h2⟩ := ageds_cases hx
  exact .tuple vs _ (hn.trans h1) fun j hj => ih j (by omega) _ (h2 j (by omega) hj)
 | ptr x b o vals hv hH hl hr ih =>
  intro z hx
  cases z <;> simp [D.aged] at hx
  rename_i z
  have he : x.cells = z.cells ∨ x.cells = D.ageds z.cells := hx.imp (fun e => by rw [e]) fun e => by rw [e, D.aged_cells]
  obtain ⟨h1, h2⟩ := ageds_cases he
  exact .ptr z b o vals hv (fun j hj => hH j (by omega)) (leaf_cases he hl) fun j hj => ih j (by omega) _ (h2 j (by omega) hj)
 | nilptr => intro x hx; cases x <;> simp [D.aged] at hx; exact .nilptr
 | func fn us vs bs cs hm hn hq hr ihq ih =>
  intro x hx
  cases x <;> simp [D.aged] at hx
  rename_i fn' bs' cs'
  have : fn = fn' ∧ (bs = bs' ∨ bs = D.ageds bs') ∧ (cs = cs' ∨ cs = D.ageds cs') := by
   rcases hx with hx | hx
   ·exact ⟨hx.1, .inl hx.2.1, .inl hx.2.2⟩
   ·exact ⟨hx.1, .inr hx.2.1, .inr hx.2.2⟩
  obtain ⟨rfl, e1, e2⟩ := this
  obtain ⟨a1, a2⟩ := ageds_cases e1
  obtain ⟨b1, b2⟩ := ageds_cases e2
  exact .func fn us vs _ _ (hm.trans a1) (hn.trans b1) (fun j hj => ihq j (by omega) _ (a2 j (by omega) hj)) fun j hj => ih j (by omega) _ (b2 j (by omega) hj)
 | nilfunc => intro x hx; cases x <;> simp [D.aged] at hx; exact .nilfunc
 | iface t v x h ih =>
  intro z hx
  cases z <;> simp [D.aged] at hx
  rcases hx with ⟨rfl, hx⟩ | ⟨rfl, hx⟩
  ·exact .iface t v _ (ih _ (.inl hx))
  ·exact .iface t v _ (ih _ (.inr hx))
 | nilIface => intro x hx; cases x <;> simp [D.aged] at hx; exact .nilIface
 | nilmap => intro x hx; cases x <;> simp [D.aged] at hx; exact .nilmap
 | map b es clock kv hn hH hk hv ihk ihv =>
  intro z hx
  cases z <;> simp [D.aged] at hx
  rename_i kv'
  have h1 : kv.length = kv'.length := by
   rcases hx with rfl | rfl
   ·rfl
   ·rw [D.agedp_eq]; simp
  have h2 : ∀ j (h : j < kv.length) (h' : j < kv'.length), (kv[j].1 = kv'[j].1 ∨ kv[j].1 = kv'[j].1.aged) ∧ (kv[j].2 = kv'[j].2 ∨ kv[j].2 = kv'[j].2.aged) := by
   rcases hx with rfl | rfl
   ·exact fun j _ _ => ⟨.inl rfl, .inl rfl⟩
   ·intro j h h'
    simp [D.agedp_eq]
  exact .map b es clock kv' (hn.trans h1) hH (fun j hj => ihk j (by omega) _ (h2 j (by omega) hj).1) fun j hj => ihv j (by omega) _ (h2 j (by omega) hj).2
section
variable {T : TT} {P : Program} {N : Nat} {ds : Fix} {c : Ctx} {s : Env} {fr : Frs} {a : Act} {w : World}
/-- data, or the same of whatever age -/
def Ages : List D → List D → Prop
 | [], [] => True
 | y :: ys, x :: xs => (y = x ∨ y = x.aged) ∧ Ages ys xs
 | _, _ => False
theorem Ages.spec : ∀ {ys xs : List D}, Ages ys xs → ys.length = xs.length ∧ ∀ j (h : j < ys.length) (h' : j < xs.length), ys[j] = xs[j] ∨ ys[j] = xs[j].aged
 | [], [], _ => ⟨rfl, fun j h => by simp at h⟩
 | y :: ys, x :: xs, h => by
  obtain ⟨h1, h2⟩ := Ages.spec h.2
  refine ⟨by simp [h1], fun j hj hj' => ?_⟩
  cases j with
  | zero => exact h.1
  | succ j => exact h2 j (by simpa using hj) (by simpa using hj')
 | [], _ :: _, h => h.elim
 | _ :: _, [], h => h.elim
theorem Models.at {H : Imm} (h : Models w H) (n : Nat) : Models w (H.at n) := h
/-- a call that hands out nothing of the heap may be handed what is of whatever age -/
theorem said_aged {f : FuncId} {xs ys : List D} {us : List AV} {r : D} {R : Out → List Blk → Frs → Prop} (h : Pure P f xs r) (hu : pures us = some ys) (ha : Ages ys xs) (hf : D.flatB r = true) (hR : R (.ret (.d r)) [] fr) : Said P f us fr R := by
 obtain ⟨k1, k2⟩ := pures_some hu
 obtain ⟨k3, k4⟩ := ha.spec
 refine ⟨fun c w vs hok hB hn hr => ?_⟩
 have hd : ∀ j (hj : j < xs.length), DRel (c.H.at 0) (vs.getD j default) xs[j] := fun j hj => ((hr j (by omega)).pure _ (k2 j (by omega) (by omega))).back _ (k4 j (by omega) hj)
 refine CallsX.mono (h.out (c.H.at 0) w vs (hok.mod.at 0) (Nat.zero_le _) (by omega) hd) ?_
 rintro e w' ⟨v, H', rfl, hx, hm, hv, hb⟩
 refine ⟨.ret (.d r), [], fr, { c with H := c.H, ents := [] :: c.ents }, hR, hb.size, ?_, (hok.calls hb hB (Imm.ext.refl _ _) (hok.mod.below hb)).frame, v, rfl, .d _ _ (hv.flat hf)⟩
 show c.le { c with H := c.H }
 exact Ctx.le.refl c
end
end Go.Proofs.Ytemfpemejagndaa.Fw

