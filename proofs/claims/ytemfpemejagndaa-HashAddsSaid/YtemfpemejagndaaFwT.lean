/- A call of a function to which blocks are lent, in any caller. -/
import Derived.Test.YtemfpemejagndaaFwS
set_option autoImplicit false
set_option linter.unusedVariables false
set_option linter.unusedSimpArgs false
namespace Go.Proofs.Ytemfpemejagndaa.Fw
open Go Go.RowKit

/-! ### 1. What comes back -/
def putBack {α : Type} : List Nat → List α → List α → List α
 | p :: ps, b :: bs, L => putBack ps bs (L.set p b)
 | _, _, L => L
theorem putBack_len {α : Type} : ∀ (ps : List Nat) (bs L : List α), (putBack ps bs L).length = L.length
 | [], bs, L => by cases bs <;> rfl
 | _ :: _, [], L => rfl
 | p :: ps, b :: bs, L => by simp [putBack, putBack_len ps bs]
theorem putBack_old {α : Type} : ∀ (ps : List Nat) (bs L : List α) (i : Nat), i ∉ ps → (putBack ps bs L)[i]? = L[i]?
 | [], bs, L, i, _ => by cases bs <;> rfl
 | _ :: _, [], L, i, _ => rfl
 | p :: ps, b :: bs, L, i, h => by
  simp only [List.mem_cons, not_or] at h
  rw [putBack, putBack_old ps bs _ i h.2, List.getElem?_set_ne (fun e => h.1 e.symm)]
theorem putBack_new {α : Type} : ∀ (ps : List Nat) (bs L : List α) (k p : Nat), ps.Nodup → bs.length = ps.length → (∀ q ∈ ps, q < L.length) → ps[k]? = some p → (putBack ps bs L)[p]? = bs[k]?
 | [], bs, L, k, p, _, _, _, h => by simp at h
 | _ :: _, [], L, k, p, _, h, _, _ => by simp at h
 | q :: ps, b :: bs, L, k, p, hn, hl, hp, h => by
  have hn' := List.nodup_cons.1 hn
  cases k with
  | zero =>
   simp only [List.getElem?_cons_zero, Option.some.injEq] at h
   subst h
   rw [putBack, putBack_old ps bs _ _ hn'.1, List.getElem?_set_self (hp _ (by simp))]; rfl
  | succ k =>
   rw [putBack, putBack_new ps bs _ k p hn'.2 (by simpa using hl) (fun q hq => by simpa using hp q (by simp [hq])) (by simpa using h)]; rfl
def gOf (ps : List Nat) (n k : Nat) : Nat := match ps[k]? with | some p => p | none => n + (k - ps.length)
def back {α : Type} (ps : List Nat) (X Y : List α) : List α := putBack ps (Y.take ps.length) X ++ Y.drop ps.length
theorem back_len {α : Type} (ps : List Nat) (X Y : List α) : (back ps X Y).length = X.length + (Y.length - ps.length) := by simp [back, putBack_len]
theorem back_old {α : Type} {ps : List Nat} {X Y : List α} {i : Nat} (hi : i < X.length) (h : i ∉ ps) : (back ps X Y)[i]? = X[i]? := by
 rw [back, List.getElem?_append_left (by rw [putBack_len]; exact hi), putBack_old _ _ _ _ h]
theorem back_new {α : Type} {ps : List Nat} {X Y : List α} (hn : ps.Nodup) (hp : ∀ p ∈ ps, p < X.length) (hm : ps.length ≤ Y.length) (k : Nat) : (back ps X Y)[gOf ps X.length k]? = Y[k]? := by
 unfold gOf back
 split
 ·rename_i p hk
  have hkl : k < ps.length := (List.getElem?_eq_some_iff.1 hk).1
  have := hp p (List.mem_of_getElem? hk)
  rw [List.getElem?_append_left (by rw [putBack_len]; exact this), putBack_new _ _ _ k p hn (by simp; omega) hp hk, List.getElem?_take, if_pos hkl]
 ·rename_i hk
  have hkl : ps.length ≤ k := List.getElem?_eq_none_iff.1 hk
  rw [List.getElem?_append_right (by rw [putBack_len]; omega), putBack_len, List.getElem?_drop]
  congr 1; omega
theorem back_cases {α : Type} {ps : List Nat} {X Y : List α} (hn : ps.Nodup) (hp : ∀ p ∈ ps, p < X.length) (hm : ps.length ≤ Y.length) {i : Nat} {y : α} (h : (back ps X Y)[i]? = some y) :
  (i < X.length ∧ i ∉ ps ∧ X[i]? = some y) ∨ ∃ k, i = gOf ps X.length k ∧ Y[k]? = some y := by
 by_cases hi : i < X.length
 ·by_cases hmem : i ∈ ps
  ·obtain ⟨k, hk⟩ := List.getElem?_of_mem hmem
   have hg : gOf ps X.length k = i := by unfold gOf; rw [hk]
   exact .inr ⟨k, hg.symm, by rw [← back_new (X := X) hn hp hm k, hg]; exact h⟩
  ·exact .inl ⟨hi, hmem, by rw [← back_old (Y := Y) hi hmem]; exact h⟩
 ·have hg : gOf ps X.length (ps.length + (i - X.length)) = i := by
   unfold gOf
   rw [List.getElem?_eq_none (by omega)]
   show X.length + (ps.length + (i - X.length) - ps.length) = i
   omega
  exact .inr ⟨_, hg.symm, by rw [← back_new (X := X) hn hp hm, hg]; exact h⟩
def lendK (ps0 : List Nat) (L0 : List Blk) : List Nat → Option (List Blk)
 | [] => some []
 | p :: r => match L0[p]? with
  | some b => match b.tr ps0, lendK ps0 L0 r with | some b', some bs => some (b' :: bs) | _, _ => none
  | none => none
theorem lendK_some {ps0 : List Nat} {L0 : List Blk} : ∀ {ps : List Nat} {bs : List Blk}, lendK ps0 L0 ps = some bs → bs.length = ps.length ∧ ∀ (k p : Nat), ps[k]? = some p → ∃ b b' : Blk, L0[p]? = some b ∧ b.tr ps0 = some b' ∧ bs[k]? = some b'
 | [], bs, h => by simp [lendK] at h; subst h; simp
 | p :: r, bs, h => by
  simp only [lendK] at h
  split at h
  ·rename_i b hb
   split at h
   ·rename_i b' bs' hb' hbs
    injection h with h; subst h
    obtain ⟨h1, h2⟩ := lendK_some hbs
    refine ⟨by simp [h1], fun k q hk => ?_⟩
    cases k with
    | zero => simp at hk; subst hk; exact ⟨b, b', hb, hb', rfl⟩
    | succ k => exact h2 k q (by simpa using hk)
   ·cases h
  ·cases h
def nodupB : List Nat → Bool
 | [] => true
 | p :: r => match memNat p r with | true => false | false => nodupB r
theorem memNat_iff : ∀ {n : Nat} {l : List Nat}, memNat n l = false → n ∉ l
 | n, [], _ => by simp
 | n, m :: r, h => by
  simp only [memNat] at h
  split at h
  ·cases h
  ·rename_i hb
   have : n ≠ m := fun e => by subst e; simp at hb
   simp [this, memNat_iff h]
theorem nodup_of : ∀ {l : List Nat}, nodupB l = true → l.Nodup
 | [], _ => List.nodup_nil
 | p :: r, h => by
  simp only [nodupB] at h
  split at h
  ·cases h
  ·rename_i hb; exact List.nodup_cons.2 ⟨memNat_iff hb, nodup_of h⟩
/-! ### 2. The call -/
def Out.bt (g : Nat → Nat) : Out → Out
 | .ret r => .ret ((r.bt g).lift 1)
 | .pan r => .pan ((r.bt g).lift 1)
theorem said_io {P : Program} {f : FuncId} {us args : List AV} {L0 bs : List Blk} {rest : Frs} {R1 : Out → List Blk → Prop} {R : Out → List Blk → Frs → Prop} (h : Io P f args bs R1) (ps : List Nat)
  (hps : nodupB ps = true) (ha : AV.trs ps us = some args) (hb : lendK ps L0 ps = some bs)
  (hR : ∀ o L, R1 o L → R (o.bt (gOf ps L0.length)) [] (back ps L0 (L.map (Blk.bt (gOf ps L0.length))) :: rest)) : Said P f us (L0 :: rest) R := by
 refine ⟨fun c w vs hok hB hn hr => ?_⟩
 have hnd := nodup_of hps
 obtain ⟨hbl, hbk⟩ := lendK_some hb
 obtain ⟨E0, ER, hc⟩ : ∃ E R, c.ents = E :: R := by
  have := hok.len
  cases hh : c.ents with
  | nil => rw [hh] at this; simp at this
  | cons E R => exact ⟨E, R, rfl⟩
 have hE0 : E0.length = L0.length := by have := hok.lens 0; rw [hc] at this; simpa using this
 have hpl : ∀ p ∈ ps, p < E0.length := fun p hp => by
  obtain ⟨k, hk⟩ := List.getElem?_of_mem hp
  obtain ⟨b, _, h1, _⟩ := hbk k p hk
  rw [hE0]; exact (List.getElem?_eq_some_iff.1 h1).1
 have hc0 : ∀ i, c.raw 0 i = E0[i]? := fun i => by simp [Ctx.raw, hc]
 -- the callee's view
 let E1 : List Ent := ps.map fun p => (E0[p]?).getD ⟨0, false, 0, 0, 0⟩
 let c1 : Ctx := ⟨w.heap.size, (E1.filter fun e => !e.gh).map (·.b), w, c.H, [E1]⟩
 have hE1 : ∀ k p, ps[k]? = some p → E1[k]? = E0[p]? := fun k p hk => by
  have hp := hpl p (List.mem_of_getElem? hk)
  show (ps.map fun p => (E0[p]?).getD ⟨0, false, 0, 0, 0⟩)[k]? = _
  rw [List.getElem?_map, hk, Option.map_some, List.getElem?_eq_getElem hp]; rfl
 have hc10 : ∀ k, c1.raw 0 k = E1[k]? := fun k => by simp [Ctx.raw, c1]
 have hentR : ∀ k p e, ps[k]? = some p → c.raw 0 p = some e → c1.raw 0 k = some e := fun k p e hk he => by rw [hc10, hE1 k p hk, ← hc0]; exact he
 have hent : ∀ k p e, ps[k]? = some p → c.ent 0 p = some e → c1.ent 0 k = some e := fun k p e hk he => Ctx.ent_iff.2 ⟨hentR k p e hk (Ctx.ent_iff.1 he).1, (Ctx.ent_iff.1 he).2⟩
 have hentR' : ∀ k e, c1.raw 0 k = some e → ∃ p, ps[k]? = some p ∧ c.raw 0 p = some e := fun k e he => by
  rw [hc10] at he
  have hk : k < ps.length := by simpa [E1] using (List.getElem?_eq_some_iff.1 he).1
  have hk' : ps[k]? = some ps[k] := List.getElem?_eq_getElem hk
  exact ⟨_, hk', by rw [hc0, ← hE1 _ _ hk']; exact he⟩
 have hent' : ∀ k e, c1.ent 0 k = some e → ∃ p, ps[k]? = some p ∧ c.ent 0 p = some e := fun k e he => by
  obtain ⟨q1, q2⟩ := Ctx.ent_iff.1 he
  obtain ⟨p, h1, h2⟩ := hentR' k e q1
  exact ⟨p, h1, Ctx.ent_iff.2 ⟨h2, q2⟩⟩
 have hl1R : ∀ l i e, c1.raw l i = some e → l = 0 := fun l i e he => by
  cases l with
  | zero => rfl
  | succ l => simp [Ctx.raw, c1] at he
 have hl1 : ∀ l i e, c1.ent l i = some e → l = 0 := fun l i e he => hl1R l i e (Ctx.ent_iff.1 he).1
 have hX1 : ∀ b, c1.free b → w.heap.size ≤ b ∨ ∃ k p e, ps[k]? = some p ∧ c.ent 0 p = some e ∧ e.b = b := fun b hb => by
  rcases hb with hb | hb
  ·exact .inl hb
  ·obtain ⟨e, he, rfl⟩ := List.mem_map.1 hb
   obtain ⟨he, hgh⟩ := List.mem_filter.1 he
   obtain ⟨k, hk⟩ := List.getElem?_of_mem he
   obtain ⟨p, h1, h2⟩ := hent' k e (Ctx.ent_iff.2 ⟨by rw [hc10]; exact hk, by simpa using hgh⟩)
   exact .inr ⟨k, p, e, h1, h2, rfl⟩
 have hfree : ∀ b, c1.free b → c.free b := fun b hb => by
  rcases hX1 b hb with hb | ⟨k, p, e, _, h2, rfl⟩
  ·exact .inl (Nat.le_trans hB hb)
  ·exact hok.ge _ _ _ h2
 have hE1l : E1.length = ps.length := by simp [E1]
 have hok1 : Ok c1 [bs] w := by
  refine ⟨rfl, fun l => ?_, fun l i e b he hb' => ?_, fun l i e b he hg hb' => ?_, fun l i e l' i' e' he he' hbb => ?_, fun l i e he => ?_, fun l i e he hfz => ?_, hok.mod, Kept.refl _ _, fun b hb => hok.yng b (hfree b hb)⟩
  ·cases l with
   | zero => show E1.length = bs.length; rw [hE1l, hbl]
   | succ l => rfl
  ·obtain rfl := hl1 _ _ _ he
   obtain ⟨p, hp, hep⟩ := hent' _ _ he
   obtain ⟨b0, b1, h1, h2, h3⟩ := hbk _ _ hp
   simp only [List.getElem?_cons_zero, Option.bind_some] at hb'
   rw [h3] at hb'; injection hb' with hb'; subst hb'
   have := hok.blk 0 p e b0 hep (by simpa using h1)
   rw [Ctx.drop_zero] at this ⊢
   exact BRel.tr (c := c) (c1 := c1) (Imm.le.refl _) hent this h2
  ·obtain rfl := hl1R _ _ _ he
   obtain ⟨p, hp, hep⟩ := hentR' _ _ he
   obtain ⟨b0, b1, h1, h2, h3⟩ := hbk _ _ hp
   simp only [List.getElem?_cons_zero, Option.bind_some] at hb'
   rw [h3] at hb'; injection hb' with hb'; subst hb'
   obtain ⟨h6, h5⟩ := hok.gho 0 p e b0 hep hg (by simpa using h1)
   exact ⟨h6.tr h2, h5⟩
  ·obtain rfl := hl1 _ _ _ he
   obtain rfl := hl1 _ _ _ he'
   obtain ⟨p, hp, hep⟩ := hent' _ _ he
   obtain ⟨p', hp', hep'⟩ := hent' _ _ he'
   obtain ⟨_, rfl⟩ := hok.inj _ _ _ _ _ _ hep hep' hbb
   exact ⟨rfl, (List.getElem?_inj (List.getElem?_eq_some_iff.1 hp).1 hnd).1 (hp.trans hp'.symm)⟩
  ·obtain rfl := hl1 _ _ _ he
   obtain ⟨q1, q2⟩ := Ctx.ent_iff.1 he
   rw [hc10] at q1
   exact .inr (List.mem_map.2 ⟨e, List.mem_filter.2 ⟨List.mem_of_getElem? q1, by simpa using q2⟩, rfl⟩)
  ·obtain rfl := hl1 _ _ _ he
   obtain ⟨p, hp, hep⟩ := hent' _ _ he
   exact hok.far _ _ _ hep hfz
 obtain ⟨hal, hat⟩ := AV.trs_some ha
 refine CallsX.mono (h.out c1 w vs hok1 (Nat.le_refl _) (by omega) fun j hj => VRel.tr (c := c) (c1 := c1) (Imm.le.refl _) hent (hr j (by omega)) _ (hat j (by omega) hj)) ?_
 rintro e w' ⟨o, L, c1', hR1, hsz, hout, hok', hres⟩
 obtain ⟨E1', hc1'⟩ : ∃ E, c1'.ents = [E] := by
  have := hok'.len
  match hh : c1'.ents, this with
  | [E], _ => exact ⟨E, rfl⟩
 have hc1'0 : ∀ k, c1'.raw 0 k = E1'[k]? := fun k => by simp [Ctx.raw, hc1']
 have hl1'R : ∀ l i e, c1'.raw l i = some e → l = 0 := fun l i e he => by
  cases l with
  | zero => rfl
  | succ l => simp [Ctx.raw, hc1'] at he
 have hl1' : ∀ l i e, c1'.ent l i = some e → l = 0 := fun l i e he => hl1'R l i e (Ctx.ent_iff.1 he).1
 have hE1' : E1'.length = L.length := by have := hok'.lens 0; rw [hc1'] at this; simpa using this
 have hm : ps.length ≤ E1'.length := by
  cases hpn : ps.length with
  | zero => omega
  | succ m =>
   have hlt : m < E1.length := by omega
   obtain ⟨e', he', _⟩ := hout.2 m E1[m] (by omega) (by rw [hc10]; exact List.getElem?_eq_getElem hlt)
   rw [hc1'0] at he'
   exact (List.getElem?_eq_some_iff.1 he').1
 have hfe : c1'.free = c1.free := by
  have h1 : c1'.B = c1.B := hout.1.B
  have h2 : c1'.X = c1.X := hout.1.Xe
  unfold Ctx.free; rw [h1, h2]
 have hw0 : c1'.w0 = w := hout.1.w0
 have hkept : Kept c1.free w w' := by have := hok'.below; rwa [hfe, hw0] at this
 have hext : c.H.ext c1'.H c1.free := hout.1.X
 -- the caller's view
 let g := gOf ps L0.length
 let E2 := back ps E0 E1'
 let c2 : Ctx := ⟨c.B, c.X, c.w0, c1'.H, E2 :: ER⟩
 have hc20 : ∀ i, c2.raw 0 i = E2[i]? := fun i => by simp [Ctx.raw, c2]
 have hc2s : ∀ l i, c2.raw (l + 1) i = c.raw (l + 1) i := fun l i => by simp [Ctx.raw, c2, hc]
 have hent2R : ∀ k e, c1'.raw 0 k = some e → c2.raw 0 (g k) = some e := fun k e he => by
  rw [hc20]
  have := back_new (X := E0) (Y := E1') hnd hpl hm k
  rw [hE0] at this
  rw [this, ← hc1'0]; exact he
 have hent2 : ∀ k e, c1'.ent 0 k = some e → c2.ent 0 (g k) = some e := fun k e he => Ctx.ent_iff.2 ⟨hent2R k e (Ctx.ent_iff.1 he).1, (Ctx.ent_iff.1 he).2⟩
 have hnot : ∀ l i e, c.ent l i = some e → (l = 0 → i ∉ ps) → ¬ c1.free e.b := fun l i e he hi hf => by
  rcases hX1 _ hf with hf | ⟨k, p, e', h1, h2, h3⟩
  ·have := hok.lt he; omega
  ·obtain ⟨rfl, rfl⟩ := hok.inj _ _ _ _ _ _ h2 he h3
   exact hi rfl (List.mem_of_getElem? h1)
 have hclsR : ∀ l i e, c2.raw l i = some e → (c.raw l i = some e ∧ (l = 0 → i < E0.length ∧ i ∉ ps)) ∨ (l = 0 ∧ ∃ k, i = g k ∧ c1'.raw 0 k = some e) := fun l i e he => by
  cases l with
  | zero =>
   rw [hc20] at he
   rcases back_cases hnd hpl hm he with ⟨h1, h2, h3⟩ | ⟨k, h1, h2⟩
   ·exact .inl ⟨by rw [hc0]; exact h3, fun _ => ⟨h1, h2⟩⟩
   ·exact .inr ⟨rfl, k, by rw [h1, hE0], by rw [hc1'0]; exact h2⟩
  | succ l => rw [hc2s] at he; exact .inl ⟨he, fun h => by cases h⟩
 have hcls : ∀ l i e, c2.ent l i = some e → (c.ent l i = some e ∧ (l = 0 → i < E0.length ∧ i ∉ ps)) ∨ (l = 0 ∧ ∃ k, i = g k ∧ c1'.ent 0 k = some e) := fun l i e he => by
  obtain ⟨q1, q2⟩ := Ctx.ent_iff.1 he
  rcases hclsR l i e q1 with ⟨h1, h2⟩ | ⟨h1, k, h2, h3⟩
  ·exact .inl ⟨Ctx.ent_iff.2 ⟨h1, q2⟩, h2⟩
  ·exact .inr ⟨h1, k, h2, Ctx.ent_iff.2 ⟨h3, q2⟩⟩
 have hle : c.le c2 := by
  refine ⟨rfl, rfl, rfl, hext.weak hfree, fun l i e he => ?_⟩
  cases l with
  | succ l => exact ⟨e, by rw [hc2s]; exact he, Ent.le.refl e⟩
  | zero =>
   by_cases hi : i ∈ ps
   ·obtain ⟨k, hk⟩ := List.getElem?_of_mem hi
    obtain ⟨e', h1, h2⟩ := hout.2 k e (by rw [hbl]; exact (List.getElem?_eq_some_iff.1 hk).1) (hentR k i e hk he)
    refine ⟨e', ?_, h2⟩
    have := hent2R k e' h1
    have hgk : g k = i := by show gOf ps L0.length k = i; unfold gOf; rw [hk]
    rwa [hgk] at this
   ·refine ⟨e, ?_, Ent.le.refl e⟩
    rw [hc0] at he
    rw [hc20]
    show (back ps E0 E1')[i]? = some e
    rw [back_old (List.getElem?_eq_some_iff.1 he).1 hi]; exact he
 have hLm : ps.length ≤ (L.map (Blk.bt g)).length := by rw [List.length_map, ← hE1']; exact hm
 have hpl' : ∀ p ∈ ps, p < L0.length := fun p hp => by rw [← hE0]; exact hpl p hp
 have hok2 : Ok c2 (back ps L0 (L.map (Blk.bt g)) :: rest) w' := by
  refine ⟨?_, fun l => ?_, fun l i e b he hb' => ?_, fun l i e b he hg hb' => ?_, fun l i e l' i' e' he he' hbb => ?_, fun l i e he => ?_, fun l i e he hfz => ?_, hok'.mod, ?_, fun b hb => (by have := hok.yng b hb; rw [show c2.H.base = c.H.base from hext.le.2.2.2.1]; exact this)⟩
  ·have := hok.len; rw [hc] at this; simpa [c2] using this
  ·cases l with
   | zero => show E2.length = (back ps L0 (L.map (Blk.bt g))).length; simp only [E2, back_len, List.length_map]; omega
   | succ l => have := hok.lens (l + 1); rw [hc] at this; simpa [c2] using this
  ·rcases hcls l i e he with ⟨h1, h2⟩ | ⟨rfl, k, rfl, h1⟩
   ·have hk := hkept.block e.b (hnot l i e h1 fun hl => (h2 hl).2)
    have hb0 : ((L0 :: rest)[l]?).bind (fun r => r[i]?) = some b := by
     cases l with
     | succ l => simpa using hb'
     | zero =>
      obtain ⟨q1, q2⟩ := h2 rfl
      simp only [List.getElem?_cons_zero, Option.bind_some] at hb' ⊢
      rwa [back_old (by rw [← hE0]; exact q1) q2] at hb'
    exact ((hok.blk l i e b h1 hb0).mono (hle.drop l)).keep hk
   ·simp only [List.getElem?_cons_zero, Option.bind_some] at hb'
    rw [show g k = gOf ps L0.length k from rfl, back_new hnd hpl' hLm, List.getElem?_map, Option.map_eq_some_iff] at hb'
    obtain ⟨b0, q1, rfl⟩ := hb'
    have := hok'.blk 0 k e b0 h1 (by simpa using q1)
    rw [Ctx.drop_zero] at this ⊢
    exact BRel.bt (c1 := c1') (c2 := c2) (Imm.le.refl _) hl1' hent2 this
  ·rcases hclsR l i e he with ⟨h1, h2⟩ | ⟨rfl, k, rfl, h1⟩
   ·have hb0 : ((L0 :: rest)[l]?).bind (fun r => r[i]?) = some b := by
     cases l with
     | succ l => simpa using hb'
     | zero =>
      obtain ⟨q1, q2⟩ := h2 rfl
      simp only [List.getElem?_cons_zero, Option.bind_some] at hb' ⊢
      rwa [back_old (by rw [← hE0]; exact q1) q2] at hb'
    exact hok.gho l i e b h1 hg hb0
   ·simp only [List.getElem?_cons_zero, Option.bind_some] at hb'
    rw [show g k = gOf ps L0.length k from rfl, back_new hnd hpl' hLm, List.getElem?_map, Option.map_eq_some_iff] at hb'
    obtain ⟨b0, q1, rfl⟩ := hb'
    obtain ⟨h6, h3⟩ := hok'.gho 0 k e b0 h1 hg (by simpa using q1)
    exact ⟨h6.bt, h3⟩
  ·rcases hcls l i e he with ⟨h1, h2⟩ | ⟨rfl, k, rfl, h1⟩ <;> rcases hcls l' i' e' he' with ⟨h1', h2'⟩ | ⟨rfl, k', rfl, h1'⟩
   ·exact hok.inj _ _ _ _ _ _ h1 h1' hbb
   ·exact absurd (hbb ▸ hfe ▸ hok'.ge _ _ _ h1') (hnot l i e h1 fun hl => (h2 hl).2)
   ·exact absurd (hbb ▸ hfe ▸ hok'.ge _ _ _ h1) (hnot l' i' e' h1' fun hl => (h2' hl).2)
   ·obtain ⟨_, rfl⟩ := hok'.inj _ _ _ _ _ _ h1 h1' hbb
    exact ⟨rfl, rfl⟩
  ·rcases hcls l i e he with ⟨h1, h2⟩ | ⟨rfl, k, rfl, h1⟩
   ·exact hok.ge _ _ _ h1
   ·exact hfree _ (hfe ▸ hok'.ge _ _ _ h1)
  ·rcases hcls l i e he with ⟨h1, h2⟩ | ⟨rfl, k, rfl, h1⟩
   ·have hnf := hnot l i e h1 fun hl => (h2 hl).2
    obtain ⟨f1, f2, f3⟩ := hok.far _ _ _ h1 hfz
    refine ⟨fun j v hcl => ?_, ?_, ?_⟩
    ·rcases hext.cell _ _ _ hcl with hh | hh
     ·exact f1 _ _ hh
     ·exact absurd hh hnf
    ·cases ho : c1'.H.obj e.b with
     | none => rfl
     | some q =>
      rcases hext.obj _ _ ho with hh | hh
      ·rw [f2] at hh; cases hh
      ·exact absurd hh hnf
    ·cases hv : c1'.H.var e.b with
     | false => rfl
     | true =>
      rcases hext.var _ hv with hh | hh
      ·rw [f3] at hh; cases hh
      ·exact absurd hh hnf
   ·exact hok'.far _ _ _ h1 hfz
  ·exact hok.below.trans (hkept.weak hfree)
 have hd : ({ c2 with ents := [] :: c2.ents } : Ctx).drop 1 = c2 := rfl
 refine ⟨o.bt g, [], _, { c2 with ents := [] :: c2.ents }, hR o L hR1, hsz, by rw [hd]; exact hle, hok2.frame, ?_⟩
 cases o with
 | ret r =>
  obtain ⟨v, rfl, hv⟩ := hres
  exact ⟨v, rfl, VRel.lift (c := { c2 with ents := [] :: c2.ents }) (n := 1) (VRel.bt (c1 := c1') (c2 := c2) (Imm.le.refl _) hl1' hent2 hv)⟩
 | pan r =>
  obtain ⟨v, rfl, hv⟩ := hres
  exact ⟨v, rfl, VRel.lift (c := { c2 with ents := [] :: c2.ents }) (n := 1) (VRel.bt (c1 := c1') (c2 := c2) (Imm.le.refl _) hl1' hent2 hv)⟩
end Go.Proofs.Ytemfpemejagndaa.Fw

