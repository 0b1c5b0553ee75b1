/- A call's end: what it hands out comes into the caller's frame. -/
import Derived.Test.YtemfpemejagndaaFwD
set_option autoImplicit false
set_option linter.unusedVariables false
set_option linter.unusedSimpArgs false
namespace Go.Proofs.Ytemfpemejagndaa.Fw
open Go Go.RowKit Go.WideShapes

section
variable {P : Program} {c : Ctx} {w : World}

def Ctx.merge (c : Ctx) : Ctx := match c.ents with
 | es :: L :: R => { c with ents := (L ++ es) :: R }
 | _ => c
theorem Ctx.merge_raw {es L : List Ent} {R : List (List Ent)} (h : c.ents = es :: L :: R) :
  (∀ i e, c.raw 0 i = some e → c.merge.raw 0 (L.length + i) = some e) ∧ (∀ l i e, c.raw (l + 1) i = some e → c.merge.raw l i = some e) ∧
  (∀ i e, c.merge.raw 0 i = some e → (i < L.length ∧ c.raw 1 i = some e) ∨ (L.length ≤ i ∧ c.raw 0 (i - L.length) = some e)) ∧ (∀ l i, c.merge.raw (l + 1) i = c.raw (l + 2) i) := by
 have hm : c.merge = { c with ents := (L ++ es) :: R } := by unfold Ctx.merge; rw [h]
 rw [hm]
 refine ⟨fun i e he => ?_, fun l i e he => ?_, fun i e he => ?_, fun l i => ?_⟩
 ·simp [Ctx.raw, h] at he ⊢
  rw [List.getElem?_append_right (by omega), Nat.add_sub_cancel_left]
  exact he
 ·cases l with
  | zero =>
   simp only [Ctx.raw, h] at he ⊢
   simp at he ⊢
   have hlt := (List.getElem?_eq_some_iff.1 he).1
   rw [List.getElem?_append_left hlt]; exact he
  | succ l => simpa [Ctx.raw, h] using he
 ·simp only [Ctx.raw, h] at he ⊢
  simp at he ⊢
  rcases Nat.lt_or_ge i L.length with hi | hi
  ·rw [List.getElem?_append_left hi] at he; exact .inl ⟨hi, he⟩
  ·rw [List.getElem?_append_right hi] at he; exact .inr ⟨hi, he⟩
 ·simp [Ctx.raw, h]
theorem Ctx.merge_ent {es L : List Ent} {R : List (List Ent)} (h : c.ents = es :: L :: R) :
  (∀ i e, c.ent 0 i = some e → c.merge.ent 0 (L.length + i) = some e) ∧ (∀ l i e, c.ent (l + 1) i = some e → c.merge.ent l i = some e) ∧
  (∀ i e, c.merge.ent 0 i = some e → (i < L.length ∧ c.ent 1 i = some e) ∨ (L.length ≤ i ∧ c.ent 0 (i - L.length) = some e)) ∧ (∀ l i, c.merge.ent (l + 1) i = c.ent (l + 2) i) := by
 obtain ⟨m0, m1, m2, m3⟩ := Ctx.merge_raw h
 refine ⟨fun i e he => ?_, fun l i e he => ?_, fun i e he => ?_, fun l i => ?_⟩
 ·obtain ⟨q1, q2⟩ := Ctx.ent_iff.1 he; exact Ctx.ent_iff.2 ⟨m0 _ _ q1, q2⟩
 ·obtain ⟨q1, q2⟩ := Ctx.ent_iff.1 he; exact Ctx.ent_iff.2 ⟨m1 _ _ _ q1, q2⟩
 ·obtain ⟨q1, q2⟩ := Ctx.ent_iff.1 he
  exact (m2 _ _ q1).imp (fun h => ⟨h.1, Ctx.ent_iff.2 ⟨h.2, q2⟩⟩) fun h => ⟨h.1, Ctx.ent_iff.2 ⟨h.2, q2⟩⟩
 ·unfold Ctx.ent; rw [m3]
theorem VRel.mg {es L : List Ent} {R : List (List Ent)} (hc : c.ents = es :: L :: R) {v : Value} {x : AV} (h : VRel c v x) : VRel c.merge v (x.mg L.length) := by
 obtain ⟨m0, m1, _, _⟩ := Ctx.merge_ent hc
 have hH : c.merge.H = c.H := by unfold Ctx.merge; rw [hc]
 induction h with
 | undef v => exact .undef v
 | d v x h => exact .d v x (by rw [hH]; exact h)
 | nil sz => exact .nil sz
 | own0 a lvl i sz => cases lvl <;> exact .own0 a _ _ sz
 | full a sz xs h => exact .full a sz xs (by rw [hH]; exact h)
 | own a cap lvl i sz xs e h he hg hs hn hcc =>
  cases lvl with
  | zero => exact .own a cap 0 _ sz xs e (by rw [hH]; exact h) (m0 _ _ he) hg hs hn hcc
  | succ l => exact .own a cap l _ sz xs e (by rw [hH]; exact h) (m1 _ _ _ he) hg hs hn hcc
 | arr cap lvl i off len sz e he hg hs hcap =>
  cases lvl with
  | zero => exact .arr cap 0 _ off len sz e (m0 _ _ he) hg hs hcap
  | succ l => exact .arr cap l _ off len sz e (m1 _ _ _ he) hg hs hcap
 | arr0 a lvl i off sz => cases lvl <;> exact .arr0 a _ _ off sz
 | garr0 a lvl i sz => cases lvl <;> exact .garr0 a _ _ sz
 | garr a cap lvl i n sz e he hg hn hcc =>
  cases lvl with
  | zero => exact .garr a cap 0 _ n sz e (m0 _ _ he) hg hn hcc
  | succ l => exact .garr a cap l _ n sz e (m1 _ _ _ he) hg hn hcc
 | ptr lvl i off e he hg =>
  cases lvl with
  | zero => exact .ptr 0 _ off e (m0 _ _ he) hg
  | succ l => exact .ptr l _ off e (m1 _ _ _ he) hg
 | eptr lvl i k off e he hg =>
  cases lvl with
  | zero => exact .eptr 0 _ k off e (m0 _ _ he) hg
  | succ l => exact .eptr l _ k off e (m1 _ _ _ he) hg
 | win cap lvl i off len e he hg hc =>
  cases lvl with
  | zero => exact .win cap 0 _ off len e (m0 _ _ he) hg hc
  | succ l => exact .win cap l _ off len e (m1 _ _ _ he) hg hc
 | pel x off b o vals h1 hl hr => exact .pel x off b o vals (by rw [hH]; exact h1) hl (by rw [hH]; exact hr)
 | vp a x h => exact .vp a x (by rw [hH]; exact h)
 | map lvl i e he hg =>
  cases lvl with
  | zero => exact .map 0 _ e (m0 _ _ he) hg
  | succ l => exact .map l _ e (m1 _ _ _ he) hg
 | func fn us vs bs cs hm hn hq hr ihq ih => simp only [AV.mg, AV.mgs_eq]; exact .func fn us vs _ _ (by simpa using hm) (by simpa using hn) (fun j hj => by simpa using ihq j (by simpa using hj)) fun j hj => by simpa using ih j (by simpa using hj)
 | iface t v x h ih => exact .iface t v _ ih
 | agg vs cs hn hl hr ih => simp only [AV.mg, AV.mgs_eq]; exact .agg vs _ (by simpa using hn) (by simpa [AV.mg_leaf] using hl) fun j hj => by simpa using ih j (by simpa using hj)
 | tuple vs cs hn hr ih => simp only [AV.mg, AV.mgs_eq]; exact .tuple vs _ (by simpa using hn) fun j hj => by simpa using ih j (by simpa using hj)
theorem BRel.mg {es L : List Ent} {R : List (List Ent)} (hc : c.ents = es :: L :: R) {e : Ent} {b : Blk} (h : BRel c w e b) : BRel c.merge w e (b.mg L.length) := by
 have hH : c.merge.H = c.H := by unfold Ctx.merge; rw [hc]
 cases h with
 | frz x vs t hg h1 hv hn hl hk hr => exact .frz x vs t hg h1 (by rw [hH]; exact hv) hn hl (by rw [hH]; exact hk) (by rw [hH]; exact hr)
 | cells cs vs t hg h1 hn hl hr =>
  refine .cells _ vs t hg h1 (by simpa [AV.mgs_eq] using hn) (by simpa [AV.mgs_eq, AV.mg_leaf] using hl) fun j hj => ?_
  have := (hr j (by simpa [AV.mgs_eq] using hj)).mg hc
  simpa [AV.mgs_eq] using this
 | arr sz xs vs t hg hs h1 hn hsz hl hr => exact .arr sz xs vs t hg hs h1 hn hsz hl (by rw [hH]; exact hr)
 | grow sz n vs t hg hs hn h1 hv hcap => exact .grow sz n vs t hg hs hn h1 hv hcap
 | garr sz xs vs t hg hn h1 hv hc hsz hl hr => exact .garr sz xs vs t hg hn h1 hv hc hsz hl (by rw [hH]; exact hr)
 | map ms mms clock hg h1 hn hk hv => exact .map ms mms clock hg h1 hn (by rw [hH]; exact hk) (by rw [hH]; exact hv)
theorem Ok.merge {ls l : List Blk} {r : Frs} (h : Ok c (ls :: l :: r) w) : ∃ es L R, c.ents = es :: L :: R ∧ L.length = l.length ∧ Ok c.merge ((l ++ ls.map (Blk.mg l.length)) :: r) w ∧ (c.drop 1).le c.merge := by
 obtain ⟨es, L, R, hc⟩ : ∃ es L R, c.ents = es :: L :: R := by
  have := h.len
  cases hh : c.ents with
  | nil => rw [hh] at this; simp at this
  | cons a l =>
   cases l with
   | nil => rw [hh] at this; simp at this
   | cons b l => exact ⟨a, b, l, rfl⟩
 have hm : c.merge = { c with ents := (L ++ es) :: R } := by unfold Ctx.merge; rw [hc]
 have hB : c.merge.B = c.B := by rw [hm]
 have hXe : c.merge.X = c.X := by rw [hm]
 have hfe : c.merge.free = c.free := by unfold Ctx.free; rw [hB, hXe]
 have hH : c.merge.H = c.H := by rw [hm]
 have hw0 : c.merge.w0 = c.w0 := by rw [hm]
 have h0 : es.length = ls.length := by have := h.lens 0; rw [hc] at this; simpa using this
 have h1 : L.length = l.length := by have := h.lens 1; rw [hc] at this; simpa using this
 obtain ⟨m0, m1, m2, m3⟩ := Ctx.merge_ent hc
 have hle : (c.drop 1).le c.merge := ⟨hB, hXe, hw0, by rw [hH]; exact Imm.ext.refl _ _, fun l i e he => by
  rw [Ctx.raw_drop] at he; exact ⟨e, (Ctx.merge_raw hc).2.1 l i e (by rw [Nat.add_comm]; exact he), Ent.le.refl e⟩⟩
 refine ⟨es, L, R, hc, h1, ⟨?_, fun k => ?_, fun k i e b he hb => ?_, fun k i e b he hg hb => ?_, fun k i e k' i' e' he he' hbb => ?_, fun k i e he => ?_, fun k i e he hfz => ?_, by rw [hH]; exact h.mod, by rw [hfe, hw0]; exact h.below, by rw [hfe, hH]; exact h.yng⟩, hle⟩
 ·have := h.len; rw [hc] at this; rw [hm]; simpa using this
 ·rw [hm]
  cases k with
  | zero => simp [h0, h1]
  | succ k => have := h.lens (k + 2); rw [hc] at this; simpa using this
 ·cases k with
  | zero =>
   rw [Ctx.drop_zero]
   simp only [List.getElem?_cons_zero, Option.bind_some] at hb
   rcases m2 i e he with ⟨hi, he1⟩ | ⟨hi, he0⟩
   ·rw [List.getElem?_append_left (by omega)] at hb
    exact (h.blk 1 i e b he1 (by simpa using hb)).mono hle
   ·rw [List.getElem?_append_right (by omega), List.getElem?_map, Option.map_eq_some_iff] at hb
    obtain ⟨b', hb', rfl⟩ := hb
    have := h.blk 0 (i - L.length) e b' he0 (by rw [h1]; simpa using hb')
    rw [Ctx.drop_zero] at this
    rw [← h1]; exact this.mg hc
  | succ k =>
   rw [m3] at he
   have := h.blk (k + 2) i e b he (by simpa using hb)
   have hd : c.drop (k + 2) = c.merge.drop (k + 1) := by rw [hm]; simp [Ctx.drop, hc]
   rw [← hd]; exact this
 ·obtain ⟨r0, r1, r2, r3⟩ := Ctx.merge_raw hc
  cases k with
  | zero =>
   simp only [List.getElem?_cons_zero, Option.bind_some] at hb
   rcases r2 i e he with ⟨hi, he1⟩ | ⟨hi, he0⟩
   ·rw [List.getElem?_append_left (by omega)] at hb
    exact h.gho 1 i e b he1 hg (by simpa using hb)
   ·rw [List.getElem?_append_right (by omega), List.getElem?_map, Option.map_eq_some_iff] at hb
    obtain ⟨b', hb', rfl⟩ := hb
    obtain ⟨h3, h2⟩ := h.gho 0 (i - L.length) e b' he0 hg (by rw [h1]; simpa using hb')
    refine ⟨?_, h2⟩
    rcases h3 with rfl | ⟨q, hq, rfl⟩ | ⟨q, rfl⟩ | rfl
    ·exact .inl rfl
    ·exact .inr (.inl ⟨q, hq, rfl⟩)
    ·exact .inr (.inr (.inl ⟨q, rfl⟩))
    ·exact .inr (.inr (.inr rfl))
  | succ k =>
   rw [r3] at he
   exact h.gho (k + 2) i e b he hg (by simpa using hb)
 ·have key : ∀ k i e, c.merge.ent k i = some e → ∃ k0 i0, c.ent k0 i0 = some e ∧ ((k = 0 ∧ i < L.length ∧ k0 = 1 ∧ i0 = i) ∨ (k = 0 ∧ L.length ≤ i ∧ k0 = 0 ∧ i0 = i - L.length) ∨ (1 ≤ k ∧ k0 = k + 1 ∧ i0 = i)) := by
   intro k i e he
   cases k with
   | zero =>
    rcases m2 i e he with ⟨hi, he1⟩ | ⟨hi, he0⟩
    ·exact ⟨1, i, he1, .inl ⟨rfl, hi, rfl, rfl⟩⟩
    ·exact ⟨0, i - L.length, he0, .inr (.inl ⟨rfl, hi, rfl, rfl⟩)⟩
   | succ k => rw [m3] at he; exact ⟨k + 2, i, he, .inr (.inr ⟨by omega, rfl, rfl⟩)⟩
  obtain ⟨p, q, hp, hpp⟩ := key k i e he
  obtain ⟨p', q', hp', hpp'⟩ := key k' i' e' he'
  obtain ⟨r1, r2⟩ := h.inj _ _ _ _ _ _ hp hp' hbb
  omega
 ·rw [hfe]
  cases k with
  | zero =>
   rcases m2 i e he with ⟨hi, he1⟩ | ⟨hi, he0⟩
   ·exact h.ge _ _ _ he1
   ·exact h.ge _ _ _ he0
  | succ k => rw [m3] at he; exact h.ge _ _ _ he
 ·rw [hH]
  cases k with
  | zero =>
   rcases m2 i e he with ⟨hi, he1⟩ | ⟨hi, he0⟩
   ·exact h.far _ _ _ he1 hfz
   ·exact h.far _ _ _ he0 hfz
  | succ k => rw [m3] at he; exact h.far _ _ _ he hfz
/-- The call's end, for the caller. -/
theorem s_merge {c c' : Ctx} {ls : List Blk} {fr' : Frs} {w' : World} {v : Value} {r : AV} (hle : c.le (c'.drop 1)) (hok : Ok c' (ls :: fr') w') (hv : VRel c' v r) {K : AV → Frs → Prop} (h : mergeK ls fr' r K) :
  ∃ c'' fr'' r', K r' fr'' ∧ c.le c'' ∧ Ok c'' fr'' w' ∧ VRel c'' v r' := by
 cases fr' with
 | nil => exact h.elim
 | cons l rest =>
  obtain ⟨es, L, R, hc, hL, h1, h2⟩ := hok.merge
  have h3 := hv.mg hc
  rw [hL] at h3
  refine ⟨c'.merge, (l ++ ls.map (Blk.mg l.length)) :: rest, r.mg l.length, ?_, hle.trans h2, h1, h3⟩
  cases ls with
  | nil => simpa [mergeK] using h
  | cons b ls => exact h
end
end Go.Proofs.Ytemfpemejagndaa.Fw

