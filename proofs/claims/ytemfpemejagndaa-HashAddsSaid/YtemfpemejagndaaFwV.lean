/- What a function to which blocks are lent hands back. -/
import Derived.Test.YtemfpemejagndaaFwU
set_option autoImplicit false
set_option linter.unusedVariables false
set_option linter.unusedSimpArgs false
namespace Go.Proofs.Ytemfpemejagndaa.Fw
open Go Go.RowKit

/-- as data: what it refers to is not handed back as a block -/
def Selu (qs : List Nat) (L : List Blk) : AV → D → Prop
 | .d x, y => x = y
 | .nil sz, y => .slice sz [] = y
 | .full sz xs, y => .slice sz xs = y
 | .own _ _ sz xs, y => .slice sz xs = y
 | .arr 0 i 0 len sz, y => memNat i qs = false ∧ ∃ xs, L[i]? = some (.arr sz xs) ∧ len = xs.length ∧ .slice sz xs = y
 | .garr 0 i len sz, y => memNat i qs = false ∧ ∃ xs, L[i]? = some (.garr sz xs) ∧ len = xs.length ∧ .slice sz xs = y
 | .ptr 0 i 0, y => match L[i]? with
  | some (.frz x) => .ptr x = y
  | _ => memNat i qs = false ∧ ∃ cs ds x, L[i]? = some (.cells cs) ∧ pures cs = some ds ∧ x.cells = ds ∧ .ptr x = y
 | .map 0 i, y => memNat i qs = false ∧ ∃ es, L[i]? = some (.map es) ∧ .map es = y
 | .agg cs, .agg ds => SeluL qs L cs ds
 | .tuple cs, .tuple ds => SeluL qs L cs ds
 | .func fn us cs, y => match pures us, pures cs with | some us, some cs => .func fn us cs = y | _, _ => False
 | .iface t x, .iface u y => t = u ∧ Selu qs L x y
 | _, _ => False
 where SeluL (qs : List Nat) (L : List Blk) : List AV → List D → Prop
 | [], [] => True
 | x :: xs, y :: ys => Selu qs L x y ∧ SeluL qs L xs ys
 | _, _ => False
/-- no block that is only appended to -/
def ngar (L : List Blk) (i : Nat) : Bool := match L[i]? with | some (.garr _ _) => false | _ => true
/-- the entry of what was only appended to: a made slice now -/
def Ent.fixd (L : List Blk) (q : Nat) (e : Ent) : Ent := match L[q]? with
 | some (.garr sz _) => match e.gh with | true => e | false => { e with g := false, sz := sz, n := 0 }
 | _ => e
theorem Ent.fixd_b (L : List Blk) (q : Nat) (e : Ent) : (e.fixd L q).b = e.b := by
 unfold Ent.fixd; split
 ·split <;> rfl
 ·rfl
theorem Ent.fixd_gh (L : List Blk) (q : Nat) (e : Ent) : (e.fixd L q).gh = e.gh := by
 unfold Ent.fixd; split
 ·split
  ·rfl
  ·rename_i h; rw [h]; rfl
 ·rfl
theorem Ent.fixd_ng {L : List Blk} {q : Nat} (e : Ent) (h : ngar L q = true) : e.fixd L q = e := by
 unfold Ent.fixd; unfold ngar at h
 split
 ·rename_i hh; rw [hh] at h; cases h
 ·rfl
theorem Ent.fixd_garr {L : List Blk} {q sz : Nat} {xs : List D} {e : Ent} (h : L[q]? = some (.garr sz xs)) (hg : e.gh = false) : e.fixd L q = { e with g := false, sz := sz, n := 0 } := by
 unfold Ent.fixd
 rw [h]
 simp only [hg]
theorem Ent.fixd_gho {L : List Blk} {q : Nat} {e : Ent} (hg : e.gh = true) : e.fixd L q = e := by
 unfold Ent.fixd
 split
 ·simp only [hg]
 ·rfl
def Sel (qs : List Nat) (L : List Blk) : AV → AV → Prop
 | x, .d y => Selu qs L x y
 | .own 0 i sz xs, .own 0 k sz' xs' => posOf qs 0 i = some k ∧ sz = sz' ∧ xs = xs' ∧ ngar L i = true
 | .nil sz, .own 0 _ sz' xs' => sz = sz' ∧ xs' = []
 | .nil sz, .nil sz' => sz = sz'
 | .nil sz, .arr 0 _ off' len' sz' => off' = 0 ∧ len' = 0 ∧ sz = sz'
 | .arr 0 i off len sz, .arr 0 k off' len' sz' => posOf qs 0 i = some k ∧ off = off' ∧ len = len' ∧ sz = sz'
 | .garr 0 i n sz, .arr 0 k off' len' sz' => posOf qs 0 i = some k ∧ off' = 0 ∧ len' = n ∧ sz = sz' ∧ ∃ xs, L[i]? = some (.garr sz xs) ∧ n = xs.length
 | .ptr 0 i off, .ptr 0 k off' => posOf qs 0 i = some k ∧ off = off'
 | .map 0 i, .map 0 k => posOf qs 0 i = some k
 | .func fn us cs, .func fn' us' cs' => fn = fn' ∧ SelL qs L us us' ∧ SelL qs L cs cs'
 | .agg cs, .agg ds => SelL qs L cs ds ∧ leafs ds = true
 | .tuple cs, .tuple ds => SelL qs L cs ds
 | _, _ => False
 where SelL (qs : List Nat) (L : List Blk) : List AV → List AV → Prop
 | [], [] => True
 | x :: xs, y :: ys => Sel qs L x y ∧ SelL qs L xs ys
 | _, _ => False
def SelB (qs : List Nat) (L : List Blk) : Blk → Blk → Prop
 | .cells cs, .cells cs' => Sel.SelL qs L cs cs' ∧ leafs cs' = true
 | .cells _, _ => False
 | .garr sz xs, .arr sz' xs' => sz = sz' ∧ xs = xs'
 | .garr _ _, _ => False
 | b, b' => b = b'
def SelBs (qs0 : List Nat) (L : List Blk) : List Nat → List Blk → Prop
 | [], [] => True
 | q :: qs, b :: bs => (∃ b0, L[q]? = some b0 ∧ SelB qs0 L b0 b) ∧ SelBs qs0 L qs bs
 | _, _ => False
theorem SelBs.spec {qs0 : List Nat} {L : List Blk} : ∀ {qs : List Nat} {bs : List Blk}, SelBs qs0 L qs bs → bs.length = qs.length ∧ ∀ (k q : Nat), qs[k]? = some q → ∃ b0 b, L[q]? = some b0 ∧ bs[k]? = some b ∧ SelB qs0 L b0 b
 | [], [], _ => ⟨rfl, fun k q h => by simp at h⟩
 | q :: qs, b :: bs, h => by
  obtain ⟨h1, h2⟩ := SelBs.spec h.2
  obtain ⟨b0, k1, k2⟩ := h.1
  refine ⟨by simp [h1], fun k p hk => ?_⟩
  cases k with
  | zero => simp at hk; subst hk; exact ⟨b0, b, k1, rfl, k2⟩
  | succ k => simpa using h2 k p (by simpa using hk)
 | [], _ :: _, h => h.elim
 | _ :: _, [], h => h.elim
section
variable {T : TT} {P : Program} {c : Ctx} {w : World}

/-- what is known when the blocks ks alone stay to be written -/
def Ctx.sel (c : Ctx) (ks : List Nat) (w : World) : Imm where
 cell b j := match c.H.cell b j with
  | some v => some v
  | none => if ((decide (c.B ≤ b) || c.X.contains b) && !ks.contains b) = true then w.cell? ⟨b, j, none⟩ else none
 obj b := match c.H.obj b with
  | some o => some o
  | none => if ((decide (c.B ≤ b) || c.X.contains b) && !ks.contains b) = true then (match w.heap[b]? with | some (.map es k) => some (.map es k) | _ => none) else none
 var b := c.H.var b || (((decide (c.B ≤ b) || c.X.contains b) && !ks.contains b) && match w.heap[b]? with | some (.cells _ _ (0, 0)) => true | _ => false)
 base := c.H.base
 wr b := c.H.wr b || match w.heap[b]? with | some (.cells _ _ (0, 0)) => true | _ => false
theorem sel_bool {c : Ctx} {ks : List Nat} {b : Nat} : ((decide (c.B ≤ b) || c.X.contains b) && !ks.contains b) = true ↔ c.free b ∧ b ∉ ks := by
 simp [Ctx.free]
theorem sel_le {ks : List Nat} : c.H.le (c.sel ks w) := ⟨fun b j v h => by simp [Ctx.sel, h], fun b o h => by simp [Ctx.sel, h], fun b h => by simp [Ctx.sel, h], rfl, fun b h => by simp [Ctx.sel, h]⟩
theorem sel_yg {ks : List Nat} {b : Nat} {cs : Array Value} {t : TypeId} (h : c.H.base ≤ b) (hw : w.heap[b]? = some (.cells cs t (0, 0))) : (c.sel ks w).yg b := ⟨h, fun _ => .inl (by simp [Ctx.sel, hw])⟩
theorem sel_models {ks : List Nat} (h : Models w c.H) : Models w (c.sel ks w) := by
 refine ⟨fun b j v hc => ?_, fun b o ho => ?_, fun b hv => ?_, fun b hv => ?_⟩
 ·simp only [Ctx.sel] at hc
  cases hh : c.H.cell b j with
  | some u => rw [hh] at hc; injection hc with hc; subst hc; exact h.1 _ _ _ hh
  | none =>
   rw [hh] at hc
   simp only at hc
   split at hc
   ·exact hc
   ·cases hc
 ·simp only [Ctx.sel] at ho
  cases hh : c.H.obj b with
  | some u => rw [hh] at ho; injection ho with ho; subst ho; exact h.2.1 _ _ hh
  | none =>
   rw [hh] at ho
   simp only at ho
   split at ho
   ·split at ho
    ·rename_i es k hw
     injection ho with ho; subst ho
     exact ⟨hw, fun _ _ _ hq => by cases hq⟩
    ·cases ho
   ·cases ho
 ·simp only [Ctx.sel] at hv
  rw [Bool.or_eq_true] at hv
  rcases hv with hv | hv
  ·exact h.2.2.1 _ hv
  ·rw [Bool.and_eq_true] at hv
   obtain ⟨_, hv⟩ := hv
   split at hv
   ·rename_i cc t he; exact ⟨cc, t, he⟩
   ·cases hv
 ·simp only [Ctx.sel, Bool.or_eq_true] at hv
  rcases hv with hv | hv
  ·exact h.2.2.2 _ hv
  ·split at hv
   ·rename_i cc t he
    refine ⟨(Array.getElem?_eq_some_iff.1 he).1, fun c' t' f hc => ?_⟩
    rw [he] at hc; injection hc with hc; injection hc with _ _ hc; exact hc.symm
   ·cases hv
theorem sel_cell {ks : List Nat} {b j : Nat} {v : Value} (h : (c.sel ks w).cell b j = some v) : c.H.cell b j = some v ∨ (c.free b ∧ b ∉ ks) := by
 simp only [Ctx.sel] at h
 cases hh : c.H.cell b j with
 | some u => rw [hh] at h; exact .inl h
 | none =>
  rw [hh] at h
  simp only at h
  split at h
  ·rename_i hb; exact .inr (sel_bool.1 hb)
  ·cases h
theorem sel_obj {ks : List Nat} {b : Nat} {o : Obj} (h : (c.sel ks w).obj b = some o) : c.H.obj b = some o ∨ (c.free b ∧ b ∉ ks) := by
 simp only [Ctx.sel] at h
 cases hh : c.H.obj b with
 | some u => rw [hh] at h; exact .inl h
 | none =>
  rw [hh] at h
  simp only at h
  split at h
  ·rename_i hb; exact .inr (sel_bool.1 hb)
  ·cases h
theorem sel_var {ks : List Nat} {b : Nat} (h : (c.sel ks w).var b = true) : c.H.var b = true ∨ (c.free b ∧ b ∉ ks) := by
 simp only [Ctx.sel] at h
 rw [Bool.or_eq_true] at h
 rcases h with h | h
 ·exact .inl h
 ·rw [Bool.and_eq_true] at h
  exact .inr (sel_bool.1 h.1)
theorem sel_ext {ks : List Nat} : c.H.ext (c.sel ks w) c.free := ⟨sel_le, fun b j v h => (sel_cell h).imp id (·.1), fun b o h => (sel_obj h).imp id (·.1), fun b h => (sel_var h).imp id (·.1)⟩
mutual
theorem selu_rel {L : List Blk} {rest : Frs} (hok : Ok c (L :: rest) w) {qs ks : List Nat} (hks : ∀ i e, c.ent 0 i = some e → memNat i qs = false → e.b ∉ ks) : ∀ (x : AV) (v : Value) (y : D), VRel c v x → Selu qs L x y → DRel (c.sel ks w) v y
 | .undef, v, y, hv, h => by cases y <;> exact h.elim
 | .d x, v, y, hv, h => by
  have h : x = y := by cases y <;> exact h
  subst h
  cases hv with | d _ _ hv => exact hv.mono sel_le
 | .nil sz, v, y, hv, h => by
  have h : .slice sz [] = y := by cases y <;> exact h
  subst h
  exact (hv.pure _ rfl).mono sel_le
 | .full sz xs, v, y, hv, h => by
  have h : .slice sz xs = y := by cases y <;> exact h
  subst h
  exact (hv.pure _ rfl).mono sel_le
 | .own l i sz xs, v, y, hv, h => by
  have h : .slice sz xs = y := by cases y <;> exact h
  subst h
  exact (hv.pure _ rfl).mono sel_le
 | .arr l i off len sz, v, y, hv, h => by
  cases l with
  | succ l => cases y <;> exact h.elim
  | zero =>
   cases off with
   | succ off => cases y <;> exact h.elim
   | zero =>
    have h : memNat i qs = false ∧ ∃ xs, L[i]? = some (.arr sz xs) ∧ len = xs.length ∧ .slice sz xs = y := by cases y <;> exact h
    obtain ⟨hq, xs, h1, rfl, rfl⟩ := h
    have hv2 : ∃ n, n = xs.length ∧ VRel c v (.arr 0 i 0 n sz) := ⟨_, rfl, hv⟩
    obtain ⟨n, hn2, hv2⟩ := hv2
    cases hv2 with
    | arr0 a =>
     obtain rfl := List.eq_nil_of_length_eq_zero hn2.symm
     exact .zero0 a sz
    | arr cap _ _ _ _ _ e he hg hs hc =>
    subst hn2
    have hbr := hok.blk 0 i e (.arr sz xs) he (by simpa using h1)
    rw [Ctx.drop_zero] at hbr
    cases hbr with | arr _ _ vs u hg' hs' hw hn hsz hl hr =>
    have hf := hok.far _ _ _ he fun _ => hg'.2
    have hcell : ∀ j, (c.sel ks w).cell e.b j = w.cell? ⟨e.b, j, none⟩ := fun j => by
     simp only [Ctx.sel]
     cases hh : c.H.cell e.b j with
     | some v => have := (hf.1 _ _ hh).1; rw [hg'.1] at this; cases this
     | none => simp only; rw [if_pos (sel_bool.2 ⟨hok.ge _ _ _ he, hks i e he hq⟩)]
    simp only [Nat.zero_mul]
    exact row_relL hc hsz hl (sel_yg (hok.yng _ (hok.ge _ _ _ he)) hw) (fun j hj => by rw [Nat.zero_add, hcell, cell_of_heap hw]; exact getD_some (by omega)) fun j hj => (hr j hj).mono sel_le
 | .garr l i len sz, v, y, hv, h => by
  cases l with
  | succ l => cases y <;> exact h.elim
  | zero =>
   have h : memNat i qs = false ∧ ∃ xs, L[i]? = some (.garr sz xs) ∧ len = xs.length ∧ .slice sz xs = y := by cases y <;> exact h
   obtain ⟨hq, xs, h1, rfl, rfl⟩ := h
   have hv2 : ∃ n, n = xs.length ∧ VRel c v (.garr 0 i n sz) := ⟨_, rfl, hv⟩
   obtain ⟨n, hn2, hv2⟩ := hv2
   cases hv2 with
   | garr0 a =>
    obtain rfl := List.eq_nil_of_length_eq_zero hn2.symm
    exact .zero0 a sz
   | garr a cap _ _ _ _ e he hg hne hcc =>
   subst hn2
   have hbr := hok.blk 0 i e (.garr sz xs) he (by simpa using h1)
   rw [Ctx.drop_zero] at hbr
   cases hbr with | garr _ _ vs u hg' hen hw hvl hcap hsz hl hr =>
   obtain ⟨rfl, rfl⟩ := hcc hen.symm
   have hle : xs.length * sz ≤ vs.length := by rw [hvl]; exact Nat.mul_le_mul_right _ hcap.1
   have hf := hok.far _ _ _ he fun h => by rw [hg.1] at h; cases h
   have hcell : ∀ j, (c.sel ks w).cell e.b j = w.cell? ⟨e.b, j, none⟩ := fun j => by
    simp only [Ctx.sel]
    cases hh : c.H.cell e.b j with
    | some v => have := (hf.1 _ _ hh).2; rw [hg.2] at this; omega
    | none => simp only; rw [if_pos (sel_bool.2 ⟨hok.ge _ _ _ he, hks i e he hq⟩)]
   exact row_relL hcap hsz hl (sel_yg (hok.yng _ (hok.ge _ _ _ he)) hw) (fun j hj => by rw [Nat.zero_add, hcell, cell_of_heap hw]; exact getD_some (by have := flat_len hsz; omega)) fun j hj => (hr j hj).mono sel_le
 | .ptr l i off, v, y, hv, h => by
  cases l with
  | succ l => cases y <;> exact h.elim
  | zero =>
   cases off with
   | succ off => cases y <;> exact h.elim
   | zero =>
    have h : match L[i]? with | some (.frz x) => .ptr x = y | _ => memNat i qs = false ∧ ∃ cs ds x, L[i]? = some (.cells cs) ∧ pures cs = some ds ∧ x.cells = ds ∧ .ptr x = y := by cases y <;> exact h
    split at h
    ·rename_i x h1
     subst h
     cases hv with | ptr _ _ _ e he hg =>
     have hbr := hok.blk 0 i e (.frz x) he (by simpa using h1)
     rw [Ctx.drop_zero] at hbr
     cases hbr with | frz _ vs u hg' hw hvv hn hl hk hr =>
     exact (DRel.ptr x e.b 0 (fun j => vs.getD j default) hvv (fun j hj => by rw [Nat.zero_add]; exact hk j hj) hl hr).mono sel_le
    obtain ⟨hq, cs, ds, x, h1, h2, h3, rfl⟩ := h
    subst h3
    cases hv with | ptr _ _ _ e he hg =>
    obtain ⟨e', he', hbr⟩ := hok.ent (l := 0) (i := i) (b := .cells cs) (by simpa using h1)
    rw [he] at he'; injection he' with he'; subst he'
    rw [Ctx.drop_zero] at hbr
    cases hbr with | cells _ vs u hg' hw hn hl hr =>
    have hf := hok.far _ _ _ he fun _ => hg'.2
    have hfr := sel_bool.2 ⟨hok.ge _ _ _ he, hks i e he hq⟩
    have hcell : ∀ j, (c.sel ks w).cell e.b j = w.cell? ⟨e.b, j, none⟩ := fun j => by
     simp only [Ctx.sel]
     cases hh : c.H.cell e.b j with
     | some v => have := (hf.1 _ _ hh).1; rw [hg'.1] at this; cases this
     | none => simp only; rw [if_pos hfr]
    obtain ⟨k1, k2⟩ := pures_some h2
    refine .ptr x e.b 0 (fun j => vs.getD j default) ?_ (fun j hj => ?_) (fun q hq => ?_) fun j hj => ?_
    ·simp only [Ctx.sel]
     rw [hfr, hw]; simp
    ·rw [Nat.zero_add, hcell, cell_of_heap hw]; exact getD_some (by omega)
    ·obtain ⟨j, hj, rfl⟩ := List.mem_iff_getElem.1 hq
     rw [pure_leaf (k2 j (by omega) hj)]
     exact hl _ (List.getElem_mem _)
    ·exact ((hr j (by omega)).pure _ (k2 j (by omega) hj)).mono sel_le
 | .eptr .., v, y, hv, h => by cases y <;> exact h.elim
 | .win .., v, y, hv, h => by cases y <;> exact h.elim
 | .pel .., v, y, hv, h => by cases y <;> exact h.elim
 | .vp .., v, y, hv, h => by cases y <;> exact h.elim
 | .map l i, v, y, hv, h => by
  cases l with
  | succ l => cases y <;> exact h.elim
  | zero =>
   have h : memNat i qs = false ∧ ∃ es, L[i]? = some (.map es) ∧ .map es = y := by cases y <;> exact h
   obtain ⟨hq, es, h1, rfl⟩ := h
   cases hv with | map _ _ e he hg =>
   obtain ⟨e', he', hbr⟩ := hok.ent (l := 0) (i := i) (b := .map es) (by simpa using h1)
   rw [he] at he'; injection he' with he'; subst he'
   rw [Ctx.drop_zero] at hbr
   cases hbr with | map _ ms clock hg' hw hn hk hv =>
   refine .map e.b ms clock es hn ?_ (fun j hj => (hk j hj).mono sel_le) fun j hj => (hv j hj).mono sel_le
   have hff := hok.far _ _ _ he fun _ => hg'.2
   simp only [Ctx.sel, hff.2.1]
   rw [if_pos (sel_bool.2 ⟨hok.ge _ _ _ he, hks i e he hq⟩), hw]
 | .func fn us cs, v, y, hv, h => by
  have h : match pures us, pures cs with | some us, some cs => .func fn us cs = y | _, _ => False := by cases y <;> exact h
  split at h
  ·rename_i us' cs' h1 h2
   subst h
   exact (hv.pure _ (by simp [pure?, pure_go, h1, h2])).mono sel_le
  ·exact h.elim
 | .iface t x, v, y, hv, h => by
  cases y <;> try exact h.elim
  rename_i u y
  obtain ⟨rfl, h⟩ := h
  cases hv with | iface _ v _ hv => exact .iface t v y (selu_rel hok hks x v y hv h)
 | .agg cs, v, y, hv, h => by
  cases y <;> try exact h.elim
  rename_i ds
  have h : Selu.SeluL qs L cs ds := h
  cases hv with | agg vs _ hn hl hr =>
  obtain ⟨h1, h2, h3⟩ := seluL_rel hok hks cs vs ds hn hr h
  exact .agg vs ds h1 (fun q hq => h3 hl q hq) h2
 | .tuple cs, v, y, hv, h => by
  cases y <;> try exact h.elim
  rename_i ds
  have h : Selu.SeluL qs L cs ds := h
  cases hv with | tuple vs _ hn hr =>
  obtain ⟨h1, h2, h3⟩ := seluL_rel hok hks cs vs ds hn hr h
  exact .tuple vs ds h1 h2
theorem seluL_rel {L : List Blk} {rest : Frs} (hok : Ok c (L :: rest) w) {qs ks : List Nat} (hks : ∀ i e, c.ent 0 i = some e → memNat i qs = false → e.b ∉ ks) : ∀ (xs : List AV) (vs : List Value) (ys : List D), vs.length = xs.length → (∀ j (h : j < xs.length), VRel c (vs.getD j default) xs[j]) → Selu.SeluL qs L xs ys →
  vs.length = ys.length ∧ (∀ j (h : j < ys.length), DRel (c.sel ks w) (vs.getD j default) ys[j]) ∧ ((∀ q ∈ xs, q.leaf = true) → ∀ q ∈ ys, q.leaf = true)
 | [], vs, ys, hn, hr, h => by
  cases ys with
  | nil => exact ⟨hn, fun j h => by simp at h, fun _ q hq => by cases hq⟩
  | cons y ys => exact h.elim
 | x :: xs, vs, ys, hn, hr, h => by
  cases ys with
  | nil => exact h.elim
  | cons y ys =>
   cases vs with
   | nil => simp at hn
   | cons v vs =>
    obtain ⟨h1, h2⟩ := h
    have hx := hr 0 (by simp)
    simp only [List.getD_cons_zero, List.getElem_cons_zero] at hx
    have k0 := selu_rel hok hks x v y hx h1
    obtain ⟨k1, k2, k3⟩ := seluL_rel hok hks xs vs ys (by simpa using hn) (fun j hj => by have := hr (j + 1) (by simpa using hj); simpa using this) h2
    refine ⟨by simp [k1], fun j hj => ?_, fun hl q hq => ?_⟩
    ·cases j with
     | zero => exact k0
     | succ j => exact k2 j (by simpa using hj)
    ·rcases List.mem_cons.1 hq with rfl | hq
     ·exact k0.leaf_of (hx.leaf_value (hl x (by simp)))
     ·exact k3 (fun q hq => hl q (by simp [hq])) q hq
end

set_option maxHeartbeats 4000000 in
mutual
theorem sel_rel {L : List Blk} (hok : Ok c [L] w) {qs ks : List Nat} (hks : ∀ i e, c.ent 0 i = some e → memNat i qs = false → e.b ∉ ks) {c2 : Ctx} (hH : c2.H = c.sel ks w) (hent : ∀ k q e, qs[k]? = some q → c.ent 0 q = some e → c2.ent 0 k = some (e.fixd L q)) :
  ∀ (x y : AV) (v : Value), VRel c v x → Sel qs L x y → VRel c2 v y
 | x, y, v, hv, h => by
  have posF : ∀ {i k : Nat} {e : Ent}, posOf qs 0 i = some k → c.ent 0 i = some e → c2.ent 0 k = some (e.fixd L i) := fun hp he => by
   obtain ⟨_, h2⟩ := posOf_some hp
   exact hent _ _ _ (by simpa using h2) he
  have pos : ∀ {i k : Nat} {e : Ent}, posOf qs 0 i = some k → c.ent 0 i = some e → e.g = false → c2.ent 0 k = some e := fun {i k e} hp he hg => by
   have := posF hp he
   rwa [Ent.fixd_ng] at this
   unfold ngar
   split
   ·rename_i hh
    have hbr := hok.blk 0 i e _ he (by simpa using hh)
    cases hbr with | garr _ _ vs u hg' => rw [hg'.1] at hg; cases hg
   ·rfl
  cases y with
  | d y =>
   have h : Selu qs L x y := by cases x <;> exact h
   exact .d _ _ (by rw [hH]; exact selu_rel hok hks x v y hv h)
  | undef => exact .undef v
  | own l' k sz' xs' =>
   cases l' with
   | succ l' => exact absurd h (by intro h; unfold Sel at h; first | exact h.elim | (split at h <;> simp_all))
   | zero =>
    cases x with
    | nil sz => obtain ⟨rfl, rfl⟩ : sz = sz' ∧ xs' = [] := h; cases hv with | nil _ => exact .own0 none 0 k sz
    | own l i sz xs =>
     cases l with
     | succ l => exact absurd h (by intro h; unfold Sel at h; first | exact h.elim | (split at h <;> simp_all))
     | zero =>
      obtain ⟨hp, rfl, rfl, hng⟩ : posOf qs 0 i = some k ∧ sz = sz' ∧ xs = xs' ∧ ngar L i = true := h
      cases hv with
      | own a cap _ _ _ _ e hx he hg hs hn hc => exact .own a cap 0 k sz xs e (by rw [hH]; exact hx.mono sel_le) (by have := posF hp he; rwa [Ent.fixd_ng _ hng] at this) hg hs hn hc
      | own0 a _ _ _ => exact .own0 a 0 k sz
    | arr l i _ _ _ => exact absurd h (by intro h; unfold Sel at h; first | exact h.elim | (split at h <;> simp_all))
    | ptr l i _ => exact absurd h (by intro h; unfold Sel at h; first | exact h.elim | (split at h <;> simp_all))
    | eptr l i _ _ => exact h.elim
    | win l i _ _ => exact h.elim
    | map l i => exact absurd h (by intro h; unfold Sel at h; first | exact h.elim | (split at h <;> simp_all))
    | _ => exact absurd h (by intro h; unfold Sel at h; first | exact h.elim | (split at h <;> simp_all))
  | nil sz' =>
   cases x with
   | nil sz => obtain rfl : sz = sz' := h; cases hv with | nil _ => exact .nil sz
   | own l _ _ _ => exact absurd h (by intro h; unfold Sel at h; first | exact h.elim | (split at h <;> simp_all))
   | arr l i _ _ _ => exact absurd h (by intro h; unfold Sel at h; first | exact h.elim | (split at h <;> simp_all))
   | ptr l i _ => exact absurd h (by intro h; unfold Sel at h; first | exact h.elim | (split at h <;> simp_all))
   | map l i => exact absurd h (by intro h; unfold Sel at h; first | exact h.elim | (split at h <;> simp_all))
   | _ => exact absurd h (by intro h; unfold Sel at h; first | exact h.elim | (split at h <;> simp_all))
  | arr l' k off' len' sz' =>
   cases x with
   | nil sz =>
    cases l' with
    | succ l' => exact absurd h (by intro h; unfold Sel at h; first | exact h.elim | (split at h <;> simp_all))
    | zero =>
     obtain ⟨rfl, rfl, rfl⟩ : off' = 0 ∧ len' = 0 ∧ sz = sz' := h
     cases hv with | nil _ => exact .arr0 none 0 k 0 sz
   | arr l i off len sz =>
    cases l with
    | succ l => exact absurd h (by intro h; unfold Sel at h; first | exact h.elim | (split at h <;> simp_all))
    | zero =>
     cases l' with
     | succ l' => exact absurd h (by intro h; unfold Sel at h; first | exact h.elim | (split at h <;> simp_all))
     | zero =>
      obtain ⟨hp, rfl, rfl, rfl⟩ : posOf qs 0 i = some k ∧ off = off' ∧ len = len' ∧ sz = sz' := h
      cases hv with
      | arr cap _ _ _ _ _ e he hg hs hc => exact .arr cap 0 k off len sz e (pos hp he hg) hg hs hc
      | arr0 a _ _ _ _ => exact .arr0 a 0 k off sz
   | garr l i n sz =>
    cases l with
    | succ l => exact absurd h (by intro h; unfold Sel at h; first | exact h.elim | (split at h <;> simp_all))
    | zero =>
     cases l' with
     | succ l' => exact absurd h (by intro h; unfold Sel at h; first | exact h.elim | (split at h <;> simp_all))
     | zero =>
      obtain ⟨hp, rfl, rfl, rfl, xs, hL, hn⟩ : posOf qs 0 i = some k ∧ off' = 0 ∧ len' = n ∧ sz = sz' ∧ ∃ xs, L[i]? = some (.garr sz xs) ∧ n = xs.length := h
      cases hv with
      | garr0 a _ _ _ => exact .arr0 a 0 k 0 sz
      | garr a cap _ _ _ _ e he hg hle hcc =>
       have hbr := hok.blk 0 i e _ he (by simpa using hL)
       cases hbr with | garr _ _ vs u hg' hen hw hvl hcap hsz hl hr =>
       obtain ⟨rfl, rfl⟩ := hcc (by omega)
       have h6 := posF hp he
       rw [Ent.fixd_garr hL (Ctx.ent_iff.1 he).2] at h6
       have h7 := VRel.arr (c := c2) e.cap 0 k 0 len' sz _ h6 rfl rfl ⟨by omega, by omega⟩
       rw [Nat.zero_mul] at h7
       exact h7
   | own l _ _ _ => exact absurd h (by intro h; unfold Sel at h; first | exact h.elim | (split at h <;> simp_all))
   | ptr l i _ => exact absurd h (by intro h; unfold Sel at h; first | exact h.elim | (split at h <;> simp_all))
   | map l i => exact absurd h (by intro h; unfold Sel at h; first | exact h.elim | (split at h <;> simp_all))
   | _ => exact absurd h (by intro h; unfold Sel at h; first | exact h.elim | (split at h <;> simp_all))
  | ptr l' k off' =>
   cases x with
   | ptr l i off =>
    cases l with
    | succ l => exact absurd h (by intro h; unfold Sel at h; first | exact h.elim | (split at h <;> simp_all))
    | zero =>
     cases l' with
     | succ l' => exact absurd h (by intro h; unfold Sel at h; first | exact h.elim | (split at h <;> simp_all))
     | zero =>
      obtain ⟨hp, rfl⟩ : posOf qs 0 i = some k ∧ off = off' := h
      cases hv with | ptr _ _ _ e he hg => exact .ptr 0 k off e (pos hp he hg) hg
   | own l _ _ _ => exact absurd h (by intro h; unfold Sel at h; first | exact h.elim | (split at h <;> simp_all))
   | arr l i _ _ _ => exact absurd h (by intro h; unfold Sel at h; first | exact h.elim | (split at h <;> simp_all))
   | map l i => exact absurd h (by intro h; unfold Sel at h; first | exact h.elim | (split at h <;> simp_all))
   | _ => exact absurd h (by intro h; unfold Sel at h; first | exact h.elim | (split at h <;> simp_all))
  | map l' k =>
   cases x with
   | map l i =>
    cases l with
    | succ l => exact absurd h (by intro h; unfold Sel at h; first | exact h.elim | (split at h <;> simp_all))
    | zero =>
     cases l' with
     | succ l' => exact absurd h (by intro h; unfold Sel at h; first | exact h.elim | (split at h <;> simp_all))
     | zero =>
      have hp : posOf qs 0 i = some k := h
      cases hv with | map _ _ e he hg => exact .map 0 k e (pos hp he hg) hg
   | own l _ _ _ => exact absurd h (by intro h; unfold Sel at h; first | exact h.elim | (split at h <;> simp_all))
   | arr l i _ _ _ => exact absurd h (by intro h; unfold Sel at h; first | exact h.elim | (split at h <;> simp_all))
   | ptr l i _ => exact absurd h (by intro h; unfold Sel at h; first | exact h.elim | (split at h <;> simp_all))
   | _ => exact absurd h (by intro h; unfold Sel at h; first | exact h.elim | (split at h <;> simp_all))
  | func fn' us' cs' =>
   cases x with
   | func fn us cs =>
    obtain ⟨rfl, h1, h2⟩ : fn = fn' ∧ Sel.SelL qs L us us' ∧ Sel.SelL qs L cs cs' := h
    cases hv with | func _ us0 vs0 _ _ hm hn hq hr =>
    obtain ⟨k1, k2⟩ := selL_rel hok hks hH hent us us' us0 hm hq h1
    obtain ⟨k3, k4⟩ := selL_rel hok hks hH hent cs cs' vs0 hn hr h2
    exact .func fn us0 vs0 us' cs' k1 k3 k2 k4
   | own l _ _ _ => exact absurd h (by intro h; unfold Sel at h; first | exact h.elim | (split at h <;> simp_all))
   | arr l i _ _ _ => exact absurd h (by intro h; unfold Sel at h; first | exact h.elim | (split at h <;> simp_all))
   | ptr l i _ => exact absurd h (by intro h; unfold Sel at h; first | exact h.elim | (split at h <;> simp_all))
   | map l i => exact absurd h (by intro h; unfold Sel at h; first | exact h.elim | (split at h <;> simp_all))
   | _ => exact absurd h (by intro h; unfold Sel at h; first | exact h.elim | (split at h <;> simp_all))
  | agg ds =>
   cases x with
   | agg cs =>
    obtain ⟨h1, h2⟩ : Sel.SelL qs L cs ds ∧ leafs ds = true := h
    cases hv with | agg vs _ hn hl hr =>
    obtain ⟨k1, k2⟩ := selL_rel hok hks hH hent cs ds vs hn hr h1
    exact .agg vs ds k1 (leafs_spec h2) k2
   | own l _ _ _ => exact absurd h (by intro h; unfold Sel at h; first | exact h.elim | (split at h <;> simp_all))
   | arr l i _ _ _ => exact absurd h (by intro h; unfold Sel at h; first | exact h.elim | (split at h <;> simp_all))
   | ptr l i _ => exact absurd h (by intro h; unfold Sel at h; first | exact h.elim | (split at h <;> simp_all))
   | map l i => exact absurd h (by intro h; unfold Sel at h; first | exact h.elim | (split at h <;> simp_all))
   | _ => exact absurd h (by intro h; unfold Sel at h; first | exact h.elim | (split at h <;> simp_all))
  | tuple ds =>
   cases x with
   | tuple cs =>
    have h1 : Sel.SelL qs L cs ds := h
    cases hv with | tuple vs _ hn hr =>
    obtain ⟨k1, k2⟩ := selL_rel hok hks hH hent cs ds vs hn hr h1
    exact .tuple vs ds k1 k2
   | own l _ _ _ => exact absurd h (by intro h; unfold Sel at h; first | exact h.elim | (split at h <;> simp_all))
   | arr l i _ _ _ => exact absurd h (by intro h; unfold Sel at h; first | exact h.elim | (split at h <;> simp_all))
   | ptr l i _ => exact absurd h (by intro h; unfold Sel at h; first | exact h.elim | (split at h <;> simp_all))
   | map l i => exact absurd h (by intro h; unfold Sel at h; first | exact h.elim | (split at h <;> simp_all))
   | _ => exact absurd h (by intro h; unfold Sel at h; first | exact h.elim | (split at h <;> simp_all))
  | garr l' _ _ _ => exact absurd h (by intro h; unfold Sel at h; first | exact h.elim | (split at h <;> simp_all))
  | full sz ys => exact absurd h (by intro h; unfold Sel at h; first | exact h.elim | (split at h <;> simp_all))
  | win l' _ _ _ => exact absurd h (by intro h; unfold Sel at h; first | exact h.elim | (split at h <;> simp_all))
  | eptr l' _ _ _ => exact absurd h (by intro h; unfold Sel at h; first | exact h.elim | (split at h <;> simp_all))
  | pel _ _ => exact absurd h (by intro h; unfold Sel at h; first | exact h.elim | (split at h <;> simp_all))
  | vp _ _ => exact absurd h (by intro h; unfold Sel at h; first | exact h.elim | (split at h <;> simp_all))
  | iface _ _ => exact absurd h (by intro h; unfold Sel at h; first | exact h.elim | (split at h <;> simp_all))
theorem selL_rel {L : List Blk} (hok : Ok c [L] w) {qs ks : List Nat} (hks : ∀ i e, c.ent 0 i = some e → memNat i qs = false → e.b ∉ ks) {c2 : Ctx} (hH : c2.H = c.sel ks w) (hent : ∀ k q e, qs[k]? = some q → c.ent 0 q = some e → c2.ent 0 k = some (e.fixd L q)) :
  ∀ (xs ys : List AV) (vs : List Value), vs.length = xs.length → (∀ j (h : j < xs.length), VRel c (vs.getD j default) xs[j]) → Sel.SelL qs L xs ys → vs.length = ys.length ∧ ∀ j (h : j < ys.length), VRel c2 (vs.getD j default) ys[j]
 | [], ys, vs, hn, hr, h => by
  cases ys with
  | nil => exact ⟨hn, fun j h => by simp at h⟩
  | cons y ys => exact h.elim
 | x :: xs, ys, vs, hn, hr, h => by
  cases ys with
  | nil => exact h.elim
  | cons y ys =>
   cases vs with
   | nil => simp at hn
   | cons v vs =>
    obtain ⟨h1, h2⟩ := h
    have hx := hr 0 (by simp)
    simp only [List.getD_cons_zero, List.getElem_cons_zero] at hx
    have k0 := sel_rel hok hks hH hent x y v hx h1
    obtain ⟨k1, k2⟩ := selL_rel hok hks hH hent xs ys vs (by simpa using hn) (fun j hj => by have := hr (j + 1) (by simpa using hj); simpa using this) h2
    refine ⟨by simp [k1], fun j hj => ?_⟩
    cases j with
    | zero => exact k0
    | succ j => simpa using k2 j (by simpa using hj)
end

theorem Ok.select {L : List Blk} (hok : Ok c [L] w) {qs : List Nat} (hnd : qs.Nodup) {L' : List Blk} (hb : SelBs qs L qs L') :
  ∃ c2 : Ctx, c2.B = c.B ∧ c2.X = c.X ∧ c2.w0 = c.w0 ∧ c.H.ext c2.H c.free ∧ (∀ k q, qs[k]? = some q → ngar L q = true → c2.raw 0 k = c.raw 0 q) ∧ (∀ l, c2.drop (l + 1) = { c2 with ents := [] }) ∧ Ok c2 [L'] w ∧ ∀ v x y, VRel c v x → Sel qs L x y → VRel c2 v y := by
 obtain ⟨hbl, hbk⟩ := hb.spec
 obtain ⟨E, hc⟩ : ∃ E, c.ents = [E] := by
  have := hok.len
  match hh : c.ents, this with
  | [E], _ => exact ⟨E, rfl⟩
 have hE : E.length = L.length := by have := hok.lens 0; rw [hc] at this; simpa using this
 have hc0 : ∀ i, c.raw 0 i = E[i]? := fun i => by simp [Ctx.raw, hc]
 have hql : ∀ q ∈ qs, q < E.length := fun q hq => by
  obtain ⟨k, hk⟩ := List.getElem?_of_mem hq
  obtain ⟨b0, _, h1, _⟩ := hbk k q hk
  rw [hE]; exact (List.getElem?_eq_some_iff.1 h1).1
 let E1 : List Ent := qs.map fun q => ((E[q]?).getD ⟨0, false, 0, 0, 0⟩).fixd L q
 let ks : List Nat := (E1.filter fun e => !e.gh).map (·.b)
 let c2 : Ctx := ⟨c.B, c.X, c.w0, c.sel ks w, [E1]⟩
 have hE1 : ∀ k q, qs[k]? = some q → E1[k]? = (E[q]?).map (Ent.fixd L q) := fun k q hk => by
  have hq := hql q (List.mem_of_getElem? hk)
  show (qs.map fun q => ((E[q]?).getD ⟨0, false, 0, 0, 0⟩).fixd L q)[k]? = _
  rw [List.getElem?_map, hk, Option.map_some, List.getElem?_eq_getElem hq]; rfl
 have hc2 : ∀ k, c2.raw 0 k = E1[k]? := fun k => by simp [Ctx.raw, c2]
 have hraw0 : ∀ k q, qs[k]? = some q → c2.raw 0 k = (c.raw 0 q).map (Ent.fixd L q) := fun k q hk => by rw [hc2, hE1 k q hk, hc0]
 have hraw : ∀ k q, qs[k]? = some q → ngar L q = true → c2.raw 0 k = c.raw 0 q := fun k q hk hg => by
  rw [hraw0 k q hk]
  cases c.raw 0 q with
  | none => rfl
  | some e => rw [Option.map_some, Ent.fixd_ng e hg]
 have hent : ∀ k q e, qs[k]? = some q → c.ent 0 q = some e → c2.ent 0 k = some (e.fixd L q) := fun k q e hk he => Ctx.ent_iff.2 ⟨by rw [hraw0 k q hk, (Ctx.ent_iff.1 he).1]; rfl, by rw [Ent.fixd_gh]; exact (Ctx.ent_iff.1 he).2⟩
 have hrawB : ∀ k e, c2.raw 0 k = some e → ∃ q e0, qs[k]? = some q ∧ c.raw 0 q = some e0 ∧ e = e0.fixd L q := fun k e he => by
  have hk : k < qs.length := by rw [hc2] at he; simpa [E1] using (List.getElem?_eq_some_iff.1 he).1
  have hk' : qs[k]? = some qs[k] := List.getElem?_eq_getElem hk
  rw [hraw0 _ _ hk', Option.map_eq_some_iff] at he
  obtain ⟨e0, h1, h2⟩ := he
  exact ⟨_, e0, hk', h1, h2.symm⟩
 have hentB : ∀ k e, c2.ent 0 k = some e → ∃ q e0, qs[k]? = some q ∧ c.ent 0 q = some e0 ∧ e = e0.fixd L q := fun k e he => by
  obtain ⟨q1, q2⟩ := Ctx.ent_iff.1 he
  obtain ⟨q, e0, h1, h2, rfl⟩ := hrawB k e q1
  exact ⟨q, e0, h1, Ctx.ent_iff.2 ⟨h2, by rw [Ent.fixd_gh] at q2; exact q2⟩, rfl⟩
 have hl2R : ∀ l i e, c2.raw l i = some e → l = 0 := fun l i e he => by
  cases l with
  | zero => rfl
  | succ l => simp [Ctx.raw, c2] at he
 have hl2 : ∀ l i e, c2.ent l i = some e → l = 0 := fun l i e he => hl2R l i e (Ctx.ent_iff.1 he).1
 have hkmem : ∀ b, b ∈ ks → ∃ k q e, qs[k]? = some q ∧ c.ent 0 q = some e ∧ e.b = b := fun b hb => by
  obtain ⟨e, he, rfl⟩ := List.mem_map.1 hb
  obtain ⟨he, hgh⟩ := List.mem_filter.1 he
  obtain ⟨k, hk⟩ := List.getElem?_of_mem he
  obtain ⟨q, e0, h1, h2, rfl⟩ := hentB k e (Ctx.ent_iff.2 ⟨by rw [hc2]; exact hk, by simpa using hgh⟩)
  exact ⟨k, q, e0, h1, h2, (Ent.fixd_b _ _ _).symm⟩
 have hks : ∀ i e, c.ent 0 i = some e → memNat i qs = false → e.b ∉ ks := fun i e he hm hb => by
  obtain ⟨k, q, e', h1, h2, h3⟩ := hkmem _ hb
  obtain ⟨_, rfl⟩ := hok.inj _ _ _ _ _ _ h2 he h3
  exact memNat_iff hm (List.mem_of_getElem? h1)
 have hrel : ∀ v x y, VRel c v x → Sel qs L x y → VRel c2 v y := fun v x y hv h => sel_rel hok hks rfl hent x y v hv h
 refine ⟨c2, rfl, rfl, rfl, sel_ext, hraw, fun l => by simp [Ctx.drop, c2], ⟨rfl, fun l => ?_, fun l i e b he hb' => ?_, fun l i e b he hg hb' => ?_, fun l i e l' i' e' he he' hbb => ?_, fun l i e he => ?_, fun l i e he hfz => ?_, sel_models hok.mod, hok.below, hok.yng⟩, hrel⟩
 ·cases l with
  | zero => show E1.length = L'.length; rw [hbl]; simp [E1]
  | succ l => rfl
 ·obtain rfl := hl2 _ _ _ he
  obtain ⟨q, e, hq, heq, rfl⟩ := hentB _ _ he
  obtain ⟨b0, b1, h1, h2, h3⟩ := hbk _ _ hq
  simp only [List.getElem?_cons_zero, Option.bind_some] at hb'
  rw [h2] at hb'; injection hb' with hb'; subst hb'
  have hbr := hok.blk 0 q e b0 heq (by simpa using h1)
  rw [Ctx.drop_zero] at hbr ⊢
  have hfix : (∀ sz xs, b0 ≠ .garr sz xs) → e.fixd L q = e := fun hb => Ent.fixd_ng e (by
   unfold ngar
   rw [h1]
   cases b0 with
   | garr sz xs => exact absurd rfl (hb sz xs)
   | _ => rfl)
  cases hbr with
  | garr sz xs vs t hg hn hw hv hcap hsz hl hr =>
   cases b1 with
   | arr sz' xs' =>
    obtain ⟨rfl, rfl⟩ := h3
    rw [Ent.fixd_garr h1 (Ctx.ent_iff.1 heq).2]
    refine .arr sz xs vs t ⟨rfl, rfl⟩ rfl hw ?_ hsz hl fun j hj => (hr j hj).mono sel_le
    rw [flat_len hsz, hv]; exact Nat.mul_le_mul_right _ hcap.1
   | _ => exact h3.elim
  | frz x vs t hg hw hv hn hl hk hr => rw [hfix (fun _ _ h => by cases h)]; obtain rfl := h3; exact .frz x vs t hg hw (sel_le.2.2.1 _ hv) hn hl (fun j hj => sel_le.1 _ _ _ (hk j hj)) fun j hj => (hr j hj).mono sel_le
  | cells cs vs t hg hw hn hl hr =>
   rw [hfix (fun _ _ h => by cases h)]
   cases b1 with
   | cells cs' =>
    obtain ⟨h4, h5⟩ := h3
    obtain ⟨k1, k2⟩ := selL_rel hok hks (c2 := c2) rfl hent cs cs' vs hn hr h4
    exact .cells cs' vs t hg hw k1 (leafs_spec h5) k2
   | _ => exact h3.elim
  | arr sz xs vs t hg hs hw hn hsz hl hr => rw [hfix (fun _ _ h => by cases h)]; obtain rfl := h3; exact .arr sz xs vs t hg hs hw hn hsz hl fun j hj => (hr j hj).mono sel_le
  | grow sz n vs t hg hs hn hw hv hcap => rw [hfix (fun _ _ h => by cases h)]; obtain rfl := h3; exact .grow sz n vs t hg hs hn hw hv hcap
  | map es ms clock hg hw hn hk hv => rw [hfix (fun _ _ h => by cases h)]; obtain rfl := h3; exact .map es ms clock hg hw hn (fun j hj => (hk j hj).mono sel_le) fun j hj => (hv j hj).mono sel_le
 ·obtain rfl := hl2R _ _ _ he
  obtain ⟨q, e, hq, heq, rfl⟩ := hrawB _ _ he
  obtain ⟨b0, b1, h1, h2, h3⟩ := hbk _ _ hq
  simp only [List.getElem?_cons_zero, Option.bind_some] at hb'
  rw [h2] at hb'; injection hb' with hb'; subst hb'
  rw [Ent.fixd_gh] at hg
  obtain ⟨h6, h5⟩ := hok.gho 0 q e b0 heq hg (by simpa using h1)
  rw [Ent.fixd_gho hg]
  refine ⟨?_, h5⟩
  rcases h6 with rfl | ⟨z, hz, rfl⟩ | ⟨z, rfl⟩ | rfl
  ·obtain rfl := h3; exact .inl rfl
  ·cases b1 with
   | arr sz' xs' => obtain ⟨rfl, rfl⟩ := h3; exact .inr (.inr (.inl ⟨_, rfl⟩))
   | _ => exact h3.elim
  ·obtain rfl := h3; exact .inr (.inr (.inl ⟨_, rfl⟩))
  ·obtain rfl := h3; exact .inr (.inr (.inr rfl))
 ·obtain rfl := hl2 _ _ _ he
  obtain rfl := hl2 _ _ _ he'
  obtain ⟨q, e, hq, heq, rfl⟩ := hentB _ _ he
  obtain ⟨q', e', hq', heq', rfl⟩ := hentB _ _ he'
  rw [Ent.fixd_b, Ent.fixd_b] at hbb
  obtain ⟨_, rfl⟩ := hok.inj _ _ _ _ _ _ heq heq' hbb
  exact ⟨rfl, (List.getElem?_inj (List.getElem?_eq_some_iff.1 hq).1 hnd).1 (hq.trans hq'.symm)⟩
 ·obtain rfl := hl2 _ _ _ he
  obtain ⟨q, e, hq, heq, rfl⟩ := hentB _ _ he
  rw [Ent.fixd_b]
  exact hok.ge _ _ _ heq
 ·obtain rfl := hl2 _ _ _ he
  have he0 := he
  obtain ⟨q, e, hq, heq, rfl⟩ := hentB _ _ he
  have hmem : (e.fixd L q).b ∈ ks := by
   obtain ⟨q1, q2⟩ := Ctx.ent_iff.1 he0
   rw [hc2] at q1
   exact List.mem_map.2 ⟨_, List.mem_filter.2 ⟨List.mem_of_getElem? q1, by simpa using q2⟩, rfl⟩
  obtain ⟨f1, f2, f3⟩ : (∀ j v, c.H.cell (e.fixd L q).b j = some v → (e.fixd L q).g = true ∧ j < (e.fixd L q).n * (e.fixd L q).sz) ∧ c.H.obj (e.fixd L q).b = none ∧ c.H.var (e.fixd L q).b = false := by
   cases hng : ngar L q with
   | true => rw [Ent.fixd_ng e hng] at hfz ⊢; exact hok.far _ _ _ heq hfz
   | false =>
    obtain ⟨sz, xs, hL⟩ : ∃ sz xs, L[q]? = some (.garr sz xs) := by
     unfold ngar at hng
     split at hng
     ·exact ⟨_, _, by assumption⟩
     ·cases hng
    have hbr := hok.blk 0 q e _ heq (by simpa using hL)
    cases hbr with | garr _ _ vs t hg hn hw hv hcap hsz hl hr =>
    obtain ⟨g1, g2, g3⟩ := hok.far _ _ _ heq fun h => by rw [hg.1] at h; cases h
    rw [Ent.fixd_b]
    exact ⟨fun j v hc => by have := (g1 _ _ hc).2; rw [hg.2] at this; omega, g2, g3⟩
  refine ⟨fun j v hcl => ?_, ?_, ?_⟩
  ·rcases sel_cell hcl with hh | hh
   ·exact f1 _ _ hh
   ·exact absurd hmem hh.2
  ·show (c.sel ks w).obj _ = none
   cases ho : (c.sel ks w).obj (e.fixd L q).b with
   | none => rfl
   | some o =>
    rcases sel_obj ho with hh | hh
    ·rw [f2] at hh; cases hh
    ·exact absurd hmem hh.2
  ·show (c.sel ks w).var _ = false
   cases ho : (c.sel ks w).var (e.fixd L q).b with
   | false => rfl
   | true =>
    rcases sel_var ho with hh | hh
    ·rw [f3] at hh; cases hh
    ·exact absurd hmem hh.2
/-! ### the end of a function that hands blocks back -/
def preB : Nat → Nat → List Nat → Bool
 | 0, _, _ => true
 | m + 1, k, q :: qs => match Nat.beq q k with | true => preB m (k + 1) qs | false => false
 | _ + 1, _, [] => false
theorem preB_spec : ∀ {m k : Nat} {qs : List Nat}, preB m k qs = true → ∀ i, i < m → qs[i]? = some (k + i)
 | 0, k, qs, h, i, hi => by omega
 | m + 1, k, [], h, i, hi => by cases h
 | m + 1, k, q :: qs, h, i, hi => by
  simp only [preB] at h
  split at h
  ·rename_i hq
   have hq := Nat.eq_of_beq_eq_true hq
   subst hq
   cases i with
   | zero => simp
   | succ i => have := preB_spec h i (by omega); simp; rw [this]; congr 1; omega
  ·cases h
def ngarB (L : List Blk) : Nat → Bool
 | 0 => true
 | m + 1 => match ngar L m with | true => ngarB L m | false => false
theorem ngarB_spec {L : List Blk} : ∀ {m : Nat}, ngarB L m = true → ∀ i, i < m → ngar L i = true
 | 0, _, i, hi => by omega
 | m + 1, h, i, hi => by
  simp only [ngarB] at h
  split at h
  ·rename_i hm
   by_cases he : i = m
   ·subst he; exact hm
   ·exact ngarB_spec h i (by omega)
  ·cases h
structure Back (m : Nat) (L : List Blk) (x y : AV) (L' : List Blk) : Prop where mk ::
 out : ∃ qs, (nodupB qs = true ∧ preB m 0 qs = true ∧ ngarB L m = true) ∧ Sel qs L x y ∧ SelBs qs L qs L'
def EndSel (T : TT) (rs : List ResultVar) (m : Nat) (y : AV) (L' : List Blk) : Ex → Env → Frs → Prop
 | .normal, s, fr => match fr with | [L] => ares T fr s rs fun x => Back m L x y L' | _ => False
 | .ret, s, fr => match fr with | [L] => ares T fr s rs fun x => Back m L x y L' | _ => False
 | _, _, _ => False
/-- the contract: y is returned, the frame is L' -/
abbrev IoR (P : Program) (f : FuncId) (args : List AV) (bs : List Blk) (y : AV) (L' : List Blk) : Prop := Io P f args bs fun o L => o = .ret y ∧ L = L'
end

section
variable {T : TT} {P : Program} {js : List Nat}
theorem St.holdAs {N : Nat} {ds : Fix} {s : Env} {a : Act} {w : World} {rest : Frs} : ∀ (gs : List Nat) {c : Ctx} {L : List Blk}, St N ds c s (L :: rest) a w → ∃ c', c.le c' ∧ St N ds c' s ((L ++ gs.map fun sz => .arr sz []) :: rest) a w
 | [], c, L, h => ⟨c, Ctx.le.refl c, by simpa using h⟩
 | sz :: gs, c, L, h => by
  obtain ⟨c1, k1, k2, k3, k4, k5⟩ := h.ok.holdX 0 (.arr sz []) (.inr (.inr (.inl ⟨_, rfl⟩)))
  have h1 : St N ds c1 s ((L ++ [.arr sz []]) :: rest) a w := ⟨k5, by rw [k3]; exact h.B, h.n, h.ds, fun t => (h.rel t).mono k1⟩
  obtain ⟨c2, q1, q2⟩ := St.holdAs gs h1
  exact ⟨c2, k1.trans q1, by simpa using q2⟩
/-- places gs that hold nothing are there from the start -/
theorem io_of_awpG (gs : List Nat) (hT : T.okB P = true) {f : FuncId} {fn : Func} {body : Code} (hf : P.funcs[f]? = some fn) (hb : fn.body = some body) (hname : fnOk P f = true) {args : List AV} {bs : List Blk} {y : AV} {L' : List Blk} (hN : Nat.ble args.length fn.ntmps = true)
  (h : awp T P fn.ntmps ⟨[], bs.length⟩ js body (EndSel T fn.results.toList bs.length y L') (argsEnv 0 args) [bs ++ gs.map fun sz => .arr sz []]) : IoR P f args bs y L' := by
 have hN := Nat.le_of_ble_eq_true hN
 refine ⟨fun c w vs hok hB hn hr => .inl ⟨hname, ?_⟩⟩
 have hok0 : Ok { c with w0 := w } [bs] w := ⟨hok.len, hok.lens, fun l i e b he hb => (hok.blk l i e b he hb).mono' (Imm.le.refl _) fun _ _ e he => ⟨e, he, Ent.le.refl e⟩, hok.gho, hok.inj, hok.ge, hok.far, hok.mod, Kept.refl _ _, hok.yng⟩
 have hs := st_entry bs.length (c := { c with w0 := w }) (N := fn.ntmps) (xs := args) hok0 hB hn hN fun j hj => VRel.mono' (c := c) (c' := { c with w0 := w }) (Imm.le.refl _) (fun _ _ e he => ⟨e, he, Ent.le.refl e⟩) (hr j hj)
 obtain ⟨c1, q1, hs1⟩ := St.holdAs gs hs
 refine calls_of_wp hf hb (wp_mono (wp_mono (awp_sound hT body h hs1) fun e a w hq => Qc.mono (q1.out _) hq) ?_)
 rintro e a' w' ⟨ex, s', fr', c', h1, h2, h3, h4⟩
 have hw0 : c'.w0 = w := h3.1.w0
 have hBe : c'.B = c.B := h3.1.B
 have hXe : c'.X = c.X := h3.1.Xe
 have hfe : c'.free = c.free := by unfold Ctx.free; rw [hBe, hXe]
 have hk : Kept c.free w w' := by have := h4.ok.below; rwa [hfe, hw0] at this
 have fin : ∀ L, fr' = [L] → ares T fr' s' fn.results.toList (fun x => Back bs.length L x y L') → a'.defers = [] ∧ ∃ v, (results fn a'.tmps).run P w' = .ok v w' ∧
   ∃ (o : Out) (L : List Blk) (c2 : Ctx), (o = .ret y ∧ L = L') ∧ w.heap.size ≤ w'.heap.size ∧ c.out bs.length c2 ∧ Ok c2 [L] w' ∧
   match o with
   | .ret r => ∃ v', Ending.returned v = .returned v' ∧ VRel c2 v' r
   | .pan r => ∃ v', Ending.returned v = .panicked [{ v := v', recovered := false }] ∧ VRel c2 v' r := by
  intro L hfr hk'
  obtain ⟨v, x, k1, k2, ⟨qs, ⟨q1, q2, q5⟩, q3, q4⟩⟩ := ares_spec hT h4 hk'
  have h5 := h4.ok
  rw [hfr] at h5
  obtain ⟨c2, s1, s2, s3, s4, s5, s6, s7, s8⟩ := h5.select (nodup_of q1) q4
  have hfe2 : c2.free = c'.free := by unfold Ctx.free; rw [s1, s2]
  refine ⟨h4.ds, v, k1, .ret y, L', { c2 with w0 := c.w0 }, ⟨rfl, rfl⟩, hk.size, ⟨⟨s1.trans hBe, s2.trans hXe, rfl, ?_, fun l i e he => ?_⟩, fun i e hi he => ?_⟩, ⟨s7.len, s7.lens, fun l i e b he hb => (s7.blk l i e b he hb).mono' (Imm.le.refl _) fun _ _ e he => ⟨e, he, Ent.le.refl e⟩, s7.gho, s7.inj, s7.ge, s7.far, s7.mod, ?_, s7.yng⟩, v, rfl, VRel.mono' (c := c2) (c' := { c2 with w0 := c.w0 }) (Imm.le.refl _) (fun _ _ e he => ⟨e, he, Ent.le.refl e⟩) (s8 _ _ _ k2 q3)⟩
  ·show c.H.ext c2.H c.free
   exact h3.1.X.trans (hfe ▸ s4)
  ·-- nothing lies outside
   obtain ⟨e', he', _⟩ := h3.1.rent l i e he
   have hlen := h5.len
   have : c'.raw (1 + l) i = some e' := by rw [← Ctx.raw_drop]; exact he'
   obtain ⟨E, hE, _⟩ := Option.bind_eq_some_iff.1 this
   have hlt := (List.getElem?_eq_some_iff.1 hE).1
   simp at hlen
   omega
  ·have hq := preB_spec q2 i hi
   rw [Nat.zero_add] at hq
   obtain ⟨e', he', hle'⟩ := h3.2 i e hi he
   exact ⟨e', (s5 i i hq (ngarB_spec q5 i hi)).trans he', hle'⟩
  ·have : Kept c.free c.w0 w' := hok.below.trans hk
   show Kept c2.free c.w0 w'
   rw [hfe2, hfe]; exact this
 cases ex with
 | normal =>
  cases e <;> simp [exRel] at h1
  simp only [EndSel] at h2
  split at h2
  ·exact fin _ rfl h2
  ·exact h2.elim
 | ret =>
  cases e <;> simp [exRel] at h1
  simp only [EndSel] at h2
  split at h2
  ·exact fin _ rfl h2
  ·exact h2.elim
 | exit i => exact h2.elim
 | goto i => exact h2.elim
 | pan v => exact h2.elim
theorem io_of_awp2 (hT : T.okB P = true) {f : FuncId} {fn : Func} {body : Code} (hf : P.funcs[f]? = some fn) (hb : fn.body = some body) (hname : fnOk P f = true) {args : List AV} {bs : List Blk} {y : AV} {L' : List Blk} (hN : Nat.ble args.length fn.ntmps = true)
  (h : awp T P fn.ntmps ⟨[], bs.length⟩ js body (EndSel T fn.results.toList bs.length y L') (argsEnv 0 args) [bs]) : IoR P f args bs y L' :=
 io_of_awpG [] hT hf hb hname hN (by simpa using h)
/-- the call, in any caller -/
theorem said_ior {f : FuncId} {us args : List AV} {L0 bs : List Blk} {rest : Frs} {y : AV} {L' : List Blk} {R : Out → List Blk → Frs → Prop} (h : IoR P f args bs y L') (ps : List Nat)
  (hps : nodupB ps = true) (ha : AV.trs ps us = some args) (hb : lendK ps L0 ps = some bs)
  (hR : R (.ret ((y.bt (gOf ps L0.length)).lift 1)) [] (back ps L0 (L'.map (Blk.bt (gOf ps L0.length))) :: rest)) : Said P f us (L0 :: rest) R :=
 said_io h ps hps ha hb fun o L hh => by obtain ⟨rfl, rfl⟩ := hh; exact hR
end
end Go.Proofs.Ytemfpemejagndaa.Fw

