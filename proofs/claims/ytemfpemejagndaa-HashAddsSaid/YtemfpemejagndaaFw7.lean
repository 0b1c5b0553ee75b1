/- Each operation does what its abstract step says: numbers, strings, lengths, parts. -/
import Derived.Test.YtemfpemejagndaaFw6
set_option autoImplicit false
set_option linter.unusedVariables false
set_option linter.unusedSimpArgs false
namespace Go.Proofs.Ytemfpemejagndaa.Fw
open Go Go.RowKit Go.WideShapes

section
variable {P : Program} {t : TypeId} {ti : TI} {i : TypeInfo} {d : TypeDesc} {z : Value} {c : Ctx} {fr : Frs} {w : World}

theorem s_test {p : Prop} {b : Bool} (hb : b = true ↔ p) {K : AV → Prop} (h : test p K) : ∃ r, VRel c (.bool b) r ∧ K r := by
 have h := h.out
 cases b with
 | true => exact ⟨_, .d _ _ (.bool true), h.1 (hb.1 rfl)⟩
 | false => exact ⟨_, .d _ _ (.bool false), h.2 fun hp => by have := hb.2 hp; cases this⟩
theorem s_aint (op : BinOp) (k : IntKind) (a b : Int) {K : AV → Prop} (h : aint op k a b K) :
  ∃ v r, (Go.binOp op t (.int k a) (.int k b)).run P w = .ok v w ∧ VRel c v r ∧ K r := by
 cases op <;> simp only [aint] at h
 case add => obtain ⟨r, rfl, h⟩ := h; exact ⟨_, _, by simp [Go.binOp, Op.intArith], .d _ _ (.int _ _), h⟩
 case sub => obtain ⟨r, rfl, h⟩ := h; exact ⟨_, _, by simp [Go.binOp, Op.intArith], .d _ _ (.int _ _), h⟩
 case mul => obtain ⟨r, rfl, h⟩ := h; exact ⟨_, _, by simp [Go.binOp, Op.intArith], .d _ _ (.int _ _), h⟩
 case quo => obtain ⟨hb, r, rfl, h⟩ := h; exact ⟨_, _, by simp [Go.binOp, Op.intDiv, hb], .d _ _ (.int _ _), h⟩
 case rem => obtain ⟨hb, h⟩ := h; exact ⟨_, _, by simp [Go.binOp, Op.intDiv, hb], .d _ _ (.int _ _), h⟩
 case and => exact ⟨_, _, by simp [Go.binOp, Op.intBits], .d _ _ (.int _ _), h⟩
 case or => exact ⟨_, _, by simp [Go.binOp, Op.intBits], .d _ _ (.int _ _), h⟩
 case eql => obtain ⟨r, h1, h2⟩ := s_test (c := c) (b := (a == b)) (by simp) h; exact ⟨_, r, by simp [Go.binOp, Op.intCmp]; rfl, by simpa using h1, h2⟩
 case neq => obtain ⟨r, h1, h2⟩ := s_test (c := c) (b := (a != b)) (by simp) h; exact ⟨_, r, by simp [Go.binOp, Op.intCmp]; rfl, by simpa using h1, h2⟩
 case lss => obtain ⟨r, h1, h2⟩ := s_test (c := c) (b := decide (a < b)) (by simp) h; exact ⟨_, r, by simp [Go.binOp, Op.intCmp]; rfl, by simpa using h1, h2⟩
 case leq => obtain ⟨r, h1, h2⟩ := s_test (c := c) (b := decide (a ≤ b)) (by simp) h; exact ⟨_, r, by simp [Go.binOp, Op.intCmp]; rfl, by simpa using h1, h2⟩
 case gtr => obtain ⟨r, h1, h2⟩ := s_test (c := c) (b := decide (a > b)) (by simp) h; exact ⟨_, r, by simp [Go.binOp, Op.intCmp]; rfl, by simpa using h1, h2⟩
 case geq => obtain ⟨r, h1, h2⟩ := s_test (c := c) (b := decide (a ≥ b)) (by simp) h; exact ⟨_, r, by simp [Go.binOp, Op.intCmp]; rfl, by simpa using h1, h2⟩
theorem bytes_eq (a b : ByteArray) : (a.toList == b.toList) = true ↔ a = b := by
 simp only [beq_iff_eq]
 constructor
 ·intro h
  rw [ByteArray.toList_eq, ByteArray.toList_eq] at h
  exact bytes_inj h
 ·rintro rfl; rfl
theorem TFacts.und_bool (F : TFacts P t ti i d z) (hk : ti.kind = .bool) : P.underlying t = some .bool := by
 have h := F.kind; rw [hk] at h; have hu := F.und; cases d <;> simp [kindB] at h; exact hu
theorem TFacts.und_ptr (F : TFacts P t ti i d z) {e : TypeId} (hk : ti.kind = .ptr e) : P.underlying t = some (.pointer e) := by
 have h := F.kind; rw [hk] at h; have hu := F.und; cases d <;> simp [kindB] at h; subst h; exact hu
theorem TFacts.und_iface (F : TFacts P t ti i d z) {b : Bool} (hk : ti.kind = .iface b) : ∃ ms, P.underlying t = some (.interface ms) := by
 have h := F.kind; rw [hk] at h; have hu := F.und; cases d <;> simp [kindB] at h; exact ⟨_, hu⟩
theorem eq_deep {x y : Value} {b : Bool} (h : ∀ n, (Op.equalIn (n + 1) t x y).run P w = .ok b w) : (Op.equal t x y).run P w = .ok b w := h 9999
theorem s_aeq (F : TFacts P t ti i d z) {vx vy : Value} {x y : AV} (hx : VRel c vx x) (hy : VRel c vy y) {b : Bool} (h : aeq ti.kind x y = some b) : (Op.equal t vx vy).run P w = .ok b w ∧
  (∀ cs, vx ≠ .agg cs) ∧ (vx ≠ .nilIface ∨ vy ≠ .nilIface) ∧ (∀ (op : BinOp), op = .eql ∨ op = .neq → Go.binOp op t vx vy = match op with | .eql => (do pure (.bool (← Op.equal t vx vy)) : Sem Value) | _ => (do pure (.bool (!(← Op.equal t vx vy))) : Sem Value)) := by
 unfold aeq at h
 split at h
 ·rename_i hk
  have hu := F.und_bool hk
  split at h
  ·injection h with h; subst h
   cases hx with | d _ _ hx =>
   cases hx
   cases hy with | d _ _ hy =>
   cases hy
   exact ⟨eq_deep fun n => by simp [Op.equalIn, hu, underlying], by simp, by simp, fun op ho => by rcases ho with rfl | rfl <;> rfl⟩
  ·cases h
 ·rename_i e hk
  have hu := F.und_ptr hk
  split at h <;> (try (injection h with h; subst h)) <;> (try cases h)
  ·cases hx with | d _ _ hx =>
   cases hx
   cases hy with | d _ _ hy =>
   cases hy
   exact ⟨eq_deep fun n => by simp [Op.equalIn, hu, underlying], by simp, by simp, fun op ho => by rcases ho with rfl | rfl <;> rfl⟩
  ·cases hx with | d _ _ hx =>
   cases hx
   cases hy
   exact ⟨eq_deep fun n => by simp [Op.equalIn, hu, underlying], by simp, by simp, fun op ho => by rcases ho with rfl | rfl <;> rfl⟩
  ·cases hy with | d _ _ hy =>
   cases hy
   cases hx
   exact ⟨eq_deep fun n => by simp [Op.equalIn, hu, underlying], by simp, by simp, fun op ho => by rcases ho with rfl | rfl <;> rfl⟩
  ·cases hx with | d _ _ hx =>
   cases hx
   cases hy with | d _ _ hy =>
   cases hy
   exact ⟨eq_deep fun n => by simp [Op.equalIn, hu, underlying], by simp, by simp, fun op ho => by rcases ho with rfl | rfl <;> rfl⟩
  ·cases hx with | d _ _ hx =>
   cases hx
   cases hy with | d _ _ hy =>
   cases hy
   exact ⟨eq_deep fun n => by simp [Op.equalIn, hu, underlying], by simp, by simp, fun op ho => by rcases ho with rfl | rfl <;> rfl⟩
 ·rename_i e hk
  obtain ⟨ms, hu⟩ := F.und_iface hk
  split at h <;> (try (injection h with h; subst h)) <;> (try cases h)
  ·cases hx with | d _ _ hx =>
   cases hx
   cases hy with | d _ _ hy =>
   cases hy
   exact ⟨eq_deep fun n => by simp [Op.equalIn, hu, underlying], by simp, by simp, fun op ho => by rcases ho with rfl | rfl <;> rfl⟩
  ·cases hx with | d _ _ hx =>
   cases hx
   cases hy with | d _ _ hy =>
   cases hy
   exact ⟨eq_deep fun n => by simp [Op.equalIn, hu, underlying], by simp, by simp, fun op ho => by rcases ho with rfl | rfl <;> rfl⟩
  ·cases hx with | d _ _ hx =>
   cases hx
   cases hy
   exact ⟨eq_deep fun n => by simp [Op.equalIn, hu, underlying], by simp, by simp, fun op ho => by rcases ho with rfl | rfl <;> rfl⟩
  ·cases hy with | d _ _ hy =>
   cases hy
   cases hx
   exact ⟨eq_deep fun n => by simp [Op.equalIn, hu, underlying], by simp, by simp, fun op ho => by rcases ho with rfl | rfl <;> rfl⟩
 ·cases h
theorem eqGuard_pure (op : BinOp) (t : TypeId) (ox oy : Operand) {vx vy : Value} (h1 : ∀ cs, vx ≠ .agg cs) (h2 : vx ≠ .nilIface ∨ vy ≠ .nilIface) : eqGuard op t ox oy vx vy = pure () := by
 unfold eqGuard
 cases vx with
 | agg cs => exact absurd rfl (h1 cs)
 | nilIface =>
  rcases h2 with h2 | h2
  ·exact absurd rfl h2
  ·cases vy with
   | nilIface => exact absurd rfl h2
   | _ => cases op <;> rfl
 | _ => cases op <;> rfl
theorem s_abin (F : TFacts P t ti i d z) (op : BinOp) {vx vy : Value} {x y : AV} (hx : VRel c vx x) (hy : VRel c vy y) (ox oy : Operand) {K : AV → Prop} (h : abin ti op x y K) :
  ∃ v r, (do eqGuard op t ox oy vx vy; Go.binOp op t vx vy : Sem Value).run P w = .ok v w ∧ VRel c v r ∧ K r := by
 have guard : ∀ {vx vy : Value}, (∀ cs, vx ≠ .agg cs) → (vx ≠ .nilIface ∨ vy ≠ .nilIface) → ∀ {v : Value}, (Go.binOp op t vx vy).run P w = .ok v w → (do eqGuard op t ox oy vx vy; Go.binOp op t vx vy : Sem Value).run P w = .ok v w := by
  intro vx vy h1 h2 v hv
  rw [eqGuard_pure op t ox oy h1 h2]
  simpa using hv
 unfold abin at h
 split at h
 ·rename_i k a k' b
  cases hx with | d _ _ hx => cases hx with | int =>
  cases hy with | d _ _ hy => cases hy with | int =>
  split at h
  ·obtain ⟨hb, r, rfl, h⟩ := h
   exact ⟨_, _, guard (by simp) (by simp) (by simp only [Go.binOp, Op.shift]; rw [if_neg (by omega)]; rfl), .d _ _ (.int _ _), h⟩
  ·obtain ⟨hb, h⟩ := h
   exact ⟨_, _, guard (by simp) (by simp) (by simp only [Go.binOp, Op.shift]; rw [if_neg (by omega)]; rfl), .d _ _ (.int _ _), h⟩
  ·split at h
   ·rename_i hk
    have hk := of_decide_eq_true hk
    subst hk
    obtain ⟨v, r, h1, h2, h3⟩ := s_aint (P := P) (t := t) (c := c) (w := w) op k a b h
    exact ⟨v, r, guard (by simp) (by simp) h1, h2, h3⟩
   ·exact h.elim
 ·rename_i a b
  cases hx with | d _ _ hx => cases hx with | str =>
  cases hy with | d _ _ hy => cases hy with | str =>
  split at h
  ·obtain ⟨r, h1, h2⟩ := s_test (c := c) (bytes_eq a b) h; exact ⟨_, r, guard (by simp) (by simp) (by simp only [Go.binOp, Op.stringOp]; rfl), h1, h2⟩
  ·obtain ⟨r, h1, h2⟩ := s_test (c := c) (b := !(a.toList == b.toList)) (by have := bytes_eq a b; rw [Bool.not_eq_true', ← Bool.not_eq_true, this]) h; exact ⟨_, r, guard (by simp) (by simp) (by simp only [Go.binOp, Op.stringOp]; rfl), h1, h2⟩
  ·obtain ⟨r, h1, h2⟩ := s_test (c := c) (b := Op.bytesLess a.toList b.toList) Iff.rfl h; exact ⟨_, r, guard (by simp) (by simp) (by simp only [Go.binOp, Op.stringOp]; rfl), h1, h2⟩
  ·obtain ⟨h1, h2⟩ := h
   refine ⟨_, _, guard (by simp) (by simp) ?_, .d _ _ (.str _), h2⟩
   simp only [Go.binOp, Op.stringOp]
   rw [if_neg]
   ·rfl
   ·have : IntKind.i64.max = 9223372036854775807 := by decide
    rw [this]; omega
  ·exact h.elim
 ·rename_i a b
  split at h
  ·rename_i hk
   have hb : aeq ti.kind (.d (.bool a)) (.d (.bool b)) = some (a == b) := by rw [hk]; rfl
   obtain ⟨h1, h2, h3, h4⟩ := s_aeq (w := w) F hx hy hb
   have h : K (.d (.bool (a == b))) := by
    by_cases he : a = b
    ·have := h.out.1 he; rwa [show (a == b) = true by simpa using he]
    ·have := h.out.2 he; rwa [show (a == b) = false by simpa using he]
   exact ⟨_, _, guard h2 h3 (by rw [h4 .eql (.inl rfl)]; simp [h1]), .d _ _ (.bool _), h⟩
  ·rename_i hk
   have hb : aeq ti.kind (.d (.bool a)) (.d (.bool b)) = some (a == b) := by rw [hk]; rfl
   obtain ⟨h1, h2, h3, h4⟩ := s_aeq (w := w) F hx hy hb
   have h : K (.d (.bool !(a == b))) := by
    by_cases he : a = b
    ·have := h.out.2 (by simpa using he); rwa [show (!(a == b)) = false by simpa using he]
    ·have := h.out.1 he; rwa [show (!(a == b)) = true by simpa using he]
   exact ⟨_, _, guard h2 h3 (by rw [h4 .neq (.inr rfl)]; simp [h1]), .d _ _ (.bool _), h⟩
  ·exact h.elim
 ·split at h
  ·split at h
   ·rename_i b hb
    obtain ⟨h1, h2, h3, h4⟩ := s_aeq (w := w) F hx hy hb
    exact ⟨_, _, guard h2 h3 (by rw [h4 .eql (.inl rfl)]; simp [h1]), .d _ _ (.bool b), h⟩
   ·exact h.elim
  ·split at h
   ·rename_i b hb
    obtain ⟨h1, h2, h3, h4⟩ := s_aeq (w := w) F hx hy hb
    exact ⟨_, _, guard h2 h3 (by rw [h4 .neq (.inr rfl)]; simp [h1]), .d _ _ (.bool !b), h⟩
   ·exact h.elim
  ·exact h.elim
end
end Go.Proofs.Ytemfpemejagndaa.Fw

